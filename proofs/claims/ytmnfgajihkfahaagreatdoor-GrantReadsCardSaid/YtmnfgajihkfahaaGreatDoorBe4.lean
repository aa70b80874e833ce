/- Part 4 of the proof: Gc17, Gc18, Gc19, Gc20, Gc21, Gc22, Gc23, Gc24, Gc25, Gc26, Gc27, Gc28, Gc29, Gc30, Gc31, Gc32, Gc33, Gc34, Gc35, Gc36, Gc37, Gc38, Gc39, GmIter3, Gc40, Gc41, Gc42, Gc43, Gc44, Gc45, Gc46, Gc47, GmShelf, Gc48, GmTryzF, Gc49, GmImport. -/
import Derived.Test.YtmnfgajihkfahaaGreatDoorBe3
import Derived.RecoverIn
import Derived.Tactics
import Derived.RegionIn
import Derived.ControlIn
import Derived.Shelf.LaysM
import Derived.Shelf.Strconv.Itoa3
import Derived.Shelf.Strings.Split
import Derived.Test.YtmnfgajihkfahaaGreatDoorProg
noncomputable section
section
namespace Go.Gm.Tryz
open Go.Proofs
abbrev afv (f:FuncId) (H:GH) (N:Nat) (l:BLoc) (b:Book) (sg kn:Nat) (s:Stand) (O:Nat→Prop) (e:Ev) (r:Bool):Prop:=
 ay Tryz.prog f [evV e,.pointer (some (ga sg 0 0))] H fun x H'=>x=.ret (.bool r)∧Frm O O H H'∧ap H' N l b sg kn s O
def q9 (b:Book) (s:Stand) (e:Ev):Bool:=decide (0≤ct b.tbl e.system e.units)&&(decide (ct b.tbl e.system e.units≤mr b s)&&decide (s.waits= []))
section
variable {H:GH} {N:Nat} {l:BLoc} {b:Book} {sg kn:Nat} {s:Stand} {O:Nat→Prop}
theorem ap.st (h:ap H N l b sg kn s O):∃vl vo vg va vw vf,StIn H N l b sg kn s vl vo vg va vw vf:=by
 obtain ⟨_,_,_,_,_,_,h,_⟩:=h
 exact ⟨_,_,_,_,_,_,h⟩
theorem th (h:ap H N l b sg kn s O) (sys u:Int):ay Tryz.prog 146 [.pointer (some (ga sg 0 0)),vi sys,vi u] H fun x H'=>x=.ret (vi (ct b.tbl sys u))∧Frm O O H H'∧ap H' N l b sg kn s O:=by
 obtain ⟨_,_,_,_,_,_,h'⟩:=h.st
 refine (z7 h' sys u).mono ?_
 rintro x H' ⟨rfl,hk⟩
 have:=h.kstep hk
 exact ⟨rfl,this.2,this.1⟩
theorem anf (h:ap H N l b sg kn s O) (hw:Wf b s):ay Tryz.prog 89 [.pointer (some (ga sg 0 0))] H fun x H'=>x=.ret (vi (mr b s))∧Frm O O H H'∧ap H' N l b sg kn s O:=by
 obtain ⟨_,_,_,_,_,_,h'⟩:=h.st
 refine (acr h' (by have:=hw.len; omega)).mono ?_
 rintro x H' ⟨rfl,hk⟩
 have:=h.kstep hk
 exact ⟨rfl,this.2,this.1⟩
def dq (s:Stand) (n:Int):Bool:=decide (n<s.owners.length)&&decide (0≤s.owners.getD n.toNat 0)
theorem tu (h:ap H N l b sg kn s O) {n:Int} (hn:0≤n):C 250 [.pointer (some (ga sg 0 0)),vi n] H (.bool (dq s n)) H:=by
 obtain ⟨_,_,_,_,_,_,h'⟩:=h.st
 exact ak1 h' n hn
theorem aij (h:ap H N l b sg kn s O) (hw:Wf b s) (e:Ev):
  ay Tryz.prog 247 [.pointer (some (ga sg 0 0)),evV e] H fun x H'=>x=.ret (.bool (q9 b s e))∧Frm O O H H'∧ap H' N l b sg kn s O:=by
 rcases l with ⟨⟨⟨ra,rf⟩⟩,⟨oa,of'⟩,⟨va',vf'⟩⟩
 refine an tok mix ate (F:=a5f) (c:=_) rfl (n:=28) rfl (rs:= [.tmp 4]) rfl ?_
 simp
 obtain ⟨h1,f1⟩:=h.sub (Sub.push (.refl H) (.arr { cells:= [vi e.kind,vi e.day,vi e.person,vi e.other,vi e.estate,vi e.grant,vi e.system,vi e.units],ty:=57 }))
 refine (th h1 e.system e.units).mono ?_
 rintro x H2 ⟨rfl,f2,h2⟩
 simp
 refine bh (fun h5=>?_) (fun h5=>?_)<;>(try simp only [decide_eq_true_eq,decide_eq_false_iff_not] at h5)
 ·simp [h5]
  refine (anf h2 hw).mono ?_
  rintro x H3 ⟨rfl,f3,h3⟩
  simp
  have hf3:=f1.trans (f2.trans f3)
  refine bh (fun h6=>?_) (fun h6=>?_)<;>(try simp only [decide_eq_true_eq,decide_eq_false_iff_not] at h6)
  ·obtain ⟨_,_,_,_,vw,_,h3'⟩:=h3.st
   have hg3:=h3'.g
   have hsl:=h3'.sgl.2
   obtain ⟨aw,fw,rfl,_⟩:=h3'.waits.elems (fun _=>rfl)
   simp [h6,hg3]
   exact ⟨by simp [q9,h5,h6],hf3,h3⟩
  ·simp [h6]
   exact ⟨by simp [q9,h6],hf3,h3⟩
 ·simp [h5]
  exact ⟨by simp [q9,h5],f1.trans f2,h2⟩
theorem aoy (h:ap H N l b sg kn s O) (hw:Wf b s) (e:Ev) (hp:0≤e.person∧e.person<s.lives.length):
  afv 246 H N l b sg kn s O e (s.lives.getD e.person.toNat false&&q9 b s e):=by
 rcases l with ⟨⟨⟨ra,rf⟩⟩,⟨oa,of'⟩,⟨va',vf'⟩⟩
 refine an tok mix atd (F:=axr) (c:=_) rfl (n:=20) rfl (rs:= [.tmp 4]) rfl ?_
 obtain ⟨h1,f1⟩:=h.sub (Sub.push (.refl H) (.arr { cells:= [vi e.kind,vi e.day,vi e.person,vi e.other,vi e.estate,vi e.grant,vi e.system,vi e.units],ty:=218 }))
 obtain ⟨_,_,_,_,_,_,h1'⟩:=h1.st
 have hg1:=h1'.g
 have hsl:=h1'.sgl.2
 obtain ⟨al,fl,rfl,hE⟩:=h1'.lives.elems (fun _=>rfl)
 obtain ⟨a,rfl,hal,hrd⟩:=hE.at e.person.toNat (by omega)
 have e1:s.lives[e.person.toNat]?.getD false=s.lives[e.person.toNat]:=by rw [List.getElem?_eq_getElem (by omega)]; rfl
 simp (disch:=omega) [hg1,hrd]
 refine bi (fun h5=>?_) (fun h5=>?_)
 ·simp [h5]
  refine (aij h1 hw e).mono ?_
  rintro x H3 ⟨rfl,f3,h3⟩
  simp
  exact ⟨f1.trans f3,h3⟩
 ·simp [h5]
  exact ⟨f1,h1⟩
theorem ah2 (h:ap H N l b sg kn s O) (hw:Wf b s) (e:Ev) (hp:0≤e.estate):
  afv 249 H N l b sg kn s O e (dq s e.estate&&q9 b s e):=by
 rcases l with ⟨⟨⟨ra,rf⟩⟩,⟨oa,of'⟩,⟨va',vf'⟩⟩
 refine an tok mix atg (F:=a5g) (c:=_) rfl (n:=16) rfl (rs:= [.tmp 4]) rfl ?_
 obtain ⟨h1,f1⟩:=h.sub (Sub.push (.refl H) (.arr { cells:= [vi e.kind,vi e.day,vi e.person,vi e.other,vi e.estate,vi e.grant,vi e.system,vi e.units],ty:=219 }))
 obtain ⟨_,_,_,_,_,_,h1'⟩:=h1.st
 have hg1:=h1'.g
 have hsl:=h1'.sgl.2
 simp (disch:=omega)
 refine (tu h1 hp).go ?_
 simp
 refine bh (fun h5=>?_) (fun h5=>?_)
 ·simp [h5]
  refine (aij h1 hw e).mono ?_
  rintro x H3 ⟨rfl,f3,h3⟩
  simp
  exact ⟨f1.trans f3,h3⟩
 ·simp [h5]
  exact ⟨f1,h1⟩
theorem aq1 (h:ap H N l b sg kn s O) (_hw:Wf b s) (e:Ev) (hp:0≤e.person∧e.person<s.lives.length) (ho:0≤e.other∧e.other<s.lives.length):
  afv 252 H N l b sg kn s O e (decide (e.person≠e.other)&&(s.lives.getD e.person.toNat false&&s.lives.getD e.other.toNat false)):=by
 rcases l with ⟨⟨⟨ra,rf⟩⟩,⟨oa,of'⟩,⟨va',vf'⟩⟩
 refine an tok mix atj (F:=axt) (c:=_) rfl (n:=34) rfl (rs:= [.tmp 4]) rfl ?_
 obtain ⟨h1,f1⟩:=h.sub (Sub.push (.refl H) (.arr { cells:= [vi e.kind,vi e.day,vi e.person,vi e.other,vi e.estate,vi e.grant,vi e.system,vi e.units],ty:=220 }))
 obtain ⟨_,_,_,_,_,_,h1'⟩:=h1.st
 have hg1:=h1'.g
 have hsl:=h1'.sgl.2
 obtain ⟨al,fl,rfl,hE⟩:=h1'.lives.elems (fun _=>rfl)
 obtain ⟨a,rfl,hal,hrd⟩:=hE.at e.person.toNat (by omega)
 have e1:s.lives[e.person.toNat]?.getD false=s.lives[e.person.toNat]:=by rw [List.getElem?_eq_getElem (by omega)]; rfl
 obtain ⟨a',ha',hal',hrd'⟩:=hE.at e.other.toNat (by omega)
 cases ha'
 have e2:s.lives[e.other.toNat]?.getD false=s.lives[e.other.toNat]:=by rw [List.getElem?_eq_getElem (by omega)]; rfl
 simp (disch:=omega)
 by_cases h5:e.person=e.other
 ·simp [h5]
  rw [h5] at f1 h1
  exact ⟨f1,h1⟩
 ·simp (disch:=omega) [h5,hg1,hrd]
  refine bi (fun h6=>?_) (fun h6=>?_)
  ·simp (disch:=omega) [h6,hg1,hrd']
   exact ⟨f1,h1⟩
  ·simp [h6]
   exact ⟨f1,h1⟩
theorem aqt (h:ap H N l b sg kn s O) (_hw:Wf b s) (e:Ev) (hp:0≤e.person∧e.person<s.lives.length):
  afv 263 H N l b sg kn s O e (s.lives.getD e.person.toNat false&&decide (0≤ct b.tbl e.system e.units)):=by
 rcases l with ⟨⟨⟨ra,rf⟩⟩,⟨oa,of'⟩,⟨va',vf'⟩⟩
 refine an tok mix atu (F:=axz) (c:=_) rfl (n:=25) rfl (rs:= [.tmp 4]) rfl ?_
 obtain ⟨h1,f1⟩:=h.sub (Sub.push (.refl H) (.arr { cells:= [vi e.kind,vi e.day,vi e.person,vi e.other,vi e.estate,vi e.grant,vi e.system,vi e.units],ty:=225 }))
 obtain ⟨_,_,_,_,_,_,h1'⟩:=h1.st
 have hg1:=h1'.g
 have hsl:=h1'.sgl.2
 obtain ⟨al,fl,rfl,hE⟩:=h1'.lives.elems (fun _=>rfl)
 obtain ⟨a,rfl,hal,hrd⟩:=hE.at e.person.toNat (by omega)
 have e1:s.lives[e.person.toNat]?.getD false=s.lives[e.person.toNat]:=by rw [List.getElem?_eq_getElem (by omega)]; rfl
 simp (disch:=omega) [hg1,hrd]
 refine bi (fun h5=>?_) (fun h5=>?_)
 ·simp [h5]
  refine (th h1 e.system e.units).mono ?_
  rintro x H3 ⟨rfl,f3,h3⟩
  simp
  exact ⟨f1.trans f3,h3⟩
 ·simp [h5]
  exact ⟨f1,h1⟩
theorem apx (h:ap H N l b sg kn s O) (_hw:Wf b s) (e:Ev) (hp:0≤e.person∧e.person<s.lives.length) (ho:0≤e.estate):
  afv 255 H N l b sg kn s O e (dq s e.estate&&(s.lives.getD e.person.toNat false&&decide (s.owners.getD e.estate.toNat 0≠e.person))):=by
 rcases l with ⟨⟨⟨ra,rf⟩⟩,⟨oa,of'⟩,⟨va',vf'⟩⟩
 refine an tok mix atl (F:=axv) (c:=_) rfl (n:=36) rfl (rs:= [.tmp 4]) rfl ?_
 obtain ⟨h1,f1⟩:=h.sub (Sub.push (.refl H) (.arr { cells:= [vi e.kind,vi e.day,vi e.person,vi e.other,vi e.estate,vi e.grant,vi e.system,vi e.units],ty:=221 }))
 obtain ⟨_,_,_,_,_,_,h1'⟩:=h1.st
 have hg1:=h1'.g
 have hsl:=h1'.sgl.2
 obtain ⟨al,fl,rfl,hE⟩:=h1'.lives.elems (fun _=>rfl)
 obtain ⟨a,rfl,hal,hrd⟩:=hE.at e.person.toNat (by omega)
 have e1:s.lives[e.person.toNat]?.getD false=s.lives[e.person.toNat]:=by rw [List.getElem?_eq_getElem (by omega)]; rfl
 obtain ⟨ao,fo,rfl,hO⟩:=h1'.owners.elems (fun _=>rfl)
 simp (disch:=omega)
 refine (tu h1 ho).go ?_
 simp
 refine bi (fun h5=>?_) (fun h5=>?_)
 ·have h5':=h5
  simp only [dq,Bool.and_eq_true,decide_eq_true_eq] at h5'
  obtain ⟨ao,rfl,hao,hro⟩:=hO.at e.estate.toNat (by omega)
  have e2:s.owners[e.estate.toNat]?.getD 0=s.owners[e.estate.toNat]'(by omega):=by rw [List.getElem?_eq_getElem (by omega)]; rfl
  simp (disch:=omega) [h5,hg1,hrd]
  refine bi (fun h6=>?_) (fun h6=>?_)
  ·simp (disch:=omega) [h6,hg1,hro]
   exact ⟨f1,h1⟩
  ·simp [h6]
   exact ⟨f1,h1⟩
 ·simp [h5]
  exact ⟨f1,h1⟩
theorem al8 (h:ap H N l b sg kn s O) (_hw:Wf b s) (e:Ev) (hp:0≤e.grant):
  afv 261 H N l b sg kn s O e (decide (e.grant<s.grants.length)&&(decide ((s.grants.getD e.grant.toNat default).is=2)&&decide ((s.grants.getD e.grant.toNat default).person=e.person))):=by
 rcases l with ⟨⟨⟨ra,rf⟩⟩,⟨oa,of'⟩,⟨va',vf'⟩⟩
 refine an tok mix atr (F:=axy) (c:=_) rfl (n:=43) rfl (rs:= [.tmp 4]) rfl ?_
 obtain ⟨h1,f1⟩:=h.sub (Sub.push (.refl H) (.arr { cells:= [vi e.kind,vi e.day,vi e.person,vi e.other,vi e.estate,vi e.grant,vi e.system,vi e.units],ty:=224 }))
 obtain ⟨_,_,_,_,_,_,h1'⟩:=h1.st
 have hg1:=h1'.g
 have hsl:=h1'.sgl.2
 obtain ⟨ag,fg,rfl,hG⟩:=h1'.grants.elems (fun _=>rfl)
 simp (disch:=omega) [hg1]
 refine bi (fun h5=>?_) (fun h5=>?_)<;>(try simp only [decide_eq_true_eq,decide_eq_false_iff_not] at h5)
 ·obtain ⟨ag,rfl,hag,hrg⟩:=hG.at e.grant.toNat (by omega)
  have e1:s.grants[e.grant.toNat]?.getD default=s.grants[e.grant.toNat]'(by omega):=by rw [List.getElem?_eq_getElem (by omega)]; rfl
  simp (disch:=omega) [h5,hg1,hrg]
  refine bi (fun h6=>?_) (fun h6=>?_)<;>(try simp only [decide_eq_true_eq,decide_eq_false_iff_not] at h6)
  ·simp (disch:=omega) [h6,hg1,hrg]
   exact ⟨f1,h1⟩
  ·simp [h6]
   exact ⟨f1,h1⟩
 ·simp [h5]
  exact ⟨f1,h1⟩
theorem ao7 (h:ap H N l b sg kn s O) (_hw:Wf b s) (e:Ev) (ho:0≤e.other) (hp:0≤e.estate):
  afv 259 H N l b sg kn s O e (decide (e.estate≠e.other)&&(dq s e.estate&&(dq s e.other&&decide (s.owners.getD e.estate.toNat 0=s.owners.getD e.other.toNat 0)))):=by
 rcases l with ⟨⟨⟨ra,rf⟩⟩,⟨oa,of'⟩,⟨va',vf'⟩⟩
 refine an tok mix atp (F:=axw) (c:=_) rfl (n:=47) rfl (rs:= [.tmp 4]) rfl ?_
 obtain ⟨h1,f1⟩:=h.sub (Sub.push (.refl H) (.arr { cells:= [vi e.kind,vi e.day,vi e.person,vi e.other,vi e.estate,vi e.grant,vi e.system,vi e.units],ty:=223 }))
 obtain ⟨_,_,_,_,_,_,h1'⟩:=h1.st
 have hg1:=h1'.g
 have hsl:=h1'.sgl.2
 obtain ⟨ao,fo,rfl,hO⟩:=h1'.owners.elems (fun _=>rfl)
 have hx:=tu h1 hp
 have hy:=tu h1 ho
 simp (disch:=omega)
 refine bi (fun h4=>?_) (fun h4=>?_)<;>(try simp only [Bool.not_eq_true',Bool.not_eq_false',decide_eq_true_eq,decide_eq_false_iff_not] at h4)
 ·simp [h4]
  refine hx.go ?_
  simp
  refine bi (fun h5=>?_) (fun h5=>?_)
  ·simp [h5]
   refine hy.go ?_
   simp
   refine bi (fun h6=>?_) (fun h6=>?_)
   ·have h5':=h5
    have h6':=h6
    simp only [dq,Bool.and_eq_true,decide_eq_true_eq] at h5' h6'
    obtain ⟨ao,rfl,hao,hro⟩:=hO.at e.estate.toNat (by omega)
    obtain ⟨ao',ha',hao',hro'⟩:=hO.at e.other.toNat (by omega)
    cases ha'
    have e1:s.owners[e.estate.toNat]?.getD 0=s.owners[e.estate.toNat]'(by omega):=by rw [List.getElem?_eq_getElem (by omega)]; rfl
    have e2:s.owners[e.other.toNat]?.getD 0=s.owners[e.other.toNat]'(by omega):=by rw [List.getElem?_eq_getElem (by omega)]; rfl
    simp (disch:=omega) [h6,hg1,hro,hro']
    exact ⟨f1,h1⟩
   ·simp [h6]
    exact ⟨f1,h1⟩
  ·simp [h5]
   exact ⟨f1,h1⟩
 ·simp [h4]
  rw [h4] at f1 h1
  exact ⟨f1,h1⟩
def yi (b:Book) (s:Stand) (sys all one:Int):Bool:=
 decide (0≤ct b.tbl sys one)&&(decide (0≤ct b.tbl sys (IntKind.i64.wrap (all - one)))&&
  decide (IntKind.i64.wrap (IntKind.i64.wrap (ct b.tbl sys one+ct b.tbl sys (IntKind.i64.wrap (all - one))) - ct b.tbl sys all)≤mr b s))
def nn (b:Book) (s:Stand) (e:Ev):Bool:=
 decide (e.grant<s.grants.length)&&(decide (0≤(s.grants.getD e.grant.toNat default).estate)&&(decide (e.units<(s.grants.getD e.grant.toNat default).units)&&(s.lives.getD e.person.toNat false&&
  yi b s (s.grants.getD e.grant.toNat default).system (s.grants.getD e.grant.toNat default).units e.units)))
theorem aia (h:ap H N l b sg kn s O) (hw:Wf b s) (e:Ev) (hp:0≤e.person∧e.person<s.lives.length) (hg:0≤e.grant):
  afv 257 H N l b sg kn s O e (nn b s e):=by
 rcases l with ⟨⟨⟨ra,rf⟩⟩,⟨oa,of'⟩,⟨va',vf'⟩⟩
 refine an tok mix atn (F:=aow) (c:=_) rfl (n:=105) rfl (rs:= [.tmp 4]) rfl ?_
 obtain ⟨h1,f1⟩:=h.sub (Sub.push (.refl H) (.arr { cells:= [vi e.kind,vi e.day,vi e.person,vi e.other,vi e.estate,vi e.grant,vi e.system,vi e.units],ty:=222 }))
 obtain ⟨_,_,_,_,_,_,h1'⟩:=h1.st
 have hg1:=h1'.g
 have hsl:=h1'.sgl.2
 obtain ⟨al,fl,rfl,hE⟩:=h1'.lives.elems (fun _=>rfl)
 obtain ⟨a,rfl,hal,hrd⟩:=hE.at e.person.toNat (by omega)
 have e1:s.lives[e.person.toNat]?.getD false=s.lives[e.person.toNat]:=by rw [List.getElem?_eq_getElem (by omega)]; rfl
 obtain ⟨ag,fg,rfl,hG⟩:=h1'.grants.elems (fun _=>rfl)
 simp (disch:=omega) [hg1]
 refine bi (fun h5=>?_) (fun h5=>?_)<;>(try simp only [Bool.not_eq_true',Bool.not_eq_false',decide_eq_true_eq,decide_eq_false_iff_not] at h5)
 ·have hgl:e.grant<s.grants.length:=by omega
  obtain ⟨ag,rfl,hag,hrg⟩:=hG.at e.grant.toNat (by omega)
  have e2:s.grants[e.grant.toNat]?.getD default=s.grants[e.grant.toNat]'(by omega):=by rw [List.getElem?_eq_getElem (by omega)]; rfl
  generalize hG:s.grants[e.grant.toNat]'(by omega)=G at hrg e2
  simp (disch:=omega) [h5,hg1,hrg]
  refine bi (fun h6=>?_) (fun h6=>?_)<;>(try simp only [Bool.not_eq_true',Bool.not_eq_false',decide_eq_true_eq,decide_eq_false_iff_not] at h6)
  ·have h6':0≤G.estate:=by omega
   simp (disch:=omega) [h6,hg1,hrg]
   refine bi (fun h7=>?_) (fun h7=>?_)<;>(try simp only [Bool.not_eq_true',Bool.not_eq_false',decide_eq_true_eq,decide_eq_false_iff_not] at h7)
   ·have h7':e.units<G.units:=by omega
    simp (disch:=omega) [h7,hg1,hrd]
    refine ck (fun h8=>?_) (fun h8=>?_)<;>(try simp only [Bool.not_eq_true',Bool.not_eq_false'] at h8)
    ·simp [nn,h6',h7',h8,hgl,e2,e1]
     exact ⟨f1,h1⟩
    ·have hO1:∀g,O g→g<H.next:=fun g ho=>(h.lt g ho).2
     simp (disch:=omega) [hg1,hrg,h8]
     generalize hH2:GH.put _ _ _=H2
     have hs2:Sub (H.push (.arr { cells:= [vi e.kind,vi e.day,vi e.person,vi e.other,vi e.estate,vi e.grant,vi e.system,vi e.units],ty:=222 })) H2:=by
      subst hH2; exact (Sub.push (.refl _) _).put (Nat.le_refl _) _
     have hb2:H2.get (H.next+1)=some (.arr { cells:=kg G,ty:=53 }):=by subst hH2; simp
     have he2:H2.get H.next=some (.arr { cells:= [vi e.kind,vi e.day,vi e.person,vi e.other,vi e.estate,vi e.grant,vi e.system,vi e.units],ty:=222 }):=by rw [hs2.2 _ (by simp)]; simp
     have hn2:H.next+1<H2.next:=by subst hH2; simp
     clear hH2
     obtain ⟨h2,f2⟩:=h1.sub hs2
     refine (th h2 G.system e.units).mono ?_
     rintro x H3 ⟨rfl,f3,h3⟩
     have hb3:=(f3.keep _ hn2 fun ho=>by have:=hO1 _ ho; omega).trans hb2
     have he3:=(f3.keep _ (show H.next<H2.next by omega) fun ho=>by have:=hO1 _ ho; omega).trans he2
     simp (disch:=omega) [hb3,he3]
     refine (th h3 G.system _).mono ?_
     rintro x H4 ⟨rfl,f4,h4⟩
     have hb4:=(f4.keep _ (show H.next+1<H3.next by have:=f3.next; omega) fun ho=>by have:=hO1 _ ho; omega).trans hb3
     have he4:=(f4.keep _ (show H.next<H3.next by have:=f3.next; omega) fun ho=>by have:=hO1 _ ho; omega).trans he3
     have hf4:=f1.trans (f2.trans (f3.trans f4))
     have hpre:nn b s e=yi b s G.system G.units e.units:=by simp [nn,h6',h7',h8,hgl,e2,e1]
     rw [hpre]
     simp (disch:=omega)
     refine bh (fun h9=>?_) (fun h9=>?_)<;>(try simp only [decide_eq_true_eq,decide_eq_false_iff_not] at h9)
     ·simp [h9]
      refine bh (fun h10=>?_) (fun h10=>?_)<;>(try simp only [decide_eq_true_eq,decide_eq_false_iff_not] at h10)
      ·simp (disch:=omega) [h10,hb4]
       refine (th h4 G.system G.units).mono ?_
       rintro x H5 ⟨rfl,f5,h5⟩
       simp
       refine (anf h5 hw).mono ?_
       rintro x H6 ⟨rfl,f6,h6⟩
       simp
       exact ⟨by simp [yi,h9,h10],hf4.trans (f5.trans f6),h6⟩
      ·simp [h10]
       exact ⟨by simp [yi,h10],hf4,h4⟩
     ·simp [h9]
      exact ⟨by simp [yi,h9],hf4,h4⟩
   ·have h7':¬e.units<G.units:=by omega
    simp [nn,h6',h7,h7',hgl,e2]
    exact ⟨f1,h1⟩
  ·have h6':¬0≤G.estate:=by omega
   simp [nn,h6,h6',hgl,e2]
   exact ⟨f1,h1⟩
 ·have hgl:¬e.grant<s.grants.length:=by omega
  simp [nn,h5,hgl]
  exact ⟨f1,h1⟩
end
end Go.Gm.Tryz
end
section
namespace Go.Gm.Tryz
open Go.Proofs
abbrev afu (f:FuncId) (H:GH) (N:Nat) (l:BLoc) (b:Book) (sg kn:Nat) (O:Nat→Prop) (e:Ev) (n:Nat) (s':Stand):Prop:=
 ay Tryz.prog f [evV e,.pointer (some (ga sg 0 0)),vi n] H fun x H'=>x=.ret (.tuple #[])∧∃O',Frm O O' H H'∧ap H' N l b sg kn s' O'
section
variable {H:GH} {N:Nat} {l:BLoc} {b:Book} {sg kn:Nat} {s:Stand} {O:Nat→Prop}
def air (s:Stand) (e:Ev):Stand:=ek s e.person (-1) e.system e.units
theorem ax1 (h:ap H N l b sg kn s O) (hw:Wf b s) (e:Ev) (n:Nat):afu 245 H N l b sg kn O e n (air s e):=by
 rcases l with ⟨⟨⟨ra,rf⟩⟩,⟨oa,of'⟩,⟨va',vf'⟩⟩
 refine an tok mix atc (F:=a5e) (c:=_) rfl (n:=17) rfl (rs:= []) rfl ?_
 obtain ⟨h1,f1⟩:=h.sub (Sub.push (.refl H) (.arr { cells:= [vi e.kind,vi e.day,vi e.person,vi e.other,vi e.estate,vi e.grant,vi e.system,vi e.units],ty:=218 }))
 simp
 refine (abl h1 (by have:=hw.len; omega) (by have:=hw.len; have:=hw.last; omega) _ _ _ _).mono ?_
 rintro x H3 ⟨rfl,O3,f3,h3⟩
 simp
 exact ⟨O3,f1.trans f3,h3⟩
def qd (s:Stand) (e:Ev):Stand:=ek s (s.owners.getD e.estate.toNat 0) e.estate e.system e.units
theorem aod (h:ap H N l b sg kn s O) (hw:Wf b s) (e:Ev) (n:Nat) (he:0≤e.estate∧e.estate<s.owners.length):afu 248 H N l b sg kn O e n (qd s e):=by
 rcases l with ⟨⟨⟨ra,rf⟩⟩,⟨oa,of'⟩,⟨va',vf'⟩⟩
 refine an tok mix atf (F:=axs) (c:=_) rfl (n:=26) rfl (rs:= []) rfl ?_
 obtain ⟨h1,f1⟩:=h.sub (Sub.push (.refl H) (.arr { cells:= [vi e.kind,vi e.day,vi e.person,vi e.other,vi e.estate,vi e.grant,vi e.system,vi e.units],ty:=219 }))
 obtain ⟨_,_,_,_,_,_,h1'⟩:=h1.st
 have hg1:=h1'.g
 have hsl:=h1'.sgl.2
 obtain ⟨ao,fo,rfl,hO⟩:=h1'.owners.elems (fun _=>rfl)
 obtain ⟨ao,rfl,hao,hro⟩:=hO.at e.estate.toNat (by omega)
 have e2:s.owners.getD e.estate.toNat 0=s.owners[e.estate.toNat]'(by omega):=bc (by omega)
 simp (disch:=omega) [hg1,hro]
 refine (abl h1 (by have:=hw.len; omega) (by have:=hw.len; have:=hw.last; omega) _ _ _ _).mono ?_
 rintro x H3 ⟨rfl,O3,f3,h3⟩
 simp
 exact ⟨O3,f1.trans f3,by unfold qd; rw [e2]; exact h3⟩
theorem ay2 (h:ap H N l b sg kn s O) (hw:Wf b s) (e:Ev) (n:Nat) (he:0≤e.estate∧e.estate<s.owners.length):afu 254 H N l b sg kn O e n (jz s e.estate.toNat e.person):=by
 rcases l with ⟨⟨⟨ra,rf⟩⟩,⟨oa,of'⟩,⟨va',vf'⟩⟩
 refine an tok mix atk (F:=a5i) (c:=_) rfl (n:=14) rfl (rs:= []) rfl ?_
 obtain ⟨h1,f1⟩:=h.sub (Sub.push (.refl H) (.arr { cells:= [vi e.kind,vi e.day,vi e.person,vi e.other,vi e.estate,vi e.grant,vi e.system,vi e.units],ty:=221 }))
 simp
 have:=ayn h1 (by have:=hw.len; omega) e.estate.toNat (by omega) e.person
 rw [Int.toNat_of_nonneg he.1] at this
 refine this.mono ?_
 rintro x H3 ⟨rfl,O3,f3,h3⟩
 simp
 exact ⟨O3,f1.trans f3,h3⟩
theorem Frm.wr {O:Nat→Prop} {H H1:GH} {k:Nat} (hO:∀g,O g→g<H.next) (ho:O k) (hn:H1.next=H.next) (hs:∀g,g≠k→H1.get g=H.get g):Frm O O H H1:=
 ⟨by omega,fun g _ h=>hs g fun hc=>h (hc▸ho),fun g hg=>.inl hg,fun g hg=>by rw [hn]; exact hO g hg⟩
def mo (s:Stand) (e:Ev):Stand:= { s with grants:=s.grants.set e.grant.toNat { s.grants.getD e.grant.toNat default with is:=1 } }
theorem avh (h:ap H N l b sg kn s O) (_hw:Wf b s) (e:Ev) (n:Nat) (he:0≤e.grant∧e.grant<s.grants.length):afu 260 H N l b sg kn O e n (mo s e):=by
 rcases l with ⟨⟨⟨ra,rf⟩⟩,⟨oa,of'⟩,⟨va',vf'⟩⟩
 refine an tok mix atq (F:=axx) (c:=_) rfl (n:=15) rfl (rs:= []) rfl ?_
 obtain ⟨h1,f1⟩:=h.sub (Sub.push (.refl H) (.arr { cells:= [vi e.kind,vi e.day,vi e.person,vi e.other,vi e.estate,vi e.grant,vi e.system,vi e.units],ty:=224 }))
 have hl1:=fun g ho=>(h1.lt g ho).2
 obtain ⟨_,_,_,_,_,_,h1',hO1⟩:=h1
 have hg1:=h1'.g
 have hsl:=h1'.sgl.2
 obtain ⟨ag,fg,rfl,hG⟩:=h1'.grants.elems (fun _=>rfl)
 obtain ⟨ag,rfl,hag,hrg⟩:=hG.at e.grant.toNat (by omega)
 have hbk:=h1'.grants.blk_some
 have e2:s.grants.getD e.grant.toNat default=s.grants[e.grant.toNat]'(by omega):=bc (by omega)
 obtain ⟨H2,hw2,ho2,hn2,hs2⟩:=h1'.grants.wr (fun _=>rfl) (i:=e.grant.toNat) (k:=0) (by omega) (c:=vi 1) (new:= []) (by simp) (y:= { s.grants[e.grant.toNat]'(by omega) with is:=1 }) (by simp [splice])
 have hS2:=h1'.wr_grants (H1:=H2) (by omega) ho2 (fun k hk hne=>hs2 k fun hc=>hne (by rw [hbk,hc]))
 simp (disch:=omega) [hg1,hw2]
 exact ⟨O,f1.trans (Frm.wr hl1 ((hO1 _).2 (.inr (.inr (.inr (.inr (.inl hbk)))))) hn2 hs2),by unfold mo; rw [e2]; exact ⟨_,_,_,_,_,_,hS2,hO1⟩⟩
def aaz (s:Stand) (n:Int):Stand:= { s with waits:=s.waits++ [n] }
theorem a1q (h:ap H N l b sg kn s O) (hw:Wf b s) (e:Ev) (n:Nat):afu 262 H N l b sg kn O e n (aaz s n):=by
 rcases l with ⟨⟨⟨ra,rf⟩⟩,⟨oa,of'⟩,⟨va',vf'⟩⟩
 refine an tok mix att (F:=a5j) (c:=_) rfl (n:=16) rfl (rs:= []) rfl ?_
 obtain ⟨h1,f1⟩:=h.sub (Sub.push (.refl H) (.arr { cells:= [vi e.kind,vi e.day,vi e.person,vi e.other,vi e.estate,vi e.grant,vi e.system,vi e.units],ty:=225 }))
 obtain ⟨vl,vo,vg,va,vw,vf,h1',hO1⟩:=h1
 have hg1:=h1'.g
 have hsl:=h1'.sgl.2
 have hsN:=h1'.sgl.1
 have hlw:=h1'.waits.len
 have hle:=hw.len
 generalize hH1:H.push _=H1 at*
 have hn1:H1.next=H.next+1:=by rw [←hH1]; simp
 have hge:H1.get H.next=some (.arr { cells:= [vi e.kind,vi e.day,vi e.person,vi e.other,vi e.estate,vi e.grant,vi e.system,vi e.units],ty:=225 }):=by rw [←hH1]; simp
 obtain ⟨vw',H2,happ,ho2,hn2,hf2,hb2⟩:=(h1'.waits.push (.arr { cells:= [vi n],ty:=3 })).app (by simp) (by simp) (by decide) (n:Int) (by simp; omega)
 simp only [ca] at happ
 have d8:8*(1+s.waits.length)≤1000000:=by omega
 have d9:1+s.waits.length≤1000000:=by omega
 have hg2:=(hf2 sg (by simp; omega) (h1'.sg_ne h1'.waits (by decide))).trans ((GH.get_push_lt _ _ hsl).trans hg1)
 simp only [GH.next_push] at hn2
 obtain ⟨aw,fw,rfl⟩:=ho2.slice
 simp (disch:=omega) [hH1]
 simp (disch:=omega) [hg1,hlw,d8,d9,happ,hg2]
 have hS2:=h1'.upd_waits (by omega) ho2 (fun k hk hne=>by rw [hf2 k (by simp; omega) hne,GH.get_push_lt _ _ hk]) (fun k hk=>(hb2 k hk).imp id fun h=>by simp at h; omega)
 simp only [bq,List.cons_append,List.nil_append,List.length_append,List.length_cons,List.length_nil,Nat.zero_add] at hS2 hb2
 obtain ⟨O3,f3,h3⟩:=ap.of h1' hO1 hS2 (by simp; omega) (fun k hk ho=>by
  rw [hO1] at ho
  rw [GH.get_put_ne _ _ (fun hc=>ho (.inl hc)),hf2 k (by simp; omega) (fun hc=>ho (.inr (.inr (.inr (.inr (.inr (.inr (.inl hc)))))))),GH.get_push_lt _ _ (by omega)])
  (fun k hk=>.inl hk) (fun k hk=>.inl hk) (fun k hk=>.inl hk) (fun k hk=>.inl hk) (fun k hk=>(hb2 k hk).imp id fun h=>by simp at h; omega) (fun k hk=>.inl hk)
 exact ⟨O3,f1.trans f3,h3⟩
def gh (e:Ev) (x:GSt):GSt:=if x.estate=e.other then { x with estate:=e.estate } else x
def nq (s:Stand) (e:Ev):Stand:= { s with owners:=s.owners.set e.other.toNat (-1),grants:=s.grants.map (gh e) }
theorem ax9 (h:ap H N l b sg kn s O) (hw:Wf b s) (e:Ev) (n:Nat) (he:0≤e.other∧e.other<s.owners.length):afu 258 H N l b sg kn O e n (nq s e):=by
 rcases l with ⟨⟨⟨ra,rf⟩⟩,⟨oa,of'⟩,⟨va',vf'⟩⟩
 refine an tok mix ato (F:=at1) (c:=_) rfl (n:=43) rfl (rs:= []) rfl ?_
 obtain ⟨h1,f1⟩:=h.sub (Sub.push (.refl H) (.arr { cells:= [vi e.kind,vi e.day,vi e.person,vi e.other,vi e.estate,vi e.grant,vi e.system,vi e.units],ty:=223 }))
 have hle:=hw.len
 have hl1:=fun g ho=>(h1.lt g ho).2
 have hge:(H.push (.arr { cells:= [vi e.kind,vi e.day,vi e.person,vi e.other,vi e.estate,vi e.grant,vi e.system,vi e.units],ty:=223 })).get H.next=some (.arr { cells:= [vi e.kind,vi e.day,vi e.person,vi e.other,vi e.estate,vi e.grant,vi e.system,vi e.units],ty:=223 }):=by simp
 have hOl:∀g,O g→g<H.next:=fun g hg=>(h.lt g hg).2
 have hnx:(H.push (.arr { cells:= [vi e.kind,vi e.day,vi e.person,vi e.other,vi e.estate,vi e.grant,vi e.system,vi e.units],ty:=223 })).next=H.next+1:=by simp
 generalize hH1:H.push _=H1 at*
 obtain ⟨vl,vo,vg,va,vw,vf,h1,hO⟩:=h1
 have hg:=h1.g
 have hsl:=h1.sgl.2
 obtain ⟨ao,fo,rfl,hE⟩:=h1.owners.elems (fun _=>rfl)
 obtain ⟨ao,rfl,hob,_⟩:=hE.at e.other.toNat (by omega)
 obtain ⟨ag,fg,rfl,hEg⟩:=h1.grants.elems (fun _=>rfl)
 have hbk:=h1.owners.blk_some
 obtain ⟨H2,hw2,ho2,hn2,hs2⟩:=h1.owners.wr (fun _=>rfl) (i:=e.other.toNat) (k:=0) (by omega) (c:=vi (-1)) (new:= []) (by simp) (y:=(-1:Int)) (by simp [splice])
 have hbgs:ao.block≠sg:=fun hc=>h1.sg_ne h1.owners (by decide) (by rw [hbk,hc])
 have hOo:O ao.block:=(hO _).2 (.inr (.inr (.inr (.inl hbk))))
 have hg2:=(hs2 sg (Ne.symm hbgs)).trans hg
 have he2:=(hs2 H.next (fun hc=>by have:=hOl _ hOo; omega)).trans hge
 have hS2:=h1.wr_owners (H1:=H2) (by omega) ho2 (fun k hk hne=>hs2 k fun hc=>hne (by rw [hbk,hc]))
 have f2:Frm O O H1 H2:=Frm.wr hl1 hOo hn2 hs2
 simp (disch:=omega) [hH1]
 simp (disch:=omega) [hg,hge,hw2,hg2]
 refine cv tok mix (by kernel_rfl) s.grants.length (fun i ρ m H3=>ρ 1=.pointer (some (ga sg 0 0))∧ρ 3=.pointer (some (ga H.next 0 0))∧ρ 19=.slice ag s.grants.length fg∧ρ 20=vi s.grants.length∧ρ 21=vi i∧m= []∧Frm O O H2 H3∧
  StIn H3 N ⟨⟨⟨ra,rf⟩⟩,⟨oa,of'⟩,⟨va',vf'⟩⟩ b sg kn { s with owners:=s.owners.set e.other.toNat (-1),grants:=ke (gh e) s.grants i } vl (.slice (some ao) s.owners.length fo) (.slice ag s.grants.length fg) va vw vf) (i0:=0) (by omega)
  ⟨by simp,by simp,by simp,by simp,by simp,by simp,Frm.refl f2.lt,by simpa [kj] using hS2⟩ ?_
 rintro i ρ m H3 hi ⟨e1,e3,e19,e20,e21,rfl,f3,h3⟩
 have hg3:=h3.g
 have he3:=(f3.keep H.next (by omega) (fun hc=>by have:=hOl _ hc; omega)).trans he2
 have hn3:=f3.next
 simp [e20,e21]
 refine ba (fun hlt2=>?_) (fun hge=>?_)
 ·obtain ⟨a2,rfl,hab,hrd⟩:=(h3.grants.elems' (fun _=>rfl)).at i (by rw [iy]; exact hlt2)
  rw [iv _ hlt2] at hrd
  have hltI:(i:Int)<s.grants.length:=by omega
  have hbk2:=h3.grants.blk_some
  simp (disch:=omega) [e3,e19,e21,hrd,he3]
  have hsu:=ng (gh e) hlt2
  generalize hH4:GH.put _ _ _=H4
  have hs4:Sub H3 H4:=by subst hH4; exact (Sub.push (.refl H3) _).put (Nat.le_refl _) _
  have hb4:H4.get H3.next=some (.arr { cells:=kg s.grants[i],ty:=53 }):=by subst hH4; simp
  have he4:=(hs4.2 H.next (by omega)).trans he3
  have hl4:H3.next<H4.next:=by subst hH4; simp
  clear hH4
  have h4:=h3.sub hs4
  have hg4:=h4.g
  have hsl4:=h4.sgl.2
  have f4:Frm O O H3 H4:=Frm.of_sub f3.lt hs4
  try simp (disch:=omega) [hb4,he4,e1,e3]
  refine ba (fun h5=>?_) (fun h5=>?_)
  ·obtain ⟨H5,hw5,ho5,hn5,hs5⟩:=h4.grants.wr (fun _=>rfl) (i:=i) (k:=2) (by rw [iy]; exact hlt2) (c:=vi e.estate) (new:= []) (by simp) (y:= { s.grants[i] with estate:=e.estate }) (by rw [iv _ hlt2]; simp [splice])
   simp (disch:=omega) [e1,e3,hg4,he4,hw5]
   have h5':=h4.wr_grants (H1:=H5) (by omega) ho5 (fun k hk hne=>hs5 k fun hc=>hne (by rw [hbk2,hc]))
   have f5:Frm O O H4 H5:=Frm.wr f4.lt ((hO _).2 (.inr (.inr (.inr (.inr (.inl hbk2)))))) hn5 hs5
   simp (disch:=omega) [e1,e3,e19,e20,e21,hlt2,aj]
   refine ⟨f3.trans (f4.trans f5),?_⟩
   rw [hsu]; unfold gh; rw [if_pos h5]; exact h5'
  ·simp (disch:=omega) [e1,e3,e19,e20,e21,hlt2,aj]
   refine ⟨f3.trans f4,?_⟩
   rw [hsu]
   have:(ke (gh e) s.grants i).set i (gh e s.grants[i])=ke (gh e) s.grants i:=by
    have hj:gh e s.grants[i]=s.grants[i]:=by unfold gh; rw [if_neg h5]
    rw [hj]
    conv=>lhs; rw [←iv (gh e) hlt2]
    exact List.set_getElem_self _
   rw [this]; exact h4
 ·have:i=s.grants.length:=by omega
  subst this
  rw [p6] at h3
  simp
  exact ⟨O,f1.trans (f2.trans f3),_,_,_,_,_,_,h3,hO⟩
end
end Go.Gm.Tryz
end
section
namespace Go.Gm.Tryz
open Go.Proofs
section
variable {H:GH} {N:Nat} {l:BLoc} {b:Book} {sg kn:Nat} {s:Stand} {O:Nat→Prop}
def fy (s:Stand) (e:Ev):Stand:=
 ek { s with owners:=s.owners++ [e.person],grants:=s.grants.set e.grant.toNat { s.grants.getD e.grant.toNat default with units:=IntKind.i64.wrap ((s.grants.getD e.grant.toNat default).units - e.units) } }
  e.person s.owners.length (s.grants.getD e.grant.toNat default).system e.units
theorem aoj (h:ap H N l b sg kn s O) (hw:Wf b s) (e:Ev) (n:Nat) (he:0≤e.grant∧e.grant<s.grants.length):afu 256 H N l b sg kn O e n (fy s e):=by
 rcases l with ⟨⟨⟨ra,rf⟩⟩,⟨oa,of'⟩,⟨va',vf'⟩⟩
 refine an tok mix atm (F:=alb) (c:=_) rfl (n:=57) rfl (rs:= []) rfl ?_
 obtain ⟨h1,f1⟩:=h.sub (Sub.push (.refl H) (.arr { cells:= [vi e.kind,vi e.day,vi e.person,vi e.other,vi e.estate,vi e.grant,vi e.system,vi e.units],ty:=222 }))
 have hle:=hw.len
 have hlo:=hw.own
 have hla:=hw.last
 have hl1:=fun g ho=>(h1.lt g ho).2
 have hge:(H.push (.arr { cells:= [vi e.kind,vi e.day,vi e.person,vi e.other,vi e.estate,vi e.grant,vi e.system,vi e.units],ty:=222 })).get H.next=some (.arr { cells:= [vi e.kind,vi e.day,vi e.person,vi e.other,vi e.estate,vi e.grant,vi e.system,vi e.units],ty:=222 }):=by simp
 have hOl:∀g,O g→g<H.next:=fun g hg=>(h.lt g hg).2
 have hnx:(H.push (.arr { cells:= [vi e.kind,vi e.day,vi e.person,vi e.other,vi e.estate,vi e.grant,vi e.system,vi e.units],ty:=222 })).next=H.next+1:=by simp
 generalize hH1:H.push _=H1 at*
 obtain ⟨vl,vo,vg,va,vw,vf,h1,hO⟩:=h1
 have hg:=h1.g
 have hsl:=h1.sgl.2
 obtain ⟨ag,fg,rfl,hEg⟩:=h1.grants.elems (fun _=>rfl)
 obtain ⟨ag,rfl,hag,hrg⟩:=hEg.at e.grant.toNat (by omega)
 have e2:s.grants.getD e.grant.toNat default=s.grants[e.grant.toNat]'(by omega):=bc (by omega)
 have hbk:=h1.grants.blk_some
 have hbgs:ag.block≠sg:=fun hc=>h1.sg_ne h1.grants (by decide) (by rw [hbk,hc])
 obtain ⟨H2,hw2,ho2,hn2,hs2⟩:=h1.grants.wr (fun _=>rfl) (i:=e.grant.toNat) (k:=4) (by omega) (c:=vi (IntKind.i64.wrap ((s.grants[e.grant.toNat]'(by omega)).units - e.units))) (new:= []) (by simp) (y:= { s.grants[e.grant.toNat]'(by omega) with units:=IntKind.i64.wrap ((s.grants[e.grant.toNat]'(by omega)).units - e.units) }) (by simp [splice])
 obtain ⟨a2,ha2,hab2,hrg2⟩:=(ho2.elems' (fun _=>rfl)).at e.grant.toNat (by simp; omega)
 cases ha2
 rw [List.getElem_set_self] at hrg2
 have hOo:O ag.block:=(hO _).2 (.inr (.inr (.inr (.inr (.inl hbk)))))
 have hg2:=(hs2 sg (Ne.symm hbgs)).trans hg
 have he2:=(hs2 H.next (fun hc=>by have:=hOl _ hOo; omega)).trans hge
 have hS2:=h1.wr_grants (H1:=H2) (by omega) ho2 (fun k hk hne=>hs2 k fun hc=>hne (by rw [hbk,hc]))
 have f2:Frm O O H1 H2:=Frm.wr hl1 hOo hn2 hs2
 have hlow:=hS2.owners.len
 obtain ⟨vo',H3,happ,ho3,hn3,hf3,hb3⟩:=(hS2.owners.push (.arr { cells:= [vi e.person],ty:=3 })).app (by simp) (by simp) (by decide) e.person (by have:=hS2.sgl; simp; omega)
 simp only [ca] at happ
 have d8:8*(1+s.owners.length)≤1000000:=by omega
 have d9:1+s.owners.length≤1000000:=by omega
 have hg3:=(hf3 sg (by have:=hS2.sgl; simp; omega) (hS2.sg_ne hS2.owners (by decide))).trans ((GH.get_push_lt _ _ hS2.sgl.2).trans hg2)
 simp only [GH.next_push] at hn3
 have he3:=(hf3 H.next (by simp; omega) (fun hc=>by have:=hOl _ ((hO _).2 (.inr (.inr (.inr (.inl hc))))); omega)).trans ((GH.get_push_lt _ _ (by omega)).trans he2)
 obtain ⟨ao,fo,rfl⟩:=ho3.slice
 have hne:¬H.next=sg:=by have:=hOl _ ((hO sg).2 (.inl rfl)); omega
 have hlen1:IntKind.i64.wrap (IntKind.i64.wrap ((s.owners.length:Int)+1) - 1)=s.owners.length:=by simp (disch:=omega) [aj]
 have hlen3:IntKind.i64.wrap (s.owners.length:Int)=s.owners.length:=by simp (disch:=omega) [aj]
 have hlen2:IntKind.i64.wrap ((s.owners.length:Int)+1 - 1)=s.owners.length:=by simp (disch:=omega) [aj]
 simp (disch:=omega) [hH1]
 simp (disch:=omega) [hg,hge,hw2,hg2,he2,hrg,hrg2,hlow,d8,d9,happ,hg3,he3,hlen3]
 have hS3:=hS2.upd_owners (by omega) ho3 (fun k hk hne=>by rw [hf3 k (by simp; omega) hne,GH.get_push_lt _ _ hk]) (fun k hk=>(hb3 k hk).imp id fun h=>by simp at h; omega)
 simp only [bq,List.cons_append,List.nil_append,List.length_append,List.length_cons,List.length_nil,Nat.zero_add] at hS3 hb3
 obtain ⟨O3,f3,h3⟩:=ap.of hS2 hO hS3 (by simp; omega) (fun k hk ho=>by
  rw [hO] at ho
  rw [GH.get_put_ne _ _ (fun hc=>ho (.inl hc)),hf3 k (by simp; omega) (fun hc=>ho (.inr (.inr (.inr (.inl hc))))),GH.get_push_lt _ _ (by omega)])
  (fun k hk=>.inl hk) (fun k hk=>(hb3 k hk).imp id fun h=>by simp at h; omega) (fun k hk=>.inl hk) (fun k hk=>.inl hk) (fun k hk=>.inl hk) (fun k hk=>.inl hk)
 refine (abl h3 (by simp; omega) (by simp; omega) _ _ _ _).mono ?_
 rintro x H5 ⟨rfl,O5,f5,h5⟩
 simp
 refine ⟨O5,f1.trans (f2.trans (f3.trans f5)),?_⟩
 unfold fy
 rw [e2]
 exact h5
end
end Go.Gm.Tryz
end
section
namespace Go.Gm.Tryz
open Go.Proofs
theorem auv {H:GH} {N:Nat} {l:BLoc} {b:Book} {sg kn:Nat} {s:Stand} {vl vo vg va vw vf:Value} {O:Nat→Prop} (h:StIn H N l b sg kn s vl vo vg va vw vf) (hO:∀g,O g↔g=sg∨g=kn∨ak vl=some g∨ak vo=some g∨ak vg=some g∨ak va=some g∨ak vw=some g∨ak vf=some g) (hlen:s.grants.length≤1000) (n:Nat) (hn:n<s.owners.length) (p:Int):
  ay Tryz.prog 253 [.pointer (some (ga sg 0 0)),vi n,vi p] H fun x H'=>x=.ret (.tuple #[])∧Frm O O H H'∧StIn H' N l b sg kn (jz s n p) vl vo vg va vw vf:=by
 rcases l with ⟨⟨⟨ra,rf⟩⟩,⟨oa,of'⟩,⟨va',vf'⟩⟩
 refine an tok mix ak9 (F:=axu) (c:=_) rfl (n:=38) rfl (rs:= []) rfl ?_
 have hg:=h.g
 have hsl:=h.sgl.2
 obtain ⟨ao,fo,rfl,hE⟩:=h.owners.elems (fun _=>rfl)
 obtain ⟨ao,rfl,hob,_⟩:=hE.at n hn
 obtain ⟨ag,fg,rfl,hEg⟩:=h.grants.elems (fun _=>rfl)
 have hbk:=h.owners.blk_some
 obtain ⟨H1,hw1,ho1,hn1,hs1⟩:=h.owners.wr (fun _=>rfl) (i:=n) (k:=0) hn (c:=vi p) (new:= []) (by simp) (y:=p) (by simp [splice])
 have hbgs:ao.block≠sg:=fun hc=>h.sg_ne h.owners (by decide) (by rw [hbk,hc])
 have hg1:=(hs1 sg (Ne.symm hbgs)).trans hg
 have hlt:(n:Int)<s.owners.length:=by omega
 simp (disch:=omega) [hg,hw1,hg1]
 have hS1:=h.wr_owners (H1:=H1) (by omega) ho1 (fun k hk hne=>hs1 k fun hc=>hne (by rw [hbk,hc]))
 refine cv tok mix (by kernel_rfl) s.grants.length (fun i ρ m H2=>ρ 0=.pointer (some (ga sg 0 0))∧ρ 1=vi n∧ρ 2=vi p∧ρ 18=.slice ag s.grants.length fg∧ρ 19=vi s.grants.length∧ρ 20=vi i∧m= []∧H.next≤H2.next∧(∀g,g<H.next→¬O g→H2.get g=H.get g)∧
  StIn H2 N ⟨⟨⟨ra,rf⟩⟩,⟨oa,of'⟩,⟨va',vf'⟩⟩ b sg kn { s with owners:=s.owners.set n p,grants:=ke (fun x=>if x.estate=(n:Int) then { x with person:=p } else x) s.grants i } vl (.slice (some ao) s.owners.length fo) (.slice ag s.grants.length fg) va vw vf) (i0:=0) (by omega)
  ⟨by simp,by simp,by simp,by simp,by simp,by simp,rfl,by omega,fun g hg ho=>hs1 g fun hc=>ho ((hO g).2 (.inr (.inr (.inr (.inl (by rw [hbk,hc])))))),by simpa [kj] using hS1⟩ ?_
 rintro i ρ m H2 hi ⟨e0,e1,e2,e18,e19,e20,rfl,hn2,hs2,h2⟩
 have hg2:=h2.g
 simp [e19,e20]
 refine ba (fun hlt2=>?_) (fun hge=>?_)
 ·obtain ⟨a2,rfl,hab,hrd⟩:=(h2.grants.elems' (fun _=>rfl)).at i (by rw [iy]; exact hlt2)
  rw [iv _ hlt2] at hrd
  have hltI:(i:Int)<s.grants.length:=by omega
  have hbk2:=h2.grants.blk_some
  simp (disch:=omega) [e1,e18,e20,hrd]
  have hsu:=ng (fun x:GSt=>if x.estate=(n:Int) then { x with person:=p } else x) hlt2
  generalize hH3:GH.put _ _ _=H3
  have hs3:Sub H2 H3:=by subst hH3; exact (Sub.push (.refl H2) _).put (Nat.le_refl _) _
  have hb3:H3.get H2.next=some (.arr { cells:=kg s.grants[i],ty:=53 }):=by subst hH3; simp
  have hl3:H2.next<H3.next:=by subst hH3; simp
  clear hH3
  have h3:=h2.sub hs3
  have hg3:=h3.g
  have hsl3:=h3.sgl.2
  have hs23:∀g,g<H.next→¬O g→H3.get g=H.get g:=fun g hg ho=>by rw [hs3.2 g (by omega),hs2 g hg ho]
  try simp (disch:=omega) [hb3,e1]
  refine ck (fun h5=>?_) (fun h5=>?_)<;>(try simp only [decide_eq_true_eq,decide_eq_false_iff_not] at h5)
  ·obtain ⟨H4,hw4,ho4,hn4,hs4⟩:=h3.grants.wr (fun _=>rfl) (i:=i) (k:=1) (by rw [iy]; exact hlt2) (c:=vi p) (new:= []) (by simp) (y:= { s.grants[i] with person:=p }) (by rw [iv _ hlt2]; simp [splice])
   simp (disch:=omega) [e0,e2,hg3,hw4]
   have h4:=h3.wr_grants (H1:=H4) (by omega) ho4 (fun k hk hne=>hs4 k fun hc=>hne (by rw [hbk2,hc]))
   simp (disch:=omega) [e0,e1,e2,e18,e19,e20,hlt2,aj]
   refine ⟨by omega,fun g hg ho=>?_,?_⟩
   ·rw [hs4 g fun hc=>ho ((hO g).2 (.inr (.inr (.inr (.inr (.inl (by rw [hbk2,hc])))))))]
    exact hs23 g hg ho
   ·rw [hsu,if_pos h5]; exact h4
  ·simp (disch:=omega) [e0,e1,e2,e18,e19,e20,hlt2,aj]
   refine ⟨by omega,hs23,?_⟩
   rw [hsu,if_neg h5]
   have:(ke (fun x:GSt=>if x.estate=(n:Int) then { x with person:=p } else x) s.grants i).set i s.grants[i]=ke (fun x:GSt=>if x.estate=(n:Int) then { x with person:=p } else x) s.grants i:=by
    conv=>lhs; rw [←iv (fun x:GSt=>if x.estate=(n:Int) then { x with person:=p } else x) hlt2]
    exact List.set_getElem_self _
   rw [this]; exact h3
 ·have:i=s.grants.length:=by omega
  subst this
  rw [p6] at h2
  simp
  exact ⟨⟨hn2,hs2,fun g hg=>.inl hg,fun g hg=>Nat.lt_of_lt_of_le (h.own_lt ((hO g).1 hg)).2 hn2⟩,h2⟩
end Go.Gm.Tryz
end
section
namespace Go.Gm.Tryz
open Go.Proofs
def dj (s:Stand) (e:Ev):Stand:= { s with lives:=s.lives.set e.person.toNat false }
def oAt (s:Stand) (i:Nat):Int:=s.owners.getD i 0
def gAt (s:Stand) (i:Nat):GSt:=s.grants.getD i default
def cj (e:Ev) (s:Stand) (i:Nat):Stand:=if oAt s i=e.person then jz s i e.other else s
def jt (s:Stand) (e:Ev):Stand:=(List.range s.owners.length).foldl (cj e) s
def jg (b:Book) (e:Ev) (w:Int):Bool:=decide ((db b w).person≠e.person)
def mn (b:Book) (s:Stand) (e:Ev):Stand:= { s with waits:=s.waits.filter (jg b e) }
def bw (b:Book) (e:Ev) (s:Stand) (i:Nat):Stand:=if (gAt s i).is=2∧(gAt s i).person=e.person then endS b s i e.day else s
def n8 (b:Book) (s:Stand) (e:Ev):Stand:=(List.range s.grants.length).foldl (bw b e) s
def bs (b:Book) (e:Ev) (s:Stand) (i:Nat):Stand:=
 if (gAt s i).is=1∧(gAt s i).estate<0∧(gAt s i).person=e.person then { s with grants:=s.grants.set i { gAt s i with is:=2,person:=e.other },last:=s.last.set i (IntKind.i64.wrap (e.day+b.term)) } else s
def ach (b:Book) (s:Stand) (e:Ev):Stand:=(List.range s.grants.length).foldl (bs b e) s
def uf (b:Book) (s:Stand) (e:Ev):Stand:=ach b (n8 b (mn b (jt (dj s e) e) e) e) e
theorem dk {α:Type} (f:α→Nat→α) (s:α) (i:Nat):(List.range (i+1)).foldl f s=f ((List.range i).foldl f s) i:=by rw [List.range_succ,List.foldl_append]; rfl
theorem ag2 {b:Book} {s:Stand} (h:Wf b s) (n:Nat) (p:Int):Wf b (jz s n p):=by
 refine ⟨h.w,by simpa [jz] using h.len,by simpa [jz] using h.last,by simpa [jz] using h.own,h.ev,?_⟩
 have h1:=h.fe
 simp only [jz]
 rw [List.countP_map]
 refine Nat.le_trans h1 (Nat.le_of_eq ?_)
 congr 1
 funext x
 simp only [Function.comp]
 split<;>rfl
theorem alx {b:Book} {e:Ev} {s:Stand} (h:Wf b s) (i:Nat):Wf b (cj e s i)∧(cj e s i).owners.length=s.owners.length∧(cj e s i).grants.length=s.grants.length∧(cj e s i).waits=s.waits:=by
 unfold cj
 split
 ·exact ⟨ag2 h _ _,by simp [jz],by simp [jz],rfl⟩
 ·exact ⟨h,rfl,rfl,rfl⟩
theorem we {b:Book} {e:Ev} {s:Stand} (h:Wf b s) (i:Nat):Wf b ((List.range i).foldl (cj e) s)∧((List.range i).foldl (cj e) s).owners.length=s.owners.length∧((List.range i).foldl (cj e) s).grants.length=s.grants.length∧((List.range i).foldl (cj e) s).waits=s.waits:=by
 induction i with
 |zero=>exact ⟨h,rfl,rfl,rfl⟩
 |succ i ih=>
  rw [dk]
  obtain ⟨a,b',c,d⟩:=alx ih.1 (e:=e) i
  exact ⟨a,b'.trans ih.2.1,c.trans ih.2.2.1,d.trans ih.2.2.2⟩
theorem af2 {b:Book} {s:Stand} (h:Wf b s) (e:Ev):Wf b (dj s e):=⟨h.w,h.len,h.last,h.own,h.ev,h.fe⟩
theorem af3 {b:Book} {s:Stand} (h:Wf b s) (e:Ev):Wf b (mn b s e):=by
 refine ⟨fun n hn=>h.w n (List.mem_filter.1 hn).1,?_,h.last,h.own,h.ev,h.fe⟩
 have h1:=h.len
 have:=List.length_filter_le (jg b e) s.waits
 simp only [mn]; omega
theorem amg {b:Book}:∀ {n:Nat} {s:Stand},s.grants.length≤(gu b n s).grants.length:=by
 intro n
 induction n with
 |zero=>intro s; exact Nat.le_refl _
 |succ n ih=>
  intro s
  simp only [gu]
  cases hws:s.waits with
  |nil=>exact Nat.le_refl _
  |cons w ws=>
   simp only
   split
   ·exact Nat.le_refl _
   ·refine Nat.le_trans ?_ ih
    simp [ek]
theorem acm (b:Book) (s:Stand) (g:Nat) (d:Int):s.grants.length≤(endS b s g d).grants.length:=by
 refine Nat.le_trans ?_ (amg (b:=b))
 simp [endG]
theorem vc {b:Book} {e:Ev} {s:Stand} (h:Wf b s) {i:Nat} (hi:i<s.grants.length):Wf b (bw b e s i)∧s.grants.length≤(bw b e s i).grants.length:=by
 unfold bw
 split
 ·rename_i h2
  have:gAt s i=s.grants[i]:=bc hi
  rw [this] at h2
  exact ⟨abp h hi (by rw [h2.1]; decide) _,acm ..⟩
 ·exact ⟨h,Nat.le_refl _⟩
section
variable {H:GH} {N:Nat} {l:BLoc} {b:Book} {sg kn:Nat} {s:Stand} {O:Nat→Prop}
theorem a1z (h:ap H N l b sg kn s O) (hw:Wf b s) (e:Ev) (n:Nat) (he:0≤e.person∧e.person<s.lives.length):afu 251 H N l b sg kn O e n (uf b s e):=by
 rcases l with ⟨⟨⟨ra,rf⟩⟩,⟨oa,of'⟩,⟨va',vf'⟩⟩
 refine an tok mix ati (F:=ala) (c:=_) rfl (n:=168) rfl (rs:= []) rfl ?_
 obtain ⟨h1,f1⟩:=h.sub (Sub.push (.refl H) (.arr { cells:= [vi e.kind,vi e.day,vi e.person,vi e.other,vi e.estate,vi e.grant,vi e.system,vi e.units],ty:=220 }))
 have hle:=hw.len
 have hlo:=hw.own
 have hl1:=fun g ho=>(h1.lt g ho).2
 have hge:(H.push (.arr { cells:= [vi e.kind,vi e.day,vi e.person,vi e.other,vi e.estate,vi e.grant,vi e.system,vi e.units],ty:=220 })).get H.next=some (.arr { cells:= [vi e.kind,vi e.day,vi e.person,vi e.other,vi e.estate,vi e.grant,vi e.system,vi e.units],ty:=220 }):=by simp
 have hOl:∀g,O g→g<H.next:=fun g hg=>(h.lt g hg).2
 have hnx:(H.push (.arr { cells:= [vi e.kind,vi e.day,vi e.person,vi e.other,vi e.estate,vi e.grant,vi e.system,vi e.units],ty:=220 })).next=H.next+1:=by simp
 generalize hH1:H.push _=H1 at*
 obtain ⟨vl,vo,vg,va,vw,vf,h1,hO⟩:=h1
 have hg:=h1.g
 have hsl:=h1.sgl.2
 obtain ⟨al,fl,rfl,hEl⟩:=h1.lives.elems (fun _=>rfl)
 obtain ⟨al,rfl,hal,hrl⟩:=hEl.at e.person.toNat (by omega)
 obtain ⟨ao,fo,rfl,hEo⟩:=h1.owners.elems (fun _=>rfl)
 have hbk:=h1.lives.blk_some
 have hbgs:al.block≠sg:=fun hc=>h1.sg_ne h1.lives (by decide) (by rw [hbk,hc])
 have hOo:O al.block:=(hO _).2 (.inr (.inr (.inl hbk)))
 obtain ⟨H2,hw2,ho2,hn2,hs2⟩:=h1.lives.wr (fun _=>rfl) (i:=e.person.toNat) (k:=0) (by omega) (c:=.bool false) (new:= []) (by simp) (y:=false) (by simp [splice])
 have hg2:=(hs2 sg (Ne.symm hbgs)).trans hg
 have he2:=(hs2 H.next (fun hc=>by have:=hOl _ hOo; omega)).trans hge
 have hS2:=h1.wr_lives (H1:=H2) (by omega) ho2 (fun k hk hne=>hs2 k fun hc=>hne (by rw [hbk,hc]))
 have f2:Frm O O H1 H2:=Frm.wr hl1 hOo hn2 hs2
 have hwA:=af2 hw e
 have hA:({ s with lives:=s.lives.set e.person.toNat false }:Stand)=dj s e:=rfl
 rw [hA] at hS2
 simp (disch:=omega) [hH1]
 simp (disch:=omega) [hg,hge,hw2,hg2]
 refine cv tok mix (by kernel_rfl) s.owners.length (fun i ρ m H3=>ρ 1=.pointer (some (ga sg 0 0))∧ρ 3=.pointer (some (ga H.next 0 0))∧ρ 26=.slice ao s.owners.length fo∧ρ 27=vi s.owners.length∧ρ 28=vi i∧m= []∧Frm O O H1 H3∧
  StIn H3 N ⟨⟨⟨ra,rf⟩⟩,⟨oa,of'⟩,⟨va',vf'⟩⟩ b sg kn ((List.range i).foldl (cj e) (dj s e)) (.slice (some al) s.lives.length fl) (.slice ao s.owners.length fo) vg va vw vf) (i0:=0) (by omega)
  ⟨by simp,by simp,by simp,by simp,by simp,by simp,f2,hS2⟩ ?_
 rintro i ρ m H3 hi ⟨e1,e3,e26,e27,e28,rfl,f3,h3⟩
 have hg3:=h3.g
 have he3:=(f3.keep H.next (by omega) (fun hc=>by have:=hOl _ hc; omega)).trans hge
 have hn3:=f3.next
 obtain ⟨hw3,ho3,hgl3,hww3⟩:=we (e:=e) hwA i
 simp [e27,e28]
 refine ba (fun hlt2=>?_) (fun hge1=>?_)
 ·have hrf:=dk (cj e) (dj s e) i
  generalize hcur:(List.range i).foldl (cj e) (dj s e)=c at*
  have hol:c.owners.length=s.owners.length:=ho3
  have hltI:(i:Int)<s.owners.length:=by omega
  obtain ⟨a2,rfl,hab,hrd⟩:=(h3.owners.elems' (fun _=>rfl)).at i (by omega)
  have hoa:oAt c i=c.owners[i]'(by omega):=bc (by omega)
  simp (disch:=omega) [e3,e26,e28,hrd,he3]
  refine ba (fun h5=>?_) (fun h5=>?_)
  ·simp (disch:=omega) [e1,e3,he3]
   refine (auv h3 hO (by have:=hw3.len; omega) i (by omega) e.other).mono ?_
   rintro x H4 ⟨rfl,f4,h4⟩
   simp (disch:=omega) [e1,e3,e26,e27,e28,hlt2,aj]
   refine ⟨f3.trans f4,?_⟩
   rw [hrf]; unfold cj; rw [if_pos (by rw [hoa]; exact h5)]; exact h4
  ·simp (disch:=omega) [e1,e3,e26,e27,e28,hlt2,aj]
   refine ⟨f3,?_⟩
   rw [hrf]; unfold cj; rw [if_neg (by rw [hoa]; exact h5)]; exact h3
 ·have:i=s.owners.length:=by omega
  subst this
  change StIn H3 N _ b sg kn (jt (dj s e) e) _ _ _ _ _ _ at h3
  change Wf b (jt (dj s e) e) at hw3
  change (jt (dj s e) e).waits=s.waits at hww3
  obtain ⟨aw,fw,rfl,hEw⟩:=h3.waits.elems (fun _=>rfl)
  rw [hww3] at h3 hEw hO
  have hgw:=h3.g
  have hsl3:=h3.sgl.2
  simp (disch:=omega) [e1,hgw]
  have hlw:s.waits.length≤100:=by omega
  generalize hB:jt (dj s e) e=sB at*
  refine cv tok mix (by kernel_rfl) s.waits.length (fun i ρ m H4=>ρ 1=.pointer (some (ga sg 0 0))∧ρ 3=.pointer (some (ga H.next 0 0))∧ρ 48=.slice aw s.waits.length fw∧ρ 49=vi s.waits.length∧ρ 50=vi i∧m= []∧Sub H3 H4∧
   bg H4 H3.next (ρ 8) 3 1 ca ((s.waits.take i).filter (jg b e))) (i0:=0) (by omega)
   ⟨by simp [e1],by simp [e3],by simp,by simp,by simp,by simp,.refl _,by simpa using bg.nil⟩ ?_
  rintro i ρ m H4 hi ⟨d1,d3,d48,d49,d50,rfl,hs4,hv4⟩
  have h4:=h3.sub hs4
  have hg4:=h4.g
  have he4:=(hs4.2 H.next (by omega)).trans he3
  have hn4:=hs4.1
  generalize hv8:ρ 8=v8 at hv4
  have hl8:=hv4.len
  have htl:((s.waits.take i).filter (jg b e)).length≤100:=by
   have:=List.length_filter_le (jg b e) (s.waits.take i)
   simp at this ⊢; omega
  simp [d49,d50]
  refine ba (fun hlt2=>?_) (fun hge2=>?_)
  ·have hltI:(i:Int)<s.waits.length:=by omega
   obtain ⟨a2,rfl,hab,hrd⟩:=(h4.waits.elems' (fun _=>rfl)).at i (by rw [hww3]; omega)
   obtain ⟨w,hW⟩:∃w,s.waits[i]=w:=⟨_,rfl⟩
   have hwi:sB.waits[i]'(by rw [hww3]; exact hlt2)=w:=by rw [←hW]; congr 1
   rw [hwi] at hrd
   have hwr:=hw.w w (hW▸List.getElem_mem hlt2)
   obtain ⟨a3,rfl,hbb,hrb⟩:=h4.book.events.at w.toNat (by omega)
   have hev:db b w=b.events[w.toNat]'(by omega):=bc (by omega)
   have htk:s.waits.take (i+1)=s.waits.take i++ [w]:=by rw [←hW]; exact List.take_succ_eq_append_getElem hlt2
   simp (disch:=omega) [d1,d3,d48,d50,hrd,he4,hg4,hrb]
   refine ck (fun h5=>?_) (fun h5=>?_)<;>(try simp only [Bool.not_eq_true',Bool.not_eq_false',decide_eq_true_eq,decide_eq_false_iff_not] at h5)
   ·obtain ⟨v8',H5,happ,ho5,hn5,hf5,hb5⟩:=(hv4.push (.arr { cells:= [vi w],ty:=3 })).app (by simp) (by simp) (by decide) w (by simp; omega)
    simp only [ca] at happ
    generalize hF:((s.waits.take i).filter (jg b e))=F at*
    have d8:8*(1+F.length)≤1000000:=by omega
    have d9:1+F.length≤1000000:=by omega
    obtain ⟨a8,f8,rfl⟩:=ho5.slice
    simp (disch:=omega) [d1,d3,d48,d49,d50,hv8,hl8,d8,d9,happ,hlt2,aj]
    simp only [GH.next_push] at hn5
    refine ⟨⟨by omega,fun g hg=>?_⟩,?_⟩
    ·rw [hf5 g (by simp; omega) (fun hc=>by have:=(hv4.blk_lt hc).1; omega),GH.get_push_lt _ _ (by omega),hs4.2 g hg]
    ·rw [htk,List.filter_append,hF]
     have: [w].filter (jg b e)= [w]:=by simp [jg,hev,h5]
     rw [this]
     simpa using ho5
   ·simp (disch:=omega) [d1,d3,d48,d49,d50,hlt2,aj]
    refine ⟨hs4,?_⟩
    rw [htk,List.filter_append]
    have: [w].filter (jg b e)= []:=by simp [jg,hev,h5]
    rw [this,List.append_nil,hv8]; exact hv4
  ·have:i=s.waits.length:=by omega
   subst this
   rw [List.take_length] at hv4
   have hS5:=h3.upd_waits hs4.1 (hv4.weaken (by have:=h3.sgl; omega)) (fun k hk _=>hs4.2 k hk) (fun k hk=>.inr (hv4.blk_lt hk).1)
   have hC:({ sB with waits:=s.waits.filter (jg b e) }:Stand)=mn b sB e:=by simp only [mn,hww3]
   rw [hC] at hS5
   obtain ⟨O5,f5,h5⟩:=ap.of h3 hO hS5 (by simp; omega) (fun k hk ho=>by
    rw [hO] at ho
    rw [GH.get_put_ne _ _ (fun hc=>ho (.inl hc)),hs4.2 k hk])
    (fun k hk=>.inl hk) (fun k hk=>.inl hk) (fun k hk=>.inl hk) (fun k hk=>.inl hk) (fun k hk=>.inr (hv4.blk_lt hk).1) (fun k hk=>.inl hk)
   have hwC:=af3 hw3 e
   obtain ⟨a8,f8,rfl⟩:=hv4.slice
   obtain ⟨ag,fg,rfl,hEg⟩:=hS5.grants.elems (fun _=>rfl)
   have hgC:=hS5.g
   have hslC:=hS5.sgl.2
   have hglC:(mn b sB e).grants.length=sB.grants.length:=rfl
   simp only [bq,List.cons_append,List.nil_append] at hgC hslC hS5 f5 h5
   simp (disch:=omega) [d1,hg4,hv8]
   generalize hHC:H4.put sg _=HC at f5 h5 ⊢
   generalize hsC:mn b sB e=sC at*
   have hC100:sC.grants.length≤100:=by have:=hwC.len; omega
   refine cv tok mix (by kernel_rfl) sC.grants.length (fun i ρ m H6=>ρ 1=.pointer (some (ga sg 0 0))∧ρ 3=.pointer (some (ga H.next 0 0))∧ρ 80=vi sC.grants.length∧ρ 81=vi i∧m= []∧
    ∃O6,Frm O O6 H1 H6∧ap H6 N ⟨⟨⟨ra,rf⟩⟩,⟨oa,of'⟩,⟨va',vf'⟩⟩ b sg kn ((List.range i).foldl (bw b e) sC) O6∧Wf b ((List.range i).foldl (bw b e) sC)∧sC.grants.length≤((List.range i).foldl (bw b e) sC).grants.length) (i0:=0) (by omega)
    ⟨by simp [d1],by simp [d3],by simp,by simp,by simp,O5,f3.trans f5,h5,hwC,Nat.le_refl _⟩ ?_
   rintro i ρ m H6 hi ⟨c1,c3,c80,c81,rfl,O6,f6,h6,hw6,hl6⟩
   have he6:=(f6.keep H.next (by omega) (fun hc=>by have:=hOl _ hc; omega)).trans hge
   simp [c80,c81]
   refine ba (fun hlt3=>?_) (fun hge3=>?_)
   ·have hrf:=dk (bw b e) sC i
    generalize hcur:(List.range i).foldl (bw b e) sC=c at*
    have hil:i<c.grants.length:=by omega
    obtain ⟨hwn,hln⟩:=vc (e:=e) hw6 hil
    rw [←hrf] at hwn hln
    have hga:gAt c i=c.grants[i]:=bc hil
    obtain ⟨_,_,vg6,_,_,_,h6',hO6⟩:=h6
    have hg6:=h6'.g
    have hsl6:=h6'.sgl.2
    obtain ⟨a6,q6,rfl,hE6⟩:=h6'.grants.elems (fun _=>rfl)
    obtain ⟨a6,rfl,hab6,hrd6⟩:=hE6.at i hil
    have hilI:(i:Int)<c.grants.length:=by omega
    simp (disch:=omega) [c1,c81,hg6,hrd6]
    generalize hH7:GH.put _ _ _=H7
    have hs7:Sub H6 H7:=by subst hH7; exact (Sub.push (.refl H6) _).put (Nat.le_refl _) _
    have hb7:H7.get H6.next=some (.arr { cells:=kg c.grants[i],ty:=53 }):=by subst hH7; simp
    have hn6:=f6.next
    have he7:=(hs7.2 H.next (by omega)).trans he6
    have hl7:H6.next<H7.next:=by subst hH7; simp
    clear hH7
    have h6s:ap H6 N ⟨⟨⟨ra,rf⟩⟩,⟨oa,of'⟩,⟨va',vf'⟩⟩ b sg kn c O6:=⟨_,_,_,_,_,_,h6',hO6⟩
    obtain ⟨h7,f7⟩:=h6s.sub hs7
    have f7:Frm O O6 H1 H7:=f6.trans f7
    refine bh (fun h8=>?_) (fun h8=>?_)<;>(try simp only [decide_eq_true_eq,decide_eq_false_iff_not] at h8)
    ·simp (disch:=omega) [c3,hb7,he7,h8]
     refine ba (fun h9=>?_) (fun h9=>?_)
     ·simp (disch:=omega) [c1,c3,he7]
      refine (aif h7 hw6 i hil (by rw [h8]; decide) e.day).mono ?_
      rintro x H8 ⟨rfl,O8,f8',h8'⟩
      have hcs:bw b e c i=endS b c i e.day:=by unfold bw; rw [if_pos ⟨by rw [hga]; exact h8,by rw [hga]; exact h9⟩]
      rw [hcs] at hrf
      rw [←hrf] at h8'
      simp (disch:=omega) [c1,c3,c80,c81,aj]
      exact ⟨hlt3,O8,f7.trans f8',h8',hwn,by omega⟩
     ·have hcs:bw b e c i=c:=by unfold bw; rw [if_neg (fun hc=>h9 (by rw [←hga]; exact hc.2))]
      rw [hcs] at hrf
      rw [←hrf] at h7
      simp (disch:=omega) [c1,c3,c80,c81,aj]
      exact ⟨hlt3,O6,f7,h7,hwn,by omega⟩
    ·have hcs:bw b e c i=c:=by unfold bw; rw [if_neg (fun hc=>h8 (by rw [←hga]; exact hc.1))]
     rw [hcs] at hrf
     rw [←hrf] at h7
     simp (disch:=omega) [c1,c3,c80,c81,aj,h8]
     exact ⟨hlt3,O6,f7,h7,hwn,by omega⟩
   ·have:i=sC.grants.length:=by omega
    subst this
    change ap H6 N _ b sg kn (n8 b sC e) O6 at h6
    change Wf b (n8 b sC e) at hw6
    generalize hsD:n8 b sC e=sD at*
    have hD100:sD.grants.length≤100:=by have:=hw6.len; omega
    have hO6l:=fun g ho=>(h6.lt g ho).2
    obtain ⟨vl6,vo6,vg6,va6,vw6,vf6,h6',hO6⟩:=h6
    have hg6:=h6'.g
    have hsl6:=h6'.sgl.2
    have hlD:=hw6.last
    obtain ⟨a6,q6,rfl,hE6⟩:=h6'.grants.elems (fun _=>rfl)
    obtain ⟨aa6,qa6,rfl,hEa6⟩:=h6'.last.elems (fun _=>rfl)
    simp [c1,hg6]
    refine cv tok mix (by kernel_rfl) sD.grants.length (fun i ρ m H7=>ρ 1=.pointer (some (ga sg 0 0))∧ρ 3=.pointer (some (ga H.next 0 0))∧ρ 112=.slice a6 sD.grants.length q6∧ρ 113=vi sD.grants.length∧ρ 114=vi i∧m= []∧
     Frm O6 O6 H6 H7∧StIn H7 N ⟨⟨⟨ra,rf⟩⟩,⟨oa,of'⟩,⟨va',vf'⟩⟩ b sg kn ((List.range i).foldl (bs b e) sD) vl6 vo6 (.slice a6 sD.grants.length q6) (.slice aa6 sD.last.length qa6) vw6 vf6∧((List.range i).foldl (bs b e) sD).grants.length=sD.grants.length∧((List.range i).foldl (bs b e) sD).last.length=sD.last.length) (i0:=0) (by omega)
     ⟨by simp [c1],by simp [c3],by simp,by simp,by simp,by simp,Frm.refl hO6l,h6',rfl,rfl⟩ ?_
    rintro i ρ m H7 hi ⟨b1,b3,b112,b113,b114,rfl,f7,h7,hgl7,hll7⟩
    have f17:=f6.trans f7
    have he7:=(f17.keep H.next (by omega) (fun hc=>by have:=hOl _ hc; omega)).trans hge
    simp [b113,b114]
    refine ba (fun hlt3=>?_) (fun hge3=>?_)
    ·have hrf:=dk (bs b e) sD i
     generalize hcur:(List.range i).foldl (bs b e) sD=c at*
     have hil:i<c.grants.length:=by omega
     have hga:gAt c i=c.grants[i]:=bc hil
     have hg7:=h7.g
     have hsl7:=h7.sgl.2
     obtain ⟨a7,ha7,hab7,hrd7⟩:=(h7.grants.elems' (fun _=>rfl)).at i hil
     subst ha7
     have hilI:(i:Int)<sD.grants.length:=by omega
     simp (disch:=omega) [b112,b114,hrd7]
     have hO7l:=f7.lt
     have f1h:=f1
     generalize hH8:GH.put _ _ _=H8
     have hs8:Sub H7 H8:=by subst hH8; exact (Sub.push (.refl H7) _).put (Nat.le_refl _) _
     have hb8:H8.get H7.next=some (.arr { cells:=kg c.grants[i],ty:=53 }):=by subst hH8; simp
     have hn7:=f17.next
     have he8:=(hs8.2 H.next (by omega)).trans he7
     have hl8':H7.next<H8.next:=by subst hH8; simp
     clear hH8
     have h8:=h7.sub hs8
     have f8:Frm O6 O6 H6 H8:=f7.trans (Frm.of_sub hO7l hs8)
     have hskip:¬((gAt c i).is=1∧(gAt c i).estate<0∧(gAt c i).person=e.person)→bs b e c i=c:=fun hc=>by unfold bs; rw [if_neg hc]
     refine bh (fun k1=>?_) (fun k1=>?_)<;>(try simp only [decide_eq_true_eq,decide_eq_false_iff_not] at k1)
     ·simp (disch:=omega) [hb8,k1]
      refine bh (fun k2=>?_) (fun k2=>?_)<;>(try simp only [decide_eq_true_eq,decide_eq_false_iff_not] at k2)
      ·simp (disch:=omega) [b3,hb8,he8,k1,k2]
       refine ba (fun k3=>?_) (fun k3=>?_)
       ·have hst:bs b e c i= { c with grants:=c.grants.set i { c.grants[i] with is:=2,person:=e.other },last:=c.last.set i (IntKind.i64.wrap (e.day+b.term)) }:=by
         unfold bs; rw [if_pos (by rw [hga]; exact ⟨k1,k2,k3⟩),hga]
        have hbk8:=h8.grants.blk_some
        obtain ⟨aa7,haa,_,_⟩:=(h8.last.elems' (fun _=>rfl)).at i (by omega)
        subst haa
        have hbka:=h8.last.blk_some
        have hg8:=h8.g
        obtain ⟨Ha,hwa,hoa,hna,hsa⟩:=h8.grants.wr (fun _=>rfl) (i:=i) (k:=0) hil (c:=vi 2) (new:= []) (by simp) (y:= { c.grants[i] with is:=2 }) (by simp [splice])
        obtain ⟨Hb,hwb,hob,hnb,hsb⟩:=hoa.wr (fun _=>rfl) (i:=i) (k:=1) (by simpa using hil) (c:=vi e.other) (new:= []) (by simp) (y:= { c.grants[i] with is:=2,person:=e.other }) (by simp [splice])
        simp only [List.set_set] at hob
        have hne1:a7.block≠sg:=fun hc=>h8.sg_ne h8.grants (by decide) (by rw [hbk8,hc])
        have hOg:O6 a7.block:=(hO6 _).2 (.inr (.inr (.inr (.inr (.inl hbk8)))))
        have hOa:O6 aa7.block:=(hO6 _).2 (.inr (.inr (.inr (.inr (.inr (.inl hbka))))))
        have hSb:=h8.wr_grants (H1:=Hb) (by omega) hob (fun k hk hne=>by
         have hka:k≠a7.block:=fun hc=>hne (by rw [hbk8,hc])
         rw [hsb k hka,hsa k hka])
        obtain ⟨Hc,hwc,hoc,hnc,hsc⟩:=hSb.last.wr (fun _=>rfl) (i:=i) (k:=0) (by simp; omega) (c:=vi (IntKind.i64.wrap (e.day+b.term))) (new:= []) (by simp) (y:=IntKind.i64.wrap (e.day+b.term)) (by simp [splice])
        have hSc:=hSb.wr_last (H1:=Hc) (by omega) hoc (fun k hk hne=>hsc k fun hc=>hne (by rw [hbka,hc]))
        have f9:Frm O6 O6 H8 Ha:=Frm.wr f8.lt hOg hna hsa
        have f10:Frm O6 O6 Ha Hb:=Frm.wr f9.lt hOg hnb hsb
        have f11:Frm O6 O6 Hb Hc:=Frm.wr f10.lt hOa hnc hsc
        have hnO:¬O6 H.next:=fun hc=>by
         rcases f6.own _ hc with h|h
         ·have:=hOl _ h; omega
         ·omega
        have hea:Ha.get H.next=_:=((Frm.wr f8.lt hOg hna hsa).keep H.next (by omega) hnO).trans he8
        have heb:Hb.get H.next=_:=(f10.keep H.next (by omega) hnO).trans hea
        have hga8:Ha.get sg=_:=(hsa sg (Ne.symm hne1)).trans hg8
        have hgb8:Hb.get sg=_:=(hsb sg (Ne.symm hne1)).trans hga8
        have hilL:(i:Int)<sD.last.length:=by omega
        simp (disch:=omega) [b1,b3,hg8,he8,hwa,hwb,hgb8,heb,hea,hwc,b112,b113,b114,aj]
        refine ⟨hlt3,f8.trans (f9.trans (f10.trans f11)),?_,?_,?_⟩
        ·rw [hrf,hst]; exact hSc
        ·rw [hrf,hst]; simpa using hgl7
        ·rw [hrf,hst]; simpa using hll7
       ·rw [hskip (fun hc=>k3 (by rw [←hga]; exact hc.2.2))] at hrf
        simp (disch:=omega) [b1,b3,b112,b113,b114,aj]
        exact ⟨hlt3,f8,by rw [hrf]; exact h8,by rw [hrf]; exact hgl7,by rw [hrf]; exact hll7⟩
      ·rw [hskip (fun hc=>k2 (by rw [←hga]; exact hc.2.1))] at hrf
       simp (disch:=omega) [b1,b3,b112,b113,b114,aj,k2]
       exact ⟨hlt3,f8,by rw [hrf]; exact h8,by rw [hrf]; exact hgl7,by rw [hrf]; exact hll7⟩
     ·rw [hskip (fun hc=>k1 (by rw [←hga]; exact hc.1))] at hrf
      simp (disch:=omega) [b1,b3,b112,b113,b114,aj,k1]
      exact ⟨hlt3,f8,by rw [hrf]; exact h8,by rw [hrf]; exact hgl7,by rw [hrf]; exact hll7⟩
    ·have:i=sD.grants.length:=by omega
     subst this
     simp
     exact ⟨O6,f1.trans (f6.trans f7),by
      have hS:uf b s e=(List.range sD.grants.length).foldl (bs b e) sD:=by unfold uf; rw [hB,hsC,hsD]; rfl
      rw [hS]; exact ⟨_,_,_,_,_,_,h7,hO6⟩⟩
end
end Go.Gm.Tryz
end
section
namespace Go.Gm.Tryz
open Go.Proofs
def start (b:Book):Stand:=⟨List.replicate b.persons.toNat true,b.owners,[],[],[],[]⟩
theorem aoe {H:GH} {l:BLoc} {b:Book} (hb:BookIn H l b) (hp:0≤b.persons∧b.persons≤100) (ho:b.owners.length≤100):
  ay Tryz.prog 137 [dl l b] H fun x H'=>∃sg kn O,x=.ret (.pointer (some (ga sg 0 0)))∧H.next≤H'.next∧(∀g,g<H.next→H'.get g=H.get g)∧ap H' H.next l b sg kn (start b) O:=by
 rcases l with ⟨⟨⟨ra,rf⟩⟩,⟨oa,of'⟩,⟨va',vf'⟩⟩
 refine an tok mix arw (F:=axf) (c:=_) rfl (n:=26) rfl (rs:= [.tmp 2]) rfl ?_
 simp
 generalize hH2:GH.push (GH.push _ _) _=H2
 have hs2:Sub H H2:=by subst hH2; exact (Sub.push (.refl H) _).push _
 have hb2:H2.get H.next=some (.arr { cells:= [.slice ra b.tbl.rows.length rf,vi b.tbl.draw,vi b.supply,vi b.term,vi b.persons,.slice oa b.owners.length of',.slice va' b.events.length vf'],ty:=28 }):=by
  subst hH2; rw [GH.get_push_lt _ _ (by simp)]; simp
 have hk2:H2.get (H.next+1)=some (.map [] 0):=by subst hH2; simp
 have hn2:H2.next=H.next+2:=by subst hH2; simp
 clear hH2
 refine (nk b.owners (by omega) oa of' H2 (hb.owners.mono hs2)).mono ?_
 rintro x H3 ⟨v,rfl,hs3,hv3⟩
 have hb3:=(hs3.2 H.next (by omega)).trans hb2
 have hk3:=(hs3.2 (H.next+1) (by omega)).trans hk2
 have hn3:=hs3.1
 obtain ⟨av,fv,rfl⟩:=hv3.slice
 obtain ⟨P,hP⟩:∃P:Nat,b.persons=P:=⟨b.persons.toNat,by omega⟩
 simp (disch:=omega) [hb3]
 generalize hH4:GH.push H3 _=H4
 have hs4:Sub H3 H4:=by subst hH4; exact Sub.push (.refl H3) _
 have hn4:H4.next=H3.next+1:=by subst hH4; simp
 have hS4:ap H4 H.next ⟨⟨⟨ra,rf⟩⟩,⟨oa,of'⟩,⟨va',vf'⟩⟩ b H3.next (H.next+1) ⟨[],b.owners,[],[],[],[]⟩ (fun g=>g=H3.next∨g=H.next+1∨ak (.slice none 0 0)=some g∨ak (.slice av b.owners.length fv)=some g∨ak (.slice none 0 0)=some g∨ak (.slice none 0 0)=some g∨ak (.slice none 0 0)=some g∨ak (.slice none 0 0)=some g):=by
  refine ⟨_,_,_,_,_,_,⟨?_,⟨by omega,by omega⟩,?_,?_,?_,?_,⟨[],0,(hs4.2 _ (by omega)).trans hk3,by intro e he; cases he⟩,⟨by omega,by omega⟩,.nil,(hv3.sub hs4).weaken (by omega),.nil,.nil,.nil,.nil,?_,?_,?_⟩,fun g=>Iff.rfl⟩
  ·subst hH4; simp
  ·have hsub:=hs2.trans (hs3.trans hs4)
   exact ⟨hb.t.mono hsub,hb.owners.mono hsub,hb.events.mono hsub⟩
  ·exact fun a ha=>(hb.t.ok a ha).1
  ·exact fun a ha=>(hb.owners.ok a ha).1
  ·exact fun a ha=>(hb.events.ok a ha).1
  ·intro k _ h; simp at h
  ·intro k _ h; simp at h
  ·intro k _ h; simp at h
 clear hH4
 refine cv tok mix (by kernel_rfl) P (fun i ρ m H5=>ρ 3=.pointer (some (ga H3.next 0 0))∧ρ 12=vi b.persons∧ρ 13=vi i∧m= []∧Sub H H5∧
  ∃O5,ap H5 H.next ⟨⟨⟨ra,rf⟩⟩,⟨oa,of'⟩,⟨va',vf'⟩⟩ b H3.next (H.next+1) ⟨List.replicate i true,b.owners,[],[],[],[]⟩ O5) (i0:=0) (by omega)
  ⟨by simp,by simp,by simp,by simp,hs2.trans (hs3.trans hs4),_,hS4⟩ ?_
 rintro i ρ m H5 hi ⟨e3,e12,e13,rfl,hs5,O5,h5⟩
 rw [hP] at e12
 simp [e12,e13]
 refine ba (fun hlt=>?_) (fun hge=>?_)
 ·obtain ⟨vl,vo,vg,va,vw,vf,h5',hO⟩:=h5
  have hg5:=h5'.g
  have hsl5:=h5'.sgl.2
  have hlv:=h5'.lives.len
  simp only [List.length_replicate] at hlv
  obtain ⟨vl',H6,happ,ho6,hn6,hf6,hb6⟩:=(h5'.lives.push (.arr { cells:= [.bool true],ty:=4 })).app (by simp) (by simp) (by decide) true (by have:=h5'.sgl; simp; omega)
  simp only [aku] at happ
  have d8:1*(1+i)≤1000000:=by omega
  have d9:1+i≤1000000:=by omega
  have hg6:=(hf6 H3.next (by simp; omega) (h5'.sg_ne h5'.lives (by decide))).trans ((GH.get_push_lt _ _ hsl5).trans hg5)
  simp only [GH.next_push] at hn6
  obtain ⟨al,fl,rfl⟩:=ho6.slice
  simp (disch:=omega) [e3,e12,e13,hg5,hlv,d9,happ,hg6,aj,hlt]
  have hS6:=h5'.upd_lives (by omega) ho6 (fun k hk hne=>by rw [hf6 k (by simp; omega) hne,GH.get_push_lt _ _ hk]) (fun k hk=>(hb6 k hk).imp id fun h=>by simp at h; omega)
  simp only [bq,List.cons_append,List.nil_append,List.length_append,List.length_cons,List.length_nil,Nat.zero_add,List.length_replicate] at hS6 hb6
  obtain ⟨O6,f6,h6⟩:=ap.of h5' hO hS6 (by simp; omega) (fun k hk ho=>by
   rw [hO] at ho
   rw [GH.get_put_ne _ _ (fun hc=>ho (.inl hc)),hf6 k (by simp; omega) (fun hc=>ho (.inr (.inr (.inl hc)))),GH.get_push_lt _ _ (by omega)])
   (fun k hk=>(hb6 k hk).imp id fun h=>by simp at h; omega) (fun k hk=>.inl hk) (fun k hk=>.inl hk) (fun k hk=>.inl hk) (fun k hk=>.inl hk) (fun k hk=>.inl hk)
  have hrep:List.replicate i true++ [true]=List.replicate (i+1) true:=by rw [List.replicate_succ']
  rw [hrep] at h6
  refine ⟨hP.symm,⟨Nat.le_trans hs5.1 f6.next,fun g hg=>?_⟩,O6,h6⟩
  rw [f6.keep g (Nat.lt_of_lt_of_le hg hs5.1) (fun hc=>by have:=(h5'.own_lt ((hO g).1 hc)).1; omega),hs5.2 g hg]
 ·have:i=P:=by omega
  subst this
  simp [e3]
  refine ⟨H3.next,rfl,hs5.1,hs5.2,H.next+1,O5,?_⟩
  unfold start
  rw [hP]
  simpa using h5
end Go.Gm.Tryz
end
section
namespace Go.Gm.Tryz
open Go.Proofs
def afd (k:Int):Nat:=if k=1 then 218 else if k=2 then 219 else if k=3 then 220 else if k=4 then 221 else if k=5 then 222 else if k=6 then 223 else if k=7 then 224 else 225
theorem ad4 (e:Ev) (H:GH):ay Tryz.prog 139 [evV e] H fun x H'=>x=.ret (.iface (afd e.kind) (evV e))∧Sub H H':=by
 refine an tok mix ary (F:=a4f) (c:=_) rfl (n:=43) rfl (rs:= [.tmp 2]) rfl ?_
 simp
 repeat' (first
  |(refine ba (fun h=>?_) (fun h=>?_)<;>simp [*,afd]))
end Go.Gm.Tryz
end
section
namespace Go.Gm.Tryz
open Go.Proofs
def size (s:Stand):Nat:=s.grants.length+s.waits.length
structure Sh (k j:Nat) (s s':Stand):Prop where
 size:size s'≤size s+k
 own:s'.owners.length≤s.owners.length+j
 liv:s'.lives.length=s.lives.length
theorem Sh.refl (s:Stand):Sh 0 0 s s:=⟨Nat.le_refl _,Nat.le_refl _,rfl⟩
theorem Sh.trans {k j k' j':Nat} {a b c:Stand} (x:Sh k j a b) (y:Sh k' j' b c):Sh (k+k') (j+j') a c:=
 ⟨by have:=x.size; have:=y.size; omega,by have:=x.own; have:=y.own; omega,y.liv.trans x.liv⟩
theorem Sh.t0 {k j:Nat} {a b c:Stand} (x:Sh k j a b) (y:Sh 0 0 b c):Sh k j a c:=x.trans y
theorem Sh.t0' {k j:Nat} {a b c:Stand} (x:Sh 0 0 a b) (y:Sh k j b c):Sh k j a c:=by have:=x.trans y; simpa using this
theorem apz {b:Book}:∀ {n:Nat} {s:Stand},Sh 0 0 s (gu b n s):=by
 intro n
 induction n with
 |zero=>intro s; exact .refl _
 |succ n ih=>
  intro s
  simp only [gu]
  cases hws:s.waits with
  |nil=>exact .refl _
  |cons w ws=>
   simp only
   split
   ·exact .refl _
   ·refine Sh.t0' ?_ ih
    refine ⟨?_,Nat.le_refl _,rfl⟩
    simp [size,ek,hws]; omega
theorem pz (b:Book) (s:Stand):Sh 0 0 s (serve b s):=apz
theorem am9 (b:Book) (s:Stand) (g:Nat) (d:Int):Sh 0 0 s (endS b s g d):=by
 refine Sh.t0' ?_ (pz b _)
 exact ⟨by simp [size,endG],Nat.le_refl _,rfl⟩
theorem auw {b:Book} {d:Int}:∀ {n:Nat} {s:Stand},Sh 0 0 s (lj b d n s):=by
 intro n
 induction n with
 |zero=>intro s; exact .refl _
 |succ n ih=>
  intro s
  simp only [lj]
  split
  ·exact .refl _
  ·exact (am9 ..).t0' ih
theorem yj (b:Book) (s:Stand) (d:Int):Sh 0 0 s (pass b s d):=auw
theorem abk (s:Stand) (p e sy u:Int):Sh 1 0 s (ek s p e sy u):=⟨by simp [size,ek]; omega,Nat.le_refl _,rfl⟩
theorem xg {b:Book} {s:Stand} (h:Wf b s) (hs:size s<100) (p e sy u:Int):Wf b (ek s p e sy u):=by
 refine ⟨h.w,?_,?_,h.own,h.ev,?_⟩
 ·simp only [size] at hs; simp [ek]; omega
 ·have:=h.last; simp [ek]; omega
 ·have:=h.fe; simpa [ek] using this
theorem ag1 (s:Stand) (n:Nat) (p:Int):Sh 0 0 s (jz s n p):=⟨by simp [size,jz],by simp [jz],rfl⟩
theorem a7m {l:List GSt} {i:Nat} {y:GSt} (hi:i<l.length) (h:y.is=l[i].is):(l.set i y).countP (fun x=>decide (x.is=3))=l.countP (fun x=>decide (x.is=3)):=by
 have h2:=nm (p:=fun x:GSt=>decide (x.is=3)) (y:=y) hi
 rw [h] at h2; omega
theorem aci (s:Stand) (e:Ev):Sh 1 1 s (fy s e):=⟨by simp [size,fy,ek]; omega,by simp [fy,ek],rfl⟩
theorem acj {b:Book} {s:Stand} (h:Wf b s) (hs:size s<100) (ho:s.owners.length<100) (e:Ev) (he:e.grant.toNat<s.grants.length):Wf b (fy s e):=by
 unfold fy
 refine xg ?_ (by simpa [size] using hs) _ _ _ _
 refine ⟨h.w,by have:=h.len; simpa using this,by have:=h.last; simpa using this,by simp; omega,h.ev,?_⟩
 have hg:s.grants.getD e.grant.toNat default=s.grants[e.grant.toNat]:=bc he
 have:=h.fe
 simp only [hg]
 refine Nat.le_trans this (Nat.le_of_eq (a7m he ?_).symm)
 rfl
theorem afl (s:Stand) (e:Ev):Sh 0 0 s (mo s e):=⟨by simp [size,mo],Nat.le_refl _,rfl⟩
theorem afm {b:Book} {s:Stand} (h:Wf b s) (e:Ev) (he:e.grant.toNat<s.grants.length) (h2:(s.grants[e.grant.toNat]).is=2):Wf b (mo s e):=by
 refine ⟨h.w,by have:=h.len; simpa [mo] using this,by have:=h.last; simpa [mo] using this,h.own,h.ev,?_⟩
 have h3:=nm (p:=fun x:GSt=>decide (x.is=3)) (y:= { s.grants[e.grant.toNat] with is:=1 }) he
 have hg:s.grants.getD e.grant.toNat default=s.grants[e.grant.toNat]:=bc he
 have:=h.fe
 simp [h2] at h3
 simp only [mo,hg]
 omega
theorem ai2 (s:Stand) (e:Ev):Sh 0 0 s (nq s e):=⟨by simp [size,nq],by simp [nq],rfl⟩
theorem ai3 {b:Book} {s:Stand} (h:Wf b s) (e:Ev):Wf b (nq s e):=by
 refine ⟨h.w,by simpa [nq] using h.len,by simpa [nq] using h.last,by simpa [nq] using h.own,h.ev,?_⟩
 have h1:=h.fe
 simp only [nq]
 rw [List.countP_map]
 refine Nat.le_trans h1 (Nat.le_of_eq ?_)
 congr 1
 funext x
 simp only [Function.comp,gh]
 split<;>rfl
theorem am1 (s:Stand) (n:Int):Sh 1 0 s (aaz s n):=⟨by simp [size,aaz]; omega,Nat.le_refl _,rfl⟩
theorem am2 {b:Book} {s:Stand} (h:Wf b s) (hs:size s<100) {n:Nat} (hn:n<b.events.length):Wf b (aaz s n):=by
 refine ⟨fun m hm=>?_,by simp only [size] at hs; simp [aaz]; omega,h.last,h.own,h.ev,h.fe⟩
 rcases List.mem_append.1 hm with hm|hm
 ·exact h.w m hm
 ·simp at hm; omega
theorem alw (e:Ev) (s:Stand) (i:Nat):Sh 0 0 s ((List.range i).foldl (cj e) s):=by
 induction i with
 |zero=>exact .refl _
 |succ i ih=>
  rw [dk]
  refine ih.t0 ?_
  unfold cj
  split
  ·exact ag1 ..
  ·exact .refl _
theorem akw (b:Book) (e:Ev) (s:Stand) (i:Nat):Sh 0 0 s ((List.range i).foldl (bw b e) s):=by
 induction i with
 |zero=>exact .refl _
 |succ i ih=>
  rw [dk]
  refine ih.t0 ?_
  unfold bw
  split
  ·exact am9 ..
  ·exact .refl _
theorem akx {b:Book} {e:Ev} {s:Stand} (h:Wf b s) {i:Nat} (hi:i≤s.grants.length):Wf b ((List.range i).foldl (bw b e) s)∧s.grants.length≤((List.range i).foldl (bw b e) s).grants.length:=by
 induction i with
 |zero=>exact ⟨h,Nat.le_refl _⟩
 |succ i ih=>
  obtain ⟨h1,h2⟩:=ih (by omega)
  rw [dk]
  obtain ⟨h3,h4⟩:=vc (e:=e) h1 (i:=i) (by omega)
  exact ⟨h3,Nat.le_trans h2 h4⟩
theorem aiz {b:Book} {e:Ev} {s:Stand} (h:Wf b s) {i:Nat} (hi:i<s.grants.length):Wf b (bs b e s i)∧Sh 0 0 s (bs b e s i)∧(bs b e s i).grants.length=s.grants.length:=by
 unfold bs
 split
 ·rename_i hc
  refine ⟨⟨h.w,by have:=h.len; simpa using this,by have:=h.last; simpa using this,h.own,h.ev,?_⟩,⟨by simp [size],Nat.le_refl _,rfl⟩,by simp⟩
  have hg:gAt s i=s.grants[i]:=bc hi
  rw [hg] at hc ⊢
  have h3:=nm (p:=fun x:GSt=>decide (x.is=3)) (y:= { s.grants[i] with is:=2,person:=e.other }) hi
  have:=h.fe
  simp [hc.1] at h3
  rw [←h3] at this
  exact this
 ·exact ⟨h,.refl _,rfl⟩
theorem aiy {b:Book} {e:Ev} {s:Stand} (h:Wf b s) {i:Nat} (hi:i≤s.grants.length):Wf b ((List.range i).foldl (bs b e) s)∧Sh 0 0 s ((List.range i).foldl (bs b e) s)∧((List.range i).foldl (bs b e) s).grants.length=s.grants.length:=by
 induction i with
 |zero=>exact ⟨h,.refl _,rfl⟩
 |succ i ih=>
  obtain ⟨h1,h2,h2'⟩:=ih (by omega)
  rw [dk]
  obtain ⟨h3,h4,h5⟩:=aiz (e:=e) h1 (i:=i) (by omega)
  exact ⟨h3,h2.t0 h4,h5.trans h2'⟩
theorem am8 {b:Book} {s:Stand} (h:Wf b s) (e:Ev):Wf b (uf b s e)∧Sh 0 0 s (uf b s e):=by
 unfold uf
 have h1:=af2 h e
 have s1:Sh 0 0 s (dj s e):=⟨Nat.le_refl _,Nat.le_refl _,by simp [dj]⟩
 have h2:Wf b (jt (dj s e) e):=(we (e:=e) h1 _).1
 have s2:Sh 0 0 s (jt (dj s e) e):=s1.t0 (alw e _ _)
 have h3:Wf b (mn b (jt (dj s e) e) e):=af3 h2 e
 have s3:Sh 0 0 s (mn b (jt (dj s e) e) e):=s2.t0 ⟨by
  have:=List.length_filter_le (jg b e) (jt (dj s e) e).waits
  simp only [size,mn]; omega,Nat.le_refl _,rfl⟩
 have h4:Wf b (n8 b (mn b (jt (dj s e) e) e) e):=(akx (e:=e) h3 (Nat.le_refl _)).1
 have s4:Sh 0 0 s (n8 b (mn b (jt (dj s e) e) e) e):=s3.t0 (akw ..)
 have h5:=aiy (e:=e) h4 (Nat.le_refl _)
 exact ⟨h5.1,s4.t0 h5.2.1⟩
end Go.Gm.Tryz
end
section
namespace Go.Gm.Tryz
open Go.Proofs
def cu (b:Book) (s:Stand) (e:Ev):Bool:=
 if e.kind=1 then s.lives.getD e.person.toNat false&&q9 b s e
 else if e.kind=2 then dq s e.estate&&q9 b s e
 else if e.kind=3 then decide (e.person≠e.other)&&(s.lives.getD e.person.toNat false&&s.lives.getD e.other.toNat false)
 else if e.kind=4 then dq s e.estate&&(s.lives.getD e.person.toNat false&&decide (s.owners.getD e.estate.toNat 0≠e.person))
 else if e.kind=5 then nn b s e
 else if e.kind=6 then decide (e.estate≠e.other)&&(dq s e.estate&&(dq s e.other&&decide (s.owners.getD e.estate.toNat 0=s.owners.getD e.other.toNat 0)))
 else if e.kind=7 then decide (e.grant<s.grants.length)&&(decide ((s.grants.getD e.grant.toNat default).is=2)&&decide ((s.grants.getD e.grant.toNat default).person=e.person))
 else s.lives.getD e.person.toNat false&&decide (0≤ct b.tbl e.system e.units)
def doS (b:Book) (s:Stand) (e:Ev) (n:Nat):Stand:=
 if e.kind=1 then air s e
 else if e.kind=2 then qd s e
 else if e.kind=3 then uf b s e
 else if e.kind=4 then jz s e.estate.toNat e.person
 else if e.kind=5 then fy s e
 else if e.kind=6 then nq s e
 else if e.kind=7 then mo s e
 else aaz s n
def iu (b:Book) (day:Int):List Ev→Nat→Stand→Nat⊕Stand
 | [],_,s=>.inr (pass b s day)
 |e::es,n,s=>if e.day>day then .inr (pass b s day) else
  if cu b (pass b s e.day) e then iu b day es (n+1) (serve b (doS b (pass b s e.day) e n)) else .inl n
def upS (b:Book) (day:Int):Nat⊕Stand:=iu b day b.events 0 (start b)
structure EvOk (b:Book) (s:Stand) (e:Ev):Prop where
 kind:1≤e.kind∧e.kind≤8
 person:e.kind≠2→e.kind≠6→0≤e.person∧e.person<s.lives.length
 other:e.kind=3→0≤e.other∧e.other<s.lives.length
 estate:0≤e.estate
 grant:0≤e.grant
 other0:0≤e.other
theorem aap {b:Book} {n:Int} (h:az b n=true) (hb:1≤b.persons∧b.persons≤8):0≤n∧n<b.persons.toNat:=by
 simp (disch:=omega) only [az,inI,aj,decide_eq_true_eq] at h
 omega
theorem xk {b:Book} {s:Stand} {e:Ev} (hb:1≤b.persons∧b.persons≤8) (hl:s.lives.length=b.persons.toNat) (h:bv b e=true):EvOk b s e:=by
 unfold bv at h
 simp only [Bool.and_eq_true] at h
 obtain ⟨_,h⟩:=h
 have hp:∀ {n:Int},az b n=true→0≤n∧n<s.lives.length:=fun h=>by rw [hl]; exact aap h hb
 by_cases k1:e.kind=1∨e.kind=8
 ·simp [k1,ja] at h
  have:=hp h.1.1
  exact ⟨by omega,fun _ _=>this,by omega,by omega,by omega,by omega⟩
 by_cases k2:e.kind=2
 ·simp [k2,ja,bx,inI] at h
  exact ⟨by omega,by omega,by omega,by omega,by omega,by omega⟩
 by_cases k3:e.kind=3
 ·simp [k3,ja] at h
  have:=hp h.1.1
  have h2:=hp h.1.2
  exact ⟨by omega,fun _ _=>this,fun _=>h2,by omega,by omega,by omega⟩
 by_cases k4:e.kind=4
 ·simp [k4,ja,bx,inI] at h
  have:=hp h.1.2
  exact ⟨by omega,fun _ _=>this,by omega,by omega,by omega,by omega⟩
 by_cases k5:e.kind=5
 ·simp [k5,ja,dv,inI] at h
  have:=hp h.1.2
  exact ⟨by omega,fun _ _=>this,by omega,by omega,by omega,by omega⟩
 by_cases k6:e.kind=6
 ·simp [k6,ja,bx,inI] at h
  exact ⟨by omega,by omega,by omega,by omega,by omega,by omega⟩
 by_cases k7:e.kind=7
 ·simp [k7,ja,dv,inI] at h
  have:=hp h.1.2
  exact ⟨by omega,fun _ _=>this,by omega,by omega,by omega,by omega⟩
 simp [k1,k2,k3,k4,k5,k6,k7] at h
end Go.Gm.Tryz
end
section
namespace Go.Gm.Tryz
open Go.Proofs
def anj (k:Int):FuncId:=if k=1 then 246 else if k=2 then 249 else if k=3 then 252 else if k=4 then 255 else if k=5 then 257 else if k=6 then 259 else if k=7 then 261 else 263
def doF (k:Int):FuncId:=if k=1 then 245 else if k=2 then 248 else if k=3 then 251 else if k=4 then 254 else if k=5 then 256 else if k=6 then 258 else if k=7 then 260 else 262
theorem afe (k:Int):(k=1∨k=2∨k=3∨k=4∨k=5∨k=6∨k=7∨(k≠1∧k≠2∧k≠3∧k≠4∧k≠5∧k≠6∧k≠7)):=by omega
theorem ax8 (k:Int) (v:Value) (l:List Value) (H:GH):ivR (T.get (afd k)) "quinaria/grant.goes" v l H=some (.enter (anj k) (v::l) H):=by
 rcases afe k with h|h|h|h|h|h|h|h<;>simp [afd,anj,h]
theorem bb2 (k:Int) (v:Value) (l:List Value) (H:GH):ivR (T.get (afd k)) "quinaria/grant.do" v l H=some (.enter (doF k) (v::l) H):=by
 rcases afe k with h|h|h|h|h|h|h|h<;>simp [afd,doF,h]
section
variable {H:GH} {N:Nat} {l:BLoc} {b:Book} {sg kn:Nat} {s:Stand} {O:Nat→Prop}
theorem at5 (h:ap H N l b sg kn s O) (hw:Wf b s) {e:Ev} (he:EvOk b s e):afv (anj e.kind) H N l b sg kn s O e (cu b s e):=by
 have hk:=he.kind
 unfold cu anj
 by_cases k1:e.kind=1
 ·rw [if_pos k1,if_pos k1]; exact aoy h hw e (he.person (by omega) (by omega))
 rw [if_neg k1,if_neg k1]
 by_cases k2:e.kind=2
 ·rw [if_pos k2,if_pos k2]; exact ah2 h hw e he.estate
 rw [if_neg k2,if_neg k2]
 by_cases k3:e.kind=3
 ·rw [if_pos k3,if_pos k3]; exact aq1 h hw e (he.person (by omega) (by omega)) (he.other k3)
 rw [if_neg k3,if_neg k3]
 by_cases k4:e.kind=4
 ·rw [if_pos k4,if_pos k4]; exact apx h hw e (he.person (by omega) (by omega)) he.estate
 rw [if_neg k4,if_neg k4]
 by_cases k5:e.kind=5
 ·rw [if_pos k5,if_pos k5]; exact aia h hw e (he.person (by omega) (by omega)) he.grant
 rw [if_neg k5,if_neg k5]
 by_cases k6:e.kind=6
 ·rw [if_pos k6,if_pos k6]; exact ao7 h hw e he.other0 he.estate
 rw [if_neg k6,if_neg k6]
 by_cases k7:e.kind=7
 ·rw [if_pos k7,if_pos k7]; exact al8 h hw e he.grant
 rw [if_neg k7,if_neg k7]
 exact aqt h hw e (he.person (by omega) (by omega))
theorem a11 (h:ap H N l b sg kn s O) (hw:Wf b s) {e:Ev} (he:EvOk b s e) (hg:cu b s e=true) (n:Nat) (hn:n<b.events.length) (hs:size s<100) (ho:s.owners.length<100):
  afu (doF e.kind) H N l b sg kn O e n (doS b s e n)∧Wf b (doS b s e n)∧Sh 1 1 s (doS b s e n):=by
 have hk:=he.kind
 have up:∀ {k j:Nat} {s':Stand},k≤1→j≤1→Sh k j s s'→Sh 1 1 s s':=fun hk hj x=>⟨by have:=x.size; omega,by have:=x.own; omega,x.liv⟩
 unfold cu at hg
 unfold doS doF
 by_cases k1:e.kind=1
 ·rw [if_pos k1,if_pos k1]; exact ⟨ax1 h hw e n,xg hw hs _ _ _ _,up (by omega) (by omega) (abk ..)⟩
 rw [if_neg k1] at hg
 rw [if_neg k1,if_neg k1]
 by_cases k2:e.kind=2
 ·rw [if_pos k2] at hg
  simp only [dq,Bool.and_eq_true,decide_eq_true_eq] at hg
  rw [if_pos k2,if_pos k2]; exact ⟨aod h hw e n ⟨he.estate,hg.1.1⟩,xg hw hs _ _ _ _,up (by omega) (by omega) (abk ..)⟩
 rw [if_neg k2] at hg
 rw [if_neg k2,if_neg k2]
 by_cases k3:e.kind=3
 ·rw [if_pos k3,if_pos k3]; have:=am8 hw e; exact ⟨a1z h hw e n (he.person (by omega) (by omega)),this.1,up (by omega) (by omega) this.2⟩
 rw [if_neg k3] at hg
 rw [if_neg k3,if_neg k3]
 by_cases k4:e.kind=4
 ·rw [if_pos k4] at hg
  simp only [dq,Bool.and_eq_true,decide_eq_true_eq] at hg
  rw [if_pos k4,if_pos k4]; exact ⟨ay2 h hw e n ⟨he.estate,hg.1.1⟩,ag2 hw _ _,up (by omega) (by omega) (ag1 ..)⟩
 rw [if_neg k4] at hg
 rw [if_neg k4,if_neg k4]
 by_cases k5:e.kind=5
 ·rw [if_pos k5] at hg
  simp only [nn,Bool.and_eq_true,decide_eq_true_eq] at hg
  have hgr:=he.grant
  rw [if_pos k5,if_pos k5]; exact ⟨aoj h hw e n ⟨he.grant,hg.1⟩,acj hw hs ho e (by omega),up (by omega) (by omega) (aci ..)⟩
 rw [if_neg k5] at hg
 rw [if_neg k5,if_neg k5]
 by_cases k6:e.kind=6
 ·rw [if_pos k6] at hg
  simp only [dq,Bool.and_eq_true,decide_eq_true_eq] at hg
  rw [if_pos k6,if_pos k6]; exact ⟨ax9 h hw e n ⟨he.other0,hg.2.2.1.1⟩,ai3 hw e,up (by omega) (by omega) (ai2 ..)⟩
 rw [if_neg k6] at hg
 rw [if_neg k6,if_neg k6]
 by_cases k7:e.kind=7
 ·rw [if_pos k7] at hg
  simp only [Bool.and_eq_true,decide_eq_true_eq] at hg
  have hgr:=he.grant
  have hl:e.grant.toNat<s.grants.length:=by omega
  have h2:=hg.2.1
  rw [bc hl] at h2
  rw [if_pos k7,if_pos k7]; exact ⟨avh h hw e n ⟨he.grant,hg.1⟩,afm hw e hl h2,up (by omega) (by omega) (afl ..)⟩
 rw [if_neg k7,if_neg k7]
 exact ⟨a1q h hw e n,am2 hw hs hn,up (by omega) (by omega) (am1 ..)⟩
end
end Go.Gm.Tryz
end
section
namespace Go.Gm.Tryz
open Go.Proofs
structure BookOk (b:Book):Prop where
 persons:1≤b.persons∧b.persons≤8
 owners:b.owners.length≤6
 events:b.events.length≤12
 ev:∀(i:Nat) (h:i<b.events.length),bv b b.events[i]=true
theorem l8 {b:Book} (h:aq b=true):BookOk b:=by
 simp only [aq,Bool.and_eq_true,inI,decide_eq_true_eq,List.all_eq_true,List.mem_range,mc,Bool.not_eq_true',Bool.or_eq_false_iff,Bool.not_eq_false'] at h
 refine ⟨h.1.1.1.1.2,h.1.1.1.2,h.1.1.2,fun i hi=>?_⟩
 have:=(h.1.2 i hi).1
 rwa [bc hi] at this
theorem aj0 {b:Book} (h:BookOk b):Wf b (start b):=by
 have h1:=h.owners
 have h2:=h.events
 exact ⟨fun n hn=>by simp [start] at hn,by simp [start],rfl,by simp [start]; omega,by omega,by simp [start]⟩
theorem adr {H:GH} {l:BLoc} {b:Book} (hb:BookIn H l b) (hB:BookOk b) (day:Int):
  ay Tryz.prog 85 [dl l b,vi day] H fun x H'=>H.next≤H'.next∧(∀g,g<H.next→H'.get g=H.get g)∧match upS b day with
   | .inr s=>∃N sg kn O,H.next≤N∧x=.ret (.pointer (some (ga sg 0 0)))∧ap H' N l b sg kn s O∧Wf b s
   | .inl n=>x=.pan (.iface 175 (.agg #[vi n])):=by
 rcases l with ⟨⟨⟨ra,rf⟩⟩,⟨oa,of'⟩,⟨va',vf'⟩⟩
 have hp:=hB.persons
 have ho:=hB.owners
 have hv:=hB.events
 refine an tok mix a0m (F:=g85) (c:=_) rfl (n:=47) rfl (rs:= [.tmp 4]) rfl ?_
 simp
 generalize hH1:H.push _=H1
 have hs1:Sub H H1:=by subst hH1; exact Sub.push (.refl H) _
 have hb1:H1.get H.next=some (.arr { cells:= [.slice ra b.tbl.rows.length rf,vi b.tbl.draw,vi b.supply,vi b.term,vi b.persons,.slice oa b.owners.length of',.slice va' b.events.length vf'],ty:=28 }):=by subst hH1; simp
 have hn1:H1.next=H.next+1:=by subst hH1; simp
 clear hH1
 have hbi:BookIn H1 ⟨⟨⟨ra,rf⟩⟩,⟨oa,of'⟩,⟨va',vf'⟩⟩ b:=⟨hb.t.mono hs1,hb.owners.mono hs1,hb.events.mono hs1⟩
 refine (aoe hbi (by omega) (by omega)).mono ?_
 rintro x H2 ⟨sg,kn,O2,rfl,hn2,hk2,h2⟩
 have hs2:Sub H1 H2:=⟨hn2,hk2⟩
 have hb2:=(hk2 H.next (by omega)).trans hb1
 simp (disch:=omega) [hb2]
 refine cv tok mix (by kernel_rfl) b.events.length (fun i ρ m H3=>ρ 1=vi day∧ρ 5=.pointer (some (ga sg 0 0))∧ρ 12=.slice va' b.events.length vf'∧ρ 13=vi b.events.length∧ρ 14=vi i∧m= []∧
  ∃s O3,Frm O2 O3 H2 H3∧ap H3 H1.next ⟨⟨⟨ra,rf⟩⟩,⟨oa,of'⟩,⟨va',vf'⟩⟩ b sg kn s O3∧Wf b s∧size s≤i∧s.owners.length≤6+i∧s.lives.length=b.persons.toNat∧iu b day (b.events.drop i) i s=upS b day) (i0:=0) (by omega)
  ⟨by simp,by simp,by simp,by simp,by simp,by simp,start b,O2,Frm.refl (fun g hg=>(h2.lt g hg).2),h2,aj0 hB,by simp [size,start],by simp [start]; omega,by simp [start],rfl⟩ ?_
 rintro i ρ m H3 hi ⟨e1,e5,e12,e13,e14,rfl,s,O3,f3,h3,hw3,hz,hoi,hl,hup⟩
 have hkeep:∀ {O4:Nat→Prop} {H4:GH},Frm O2 O4 H2 H4→H.next≤H4.next∧∀g,g<H.next→H4.get g=H.get g:=fun {O4 H4} f=>
  ⟨Nat.le_trans hs1.1 (Nat.le_trans hs2.1 f.next),fun g hg=>by rw [f.keep g (by omega) (fun hc=>by have:=(h2.lt g hc).1; omega),hs2.2 g (by omega),hs1.2 g hg]⟩
 simp [e13,e14]
 refine ba (fun hlt=>?_) (fun hge=>?_)
 ·obtain ⟨_,_,_,_,_,_,h3'⟩:=h3.st
  obtain ⟨a,rfl,hab,hrd⟩:=h3'.book.events.at i hlt
  have hltI:(i:Int)<b.events.length:=by omega
  rw [List.drop_eq_getElem_cons hlt,iu] at hup
  have hev:=xk (s:=pass b s b.events[i].day) hB.persons ((yj b s b.events[i].day).liv.trans hl) (hB.ev i hlt)
  obtain ⟨e,hE⟩:∃e,b.events[i]=e:=⟨_,rfl⟩
  rw [hE] at hup hev hrd
  simp (disch:=omega) [e1,e12,e14,hrd]
  generalize hH4:GH.put _ _ _=H4
  have hs4:Sub H3 H4:=by subst hH4; exact (Sub.push (.refl H3) _).put (Nat.le_refl _) _
  have hb4:H4.get H3.next=some (.arr { cells:=jb e,ty:=57 }):=by subst hH4; simp
  have hn4:H3.next<H4.next:=by subst hH4; simp
  clear hH4
  obtain ⟨h4,f4⟩:=h3.sub hs4
  have hO3:∀g,O3 g→g<H3.next:=fun g hg=>(h3.lt g hg).2
  refine ba (fun hd=>?_) (fun hd=>?_)
  ·rw [if_pos hd] at hup
   simp [e1,e5]
   refine (ac8 h4 hw3 day).mono ?_
   rintro x H5 ⟨rfl,O5,f5,h5⟩
   have:=hkeep (f3.trans (f4.trans f5))
   simp [e5,←hup]
   exact ⟨this.1,this.2,H1.next,by omega,sg,rfl,⟨_,_,h5⟩,qr hw3⟩
  ·rw [if_neg hd] at hup
   simp (disch:=omega) [e5,hb4]
   refine (ac8 h4 hw3 e.day).mono ?_
   rintro x H5 ⟨rfl,O5,f5,h5⟩
   have hb5:=(f5.keep H3.next hn4 (fun hc=>by have:=hO3 _ hc; omega)).trans hb4
   have hn5:=f5.next
   have hw5:Wf b (pass b s e.day):=qr hw3
   have hsh5:=yj b s e.day
   simp (disch:=omega) [hb5]
   refine (ad4 e H5).mono ?_
   rintro x H6 ⟨rfl,hs6⟩
   obtain ⟨h6,f6⟩:=h5.sub hs6
   simp [e5,ax8]
   refine (at5 h6 hw5 hev).mono ?_
   rintro x H7 ⟨rfl,f7,h7⟩
   have f27:=f3.trans (f4.trans (f5.trans (f6.trans f7)))
   simp
   cases hgo:cu b (pass b s e.day) e with
   |false=>
    rw [if_neg (by rw [hgo]; decide)] at hup
    have:=hkeep f27
    simp [←hup]
    exact ⟨this.1,this.2⟩
   |true=>
    rw [if_pos hgo] at hup
    have z5:=hsh5.size
    have o5:=hsh5.own
    obtain ⟨hdo,hwd,hsd⟩:=a11 h7 hw5 hev hgo i (by omega) (by omega) (by omega)
    simp [e5,bb2]
    refine hdo.mono ?_
    rintro x H8 ⟨rfl,O8,f8,h8⟩
    simp [e5]
    refine (afo h8 hwd).mono ?_
    rintro x H9 ⟨rfl,O9,f9,h9⟩
    have z9:=(hsd.t0 (pz b _)).size
    have o9:=(hsd.t0 (pz b _)).own
    have l9:=(hsh5.t0' (hsd.t0 (pz b _))).liv
    simp (disch:=omega) [e1,e5,e12,e13,e14,aj]
    exact ⟨hlt,serve b (doS b (pass b s e.day) e i),O9,f27.trans (f8.trans f9),h9,adl hwd,by omega,by omega,l9.trans hl,hup⟩
 ·have:i=b.events.length:=by omega
  subst this
  rw [List.drop_length,iu] at hup
  simp [e1,e5]
  refine (ac8 h3 hw3 day).mono ?_
  rintro x H5 ⟨rfl,O5,f5,h5⟩
  have:=hkeep (f3.trans f5)
  simp [e5,←hup]
  exact ⟨this.1,this.2,H1.next,by omega,sg,rfl,⟨_,_,h5⟩,qr hw3⟩
end Go.Gm.Tryz
end
section
namespace Go.Gm.Tryz
open Go.Proofs
theorem aom (t:TypeId) (v:Value):dx T .eql 20 (.iface t v) .nilIface=some (.bool false):=by
 have:jq T 20 (.iface t v) .nilIface=some false:=ai rfl
 simp [dx,this]
theorem anw:∃(id:Nat) (os:Array Oper) (c:Code),za.fn.body=some (.seq (.region id os false) c)∧cg T za.plans c=true∧
  (∀(Q:Exit→Act→List Frame→World→Prop) (a:Act) (c₀ :Frame) (cs:List Frame) (w:World) (pv:Value),c₀.mode=.panicking [{ v:=pv,recovered:=false }]→
   Q .normal (a.put (some 6) pv) ({ c₀ with mode:=.panicking [{ v:=pv,recovered:=true }] }::cs) w→wpOpsSIn Fence.wide 0 Tryz.prog os Q (List.range os.size) a (c₀ ::cs) w)∧
  (∀(ρ:Rho) (H:GH) (Q:VQ) (n:Int) (g2 g3:Nat),ρ 0=.pointer (some (ga g2 0 0))→ρ 1=.pointer (some (ga g3 0 0))→g2≠g3→g2<H.next→g3<H.next→
   H.get g2=some (.arr { cells:= [vi 0],ty:=3 })→H.get g3=some (.arr { cells:= [vi 0],ty:=31 })→ρ 6=.iface 175 (.agg #[vi n])→
   (∀ρ' H',H.next≤H'.next→(∀g,g<H.next→g≠g2→g≠g3→H'.get g=H.get g)→H'.get g2=some (.arr { cells:= [vi n],ty:=3 })→H'.get g3=some (.arr { cells:= [vi 7],ty:=31 })→Q .normal ρ' [] H')→
   wpC ⟨Tryz.prog,T,za.plans,17,none⟩ c Q ρ [] H):=by
 refine ⟨_,_,_,rfl,by kernel_rfl,?_,?_⟩
 ·intro Q a c₀ cs w pv hu hq
  simp [wpOpsSIn,go_sem,recoverD,hu]
  first|exact hq|exact ⟨fun _ _=>trivial,hq⟩
 intro ρ H Q n g2 g3 e0 e1 hne l2 l3 h2 h3 e6 hq
 simp (disch:=omega) [e0,e1,e6,h2,h3,aom]
 refine hq _ _ (by simp) (fun g hg k2 k3=>?_) ?_ ?_
 ·rw [GH.get_put_ne _ _ k3,GH.get_put_ne _ _ k2,GH.get_put_ne _ _ (by omega),GH.get_push_lt _ _ hg]
 ·simp (disch:=omega)
 ·simp (disch:=omega)
theorem anc (a b:Nat) (args:List Value) (ha:args.length=a):fa (a+b) (um args) []= { tmps:=args++List.replicate b undef }:=by
 unfold fa um
 simp only [GA.mk.injEq,and_true]
 apply List.ext_getElem?
 intro j
 subst ha
 by_cases h1:j<args.length
 ·rw [List.getElem?_append_left h1]
  have:j<args.length+b:=by omega
  simp [this,h1]
 ·rw [List.getElem?_append_right (by omega)]
  by_cases h2:j<args.length+b
  ·have h3:j - args.length<b:=by omega
   simp [h2,h1,h3]
  ·have h3:¬j - args.length<b:=by omega
   simp [h2,h3]
theorem aqx {β:Bm} {H:GH} {w:World} {n:Int} {g2 g3:Nat} {p2 p3 pv:Value} (hR:Rel β H w) (v2:VR β (.pointer (some (ga g2 0 0))) p2) (v3:VR β (.pointer (some (ga g3 0 0))) p3)
  (vp:VR β (.iface 175 (.agg #[vi n])) pv) (hne:g2≠g3) (l2:g2<H.next) (l3:g3<H.next) (h2:H.get g2=some (.arr { cells:= [vi 0],ty:=3 })) (h3:H.get g3=some (.arr { cells:= [vi 0],ty:=31 })):
  CallsDIn Fence.wide 0 Tryz.prog 136 #[p2,p3] (.panicking [{ v:=pv,recovered:=false }]) w fun e u' w'=>e=.returned (.tuple #[])∧u'=.panicking [{ v:=pv,recovered:=true }]∧
   ∃β' H',Rel β' H' w'∧Ext β H w β' H' w'∧H.next≤H'.next∧(∀g,g<H.next→g≠g2→g≠g3→H'.get g=H.get g)∧H'.get g2=some (.arr { cells:= [vi n],ty:=3 })∧H'.get g3=some (.arr { cells:= [vi 7],ty:=31 }):=by
 obtain ⟨id,os,c,hb,hok,hA,hB⟩:=anw
 refine callsDIn_of_wpSIn ak5.fn hb trivial fun c₀ cs hu=>?_
 apply wpSIn_seq
 apply wpSIn_region
 refine hA _ _ c₀ cs w pv hu ?_
 show c.wpSIn _ _ _ _ _ _ _
 refine wpSIn_of_wpIn rfl ?_
 have hw:=lz (X:=⟨Tryz.prog,T,za.plans,17,none⟩) tok mix c hok (hB (upd (um [.pointer (some (ga g2 0 0)),.pointer (some (ga g3 0 0))]) 6 (.iface 175 (.agg #[vi n]))) H
  (fun x _ m H'=>x=.normal∧m= []∧H.next≤H'.next∧(∀g,g<H.next→g≠g2→g≠g3→H'.get g=H.get g)∧H'.get g2=some (.arr { cells:= [vi n],ty:=3 })∧H'.get g3=some (.arr { cells:= [vi 7],ty:=31 })) n g2 g3 (by simp) (by simp) hne l2 l3 h2 h3 (by simp) (fun ρ' H' a b c d=>⟨rfl,rfl,a,b,c,d⟩))
 have hn:za.fn.ntmps=17:=rfl
 have u:=VR.undef β
 have hA2:ActR β (fa 17 (upd (um [.pointer (some (ga g2 0 0)),.pointer (some (ga g3 0 0))]) 6 (.iface 175 (.agg #[vi n]))) []) (({ tmps:= #[p2,p3]++Array.replicate (za.fn.ntmps - #[p2,p3].size) undef,defers:= [] }:Act).put (some 6) pv):=by
  have h0:ActR β (fa 17 (um [.pointer (some (ga g2 0 0)),.pointer (some (ga g3 0 0))]) []) ({ tmps:= #[p2,p3]++Array.replicate (za.fn.ntmps - #[p2,p3].size) undef,defers:= [] }:Act):=by
   rw [hn,anc 2 15 _ rfl]
   refine ⟨?_,.nil⟩
   simp only [Array.toList_append,Array.toList_replicate]
   exact (VRs.cons v2 (.cons v3 .nil)).append (VRs.replicate _ u)
  have h1:=h0.put (some 6) vp
  rw [pc] at h1
  exact h1
 refine wpIn_mono (hw β w _ none hR hA2 .none) fun e r w' hp=>?_
 obtain ⟨x,a',β',H',⟨ρ',m,rfl,rfl,rfl,k1,k2,k3,k4⟩,hR',hE,hA',he⟩:=hp
 cases he
 have hd:r.defers= []:=by
  have:=hA'.marks
  generalize r.defers=ds at this
  cases this; rfl
 refine ⟨hd,_,rfl,.tuple #[],?_,rfl,rfl,β',H',hR',hE,k1,k2,k3,k4⟩
 simp [results,za]
end Go.Gm.Tryz
end
section
namespace Go.Gm.Tryz
open Go.Proofs
theorem at8:∃(id:Nat) (os:Array Oper) (c:Code),za.fn.body=some (.seq (.region id os false) c)∧
  (∀(Q:Exit→Act→List Frame→World→Prop) (a:Act) (c₀ :Frame) (cs:List Frame) (w:World),c₀.mode=.returning→
   Q .normal (a.put (some 6) .nilIface) (c₀ ::cs) w→wpOpsSIn Fence.wide 0 Tryz.prog os Q (List.range os.size) a (c₀ ::cs) w)∧
  (∀(Q:Exit→Act→World→Prop) (t:Array Value) (w:World),17=t.size→t[6]?=some .nilIface→(∀a',a'.defers= []→Q .normal a' w)→c.wpIn Fence.wide 0 Tryz.prog Q { tmps:=t,defers:= [] } w):=by
 refine ⟨_,_,_,rfl,?_,?_⟩
 ·intro Q a c₀ cs w hu hq
  simp [wpOpsSIn,go_sem,recoverD,hu]
  exact hq
 ·intro Q t w ht h6 hq
  refine wpIn_block ?_
  refine wpIn_seq ?_
  refine wpIn_region ?_
  simp [wpOpsIn,go_sem,h6]
  refine wpIn_cond_true (by simp [Act.eval]; omega) ?_
  refine wpIn_region ?_
  simp [wpOpsIn,go_sem]
  exact hq _ rfl
theorem ax6 {w:World} {p2 p3:Value}:
  CallsDIn Fence.wide 0 Tryz.prog 136 #[p2,p3] .returning w fun e u' w'=>e=.returned (.tuple #[])∧u'=.returning∧w'=w:=by
 obtain ⟨id,os,c,hb,hA,hB⟩:=at8
 refine callsDIn_of_wpSIn ak5.fn hb trivial fun c₀ cs hu=>?_
 apply wpSIn_seq
 apply wpSIn_region
 refine hA _ _ c₀ cs w hu ?_
 show c.wpSIn _ _ _ _ _ _ _
 refine wpSIn_of_wpIn rfl ?_
 have hn:za.fn.ntmps=17:=rfl
 refine hB _ _ w ?_ ?_ fun a' hd=>?_
 ·rw [hn]; simp
 ·rw [hn]; simp
 ·refine ⟨hd,.returning,?_,.tuple #[],?_,rfl,rfl,rfl⟩
  ·cases c₀; simp_all
  ·simp [results,za]
end Go.Gm.Tryz
end
section
namespace Go.Gm.Tryz
open Go.Proofs
theorem ady:∃(c0:Code) (i1 i2 i3:Nat) (o1 o2 o3:Array Oper),Tryz.f83.body=some (.seq c0 (.seq (.region i1 o1 false) (.seq (.region i2 o2 false) (.seq (.region i3 o3 false) .ret))))∧cg T [] c0=true∧
  (∀(H:GH) (ρ:Rho) (Q:VQ),Q .normal (upd (upd ρ 2 (.pointer (some (ga H.next 0 0)))) 3 (.pointer (some (ga (H.next+1) 0 0)))) [] ((H.push (.arr { cells:= [vi 0],ty:=3 })).push (.arr { cells:= [vi 0],ty:=31 }))→wpC ⟨Tryz.prog,T,[],7,none⟩ c0 Q ρ [] H)∧
  (∀(Q:Exit→Act→World→Prop) (t:Array Value) (w:World) (p2 p3:Value),7=t.size→t[2]?=some p2→t[3]?=some p3→(∀a',a'.defers= [{ target:=.fn (.func 136) #[p2,p3],args:= #[] }]→a'.tmps.size=7→a'.tmps[0]?=t[0]?→a'.tmps[2]?=some p2→a'.tmps[3]?=some p3→Q .normal a' w)→(Code.region i1 o1 false).wpIn Fence.wide 0 Tryz.prog Q { tmps:=t,defers:= [] } w)∧
  (∀(Q:Exit→Act→World→Prop) (a:Act) (w:World) (f:FuncId) (first cap:Array Value),7=a.tmps.size→a.tmps[0]?=some (.func (.func f) first cap)→Ent Tryz.prog f→
   CallsIn Fence.wide 0 Tryz.prog f (first++cap) w (fun e w'=>match e with
    | .returned _v=>∀a':Act,a'.defers=a.defers→a'.tmps.size=7→a'.tmps[2]?=a.tmps[2]?→a'.tmps[3]?=a.tmps[3]?→Q .normal a' w'
    | .panicked ch=>∀a':Act,a'.defers=a.defers→a'.tmps.size=7→a'.tmps[2]?=a.tmps[2]?→a'.tmps[3]?=a.tmps[3]?→Q (.panic ch) a' w'
    | .outgrown=>LetsOut Q)→(Code.region i2 o2 false).wpIn Fence.wide 0 Tryz.prog Q a w):=by
 refine ⟨_,_,_,_,_,_,_,rfl,by kernel_rfl,?_,?_,?_⟩
 ·intro H ρ Q hq
  simp
  exact hq
 ·intro Q t w p2 p3 ht h2 h3 hq
  refine wpIn_region ?_
  have hmf:∀(fn:Fn) (first cap:Array Value) (w:World),(Instr.makeFunc fn first cap).run Tryz.prog w=.ok (.func fn first cap) w:=fun _ _ _ _=>rfl
  have h4:4<t.size:=by omega
  simp [wpOpsIn,go_sem,h2,h3,Oper.uponIn,h4]
  exact hq _ rfl (by simp; omega) (by simp) (by simp [h2]) (by simp [h3])
 ·intro Q a w f first cap ht h0 hent hc
  refine wpIn_region ?_
  have h5:5<a.tmps.size:=by omega
  simp [wpOpsIn,go_sem,h0,Oper.uponIn,h5]
  refine ⟨trivial,?_⟩
  rw [hent]
  refine ⟨rfl,hc.mono ?_⟩
  intro e w' h
  cases e with
  |returned v=>exact h _ rfl (by simp; omega) (by simp) (by simp)
  |panicked ch=>exact h _ rfl (by simp; omega) (by simp) (by simp)
  |outgrown=>exact h
end Go.Gm.Tryz
end
section
namespace Go.Gm.Tryz
open Go.Proofs
theorem an2 {o:Oper} {t k:Nat} (ho:o.op=.store t (.tmp k) (.const (vi 0))) {r:TRow} (hr:T.get t=some r) (hsz:r.size=1) {a:Act} {p:Value} (hk:a.tmps[k]?=some p) {g:Nat} {β:Bm} {H:GH} {w:World}
  (v:VR β (.pointer (some (ga g 0 0))) p) (hg:H.get g=some (.arr { cells:= [vi 0],ty:=t })) (hR:Rel β H w):ahw Tryz.prog β H w (execOp a.eval o) (H.put g (.arr { cells:= [vi 0],ty:=t })):=
 an1 (ρ:=fun x=>match x with| .const c=>c|_=>.pointer (some (ga g 0 0))) tok hR t (.tmp k) (.const (vi 0)) ho hr (a:=ga g 0 0) rfl (by
  have e2:a.eval (.tmp k)=p:=by simp [Act.eval,hk]
  rw [e2]; exact v) (.int _ _) (by rw [hsz]; rfl) rfl (by simp [hg])
theorem an5 {o:Oper} {a:Act} {next:Act→World→Prop} {Q:Exit→Act→World→Prop} {β:Bm} {H H':GH} {w:World} (h:ahw Tryz.prog β H w (execOp a.eval o) H')
  (k:∀w' β',Rel β' H' w'→Ext β H w β' H' w'→next (a.put o.dst undef) w'):Oper.wpIn Fence.wide 0 Tryz.prog o a w next Q:=by
 obtain ⟨β',w',hr,hR,hE⟩:=h
 refine ⟨fun _ _=>trivial,?_⟩
 rw [show Fence.wide.round=none from rfl,Oper.semAt_none,hr]
 exact k w' β' hR hE
theorem ah3:∃(c0:Code) (i1 i2 i3:Nat) (o1 o2 o3:Array Oper),Tryz.f83.body=some (.seq c0 (.seq (.region i1 o1 false) (.seq (.region i2 o2 false) (.seq (.region i3 o3 false) .ret))))∧
  (∀(Q:Exit→Act→World→Prop) (a:Act) (w:World) (β:Bm) (H:GH) (g2 g3:Nat) (p2 p3:Value),7=a.tmps.size→a.tmps[2]?=some p2→a.tmps[3]?=some p3→VR β (.pointer (some (ga g2 0 0))) p2→VR β (.pointer (some (ga g3 0 0))) p3→g2≠g3→
   H.get g2=some (.arr { cells:= [vi 0],ty:=3 })→H.get g3=some (.arr { cells:= [vi 0],ty:=31 })→Rel β H w→
   (∀w' β',Rel β' ((H.put g2 (.arr { cells:= [vi 0],ty:=3 })).put g3 (.arr { cells:= [vi 0],ty:=31 })) w'→Ext β H w β' ((H.put g2 (.arr { cells:= [vi 0],ty:=3 })).put g3 (.arr { cells:= [vi 0],ty:=31 })) w'→Q .normal a w')→
   (Code.region i3 o3 false).wpIn Fence.wide 0 Tryz.prog Q a w):=by
 refine ⟨_,_,_,_,_,_,_,rfl,?_⟩
 intro Q a w β H g2 g3 p2 p3 ht h2 h3 v2 v3 hne hg2 hg3 hR hq
 refine wpIn_region ?_
 simp only [wpOpsIn,List.size_toArray,List.length_cons,List.length_nil,Nat.zero_add,List.range_succ,List.range_zero,List.nil_append,List.cons_append]
 simp only [List.getElem?_toArray,List.getElem?_cons_zero,List.getElem?_cons_succ,Region.wanted,if_true,Oper.wpIn]
 refine an5 (an2 rfl (by simp; rfl) rfl h2 v2 hg2 hR) fun w1 β1 hR1 hE1=>?_
 refine an5 (an2 rfl (by simp; rfl) rfl h3 (v3.mono hE1.le) ((GH.get_put_ne _ _ (Ne.symm hne)).trans hg3) hR1) fun w2 β2 hR2 hE2=>?_
 exact hq w2 β2 hR2 (hE1.trans hR hE2)
end Go.Gm.Tryz
end
section
namespace Go.Gm.Tryz
open Go.Proofs
abbrev aa0:GObj:=.arr { cells:= [vi 0],ty:=3 }
abbrev q8:GObj:=.arr { cells:= [vi 0],ty:=31 }
structure But (g2 g3:Nat) (H H':GH):Prop where
 next:H.next≤H'.next
 keep:∀g,g<H.next→g≠g2→g≠g3→H'.get g=H.get g
def a1p (H:GH) (R:GO→GH→Prop) (x:GO) (H1:GH):Prop:=
 H.next+2≤H1.next∧H1.get H.next=some aa0∧H1.get (H.next+1)=some q8∧match x with
  | .ret _=>∀H2,But H.next (H.next+1) H1 H2→R (.ret (.tuple #[vi 0,vi 0])) H2
  | .pan v=>∃n,v=.iface 175 (.agg #[vi n])∧∀H2,But H.next (H.next+1) H1 H2→R (.ret (.tuple #[vi n,vi 7])) H2
def a87 (H:GH) (R:GO→GH→Prop) (x:GO) (H1:GH):Prop:=
 H.next+2≤H1.next∧H1.get H.next=some aa0∧H1.get (H.next+1)=some q8∧match x with
  | .ret _=>R (.ret (.tuple #[vi 0,vi 0])) ((H1.put H.next aa0).put (H.next+1) q8)
  | .pan v=>∃n,v=.iface 175 (.agg #[vi n])∧∀H2,But H.next (H.next+1) H1 H2→R (.ret (.tuple #[vi n,vi 7])) H2
theorem a1p.x {H:GH} {R:GO→GH→Prop} {x:GO} {H1:GH} (h:a1p H R x H1):a87 H R x H1:=by
 obtain ⟨a,b,c,d⟩:=h
 refine ⟨a,b,c,?_⟩
 cases x with
 |ret v=>exact d _ ⟨by simp,fun g hg k1 k2=>by rw [GH.get_put_ne _ _ k2,GH.get_put_ne _ _ k1]⟩
 |pan v=>exact d
theorem bhj {t:Array Value} {p2 p3:Value} (h2:t[2]?=some p2) (h3:t[3]?=some p3):results Tryz.f83 t=results Tryz.f83 #[undef,undef,p2,p3,undef,undef,undef]:=by
 have hr:Tryz.f83.results= #[.cell 2 3,.cell 3 31]:=rfl
 simp [results,h2,h3]
theorem ajq {t:Array Value} {p2 p3:Value} (h2:t[2]?=some p2) (h3:t[3]?=some p3) {β:Bm} {H:GH} {w:World} {g2 g3:Nat} {a b:Int} (hR:Rel β H w) (v2:VR β (.pointer (some (ga g2 0 0))) p2) (v3:VR β (.pointer (some (ga g3 0 0))) p3)
  (k2:H.get g2=some (.arr { cells:= [vi a],ty:=3 })) (k3:H.get g3=some (.arr { cells:= [vi b],ty:=31 })):∃v',(results Tryz.f83 t).run Tryz.prog w=.ok v' w∧VR β (.tuple #[vi a,vi b]) v':=by
 rw [bhj h2 h3]
 have u:=VR.undef β
 refine adg (P:=Tryz.prog) (vs:= [vi a,vi b]) tok hR (tm:= [undef,undef,.pointer (some (ga g2 0 0)),.pointer (some (ga g3 0 0)),undef,undef,undef]) (.cons u (.cons u (.cons v2 (.cons v3 (.cons u (.cons u (.cons u .nil))))))) ?_
 have hr:Tryz.f83.results.toList= [.cell 2 3,.cell 3 31]:=rfl
 rw [hr]
 simp [dm,gq,k2,k3]
theorem xh {f:FuncId} {first cap:Array Value} {H:GH} {R:GO→GH→Prop} (hf:ay Tryz.prog f (first.toList++cap.toList) ((H.push aa0).push q8) (a87 H R)):
  ay Tryz.prog 83 [.func (.func f) first cap] H R:=by
 have hname:(Tryz.f83.name== "runtime.NumGoroutine")=false:=by kernel_rfl
 have hfn:Tryz.prog.funcs[83]?=some Tryz.f83:=Tryz.func83
 obtain ⟨c0,i1,i2,i3,o1,o2,o3,hb,hok,hA,hB,hC⟩:=ady
 obtain ⟨c0',i1',i2',i3',o1',o2',o3',hb',hD⟩:=ah3
 rw [hb] at hb'
 cases hb'
 refine ⟨fun xs w=>?_,fun β w args' hR hV=>?_⟩
 ·have h1:Tryz.f83.name≠ "runtime.NumGoroutine":=by simpa using hname
  simp [callFunc,hfn,h1,hb]
 refine callsIn_of_wp_marks hfn hb trivial ?_
 refine wpIn_seq ?_
 obtain ⟨v',rfl,hv⟩:∃v',args'= [v']∧VR β (.func (.func f) first cap) v':=by
  cases hV with
  |cons h t=>cases t; exact ⟨_,rfl,h⟩
 have hn:Tryz.f83.ntmps=7:=rfl
 have h0:ActR β (fa 7 (um [.func (.func f) first cap]) []) ({ tmps:= [v'].toArray++Array.replicate (Tryz.f83.ntmps - [v'].toArray.size) undef,defers:= [] }:Act):=by
  rw [hn,anc 1 6 _ rfl]
  refine ⟨?_,.nil⟩
  simp only [Array.toList_append,Array.toList_replicate]
  exact (VRs.cons hv .nil).append (VRs.replicate _ (VR.undef β))
 have hw:=lz (X:=⟨Tryz.prog,T,[],7,none⟩) tok mix c0 hok (hA H (um [.func (.func f) first cap]) (fun x ρ m H'=>x=.normal∧m= []∧H'=(H.push aa0).push q8∧ρ=upd (upd (um [.func (.func f) first cap]) 2 (.pointer (some (ga H.next 0 0)))) 3 (.pointer (some (ga (H.next+1) 0 0)))) ⟨rfl,rfl,rfl,rfl⟩)
 refine wpIn_mono (hw β w _ none hR h0 .none) fun e r w1 hp=>?_
 obtain ⟨x,a',β1,H1,⟨ρ,m,rfl,rfl,rfl,rfl,rfl⟩,hR1,hE1,hA1,he⟩:=hp
 cases he
 have hsz:7=r.tmps.size:=by have:=hA1.tmps.length; simpa [fa] using this
 obtain ⟨f0,q0,vf⟩:=hA1.tmps.get? (i:=0) (v:=.func (.func f) first cap) (by simp [fa])
 obtain ⟨p2,q2,v2⟩:=hA1.tmps.get? (i:=2) (v:=.pointer (some (ga H.next 0 0))) (by simp [fa])
 obtain ⟨p3,q3,v3⟩:=hA1.tmps.get? (i:=3) (v:=.pointer (some (ga (H.next+1) 0 0))) (by simp [fa])
 simp only [Array.getElem?_toList] at q0 q2 q3
 have hd:r.defers= []:=by
  have:=hA1.marks
  generalize r.defers=ds at this
  cases this; rfl
 obtain ⟨rt,rd⟩:=r
 simp only at hd hsz q0 q2 q3
 subst hd
 show Code.wpIn _ _ _ _ _ _ _
 refine wpIn_seq ?_
 refine hB _ rt w1 p2 p3 hsz q2 q3 fun a1 k1 k2 k3 k4 k5=>?_
 show Code.wpIn _ _ _ _ _ _ _
 refine wpIn_seq ?_
 obtain ⟨first',cap',rfl,hargs⟩:∃first' cap',f0=.func (.func f) first' cap'∧VRs β1 (first.toList++cap.toList) (first'.toList++cap'.toList):=by
  cases vf with
  |func hfn s1 x1 s2 x2=>
   cases hfn
   refine ⟨_,_,rfl,VRs.append (.of_getD (by simpa using s1) fun i hi=>?_) (.of_getD (by simpa using s2) fun i hi=>?_)⟩
   ·simpa using x1 i (by simpa using hi)
   ·simpa using x2 i (by simpa using hi)
 have hcall:=hf.2 β1 w1 _ hR1 hargs
 have harr:(first'.toList++cap'.toList).toArray=first'++cap':=by simp
 rw [harr] at hcall
 refine hC _ a1 w1 f first' cap' k2.symm (k3.trans q0) hf.1 (hcall.mono ?_)
 rintro e w2 ⟨x,β2,H2,hK,hR2,hE2,hEnd⟩
 obtain ⟨hK1,hK2,hK3,hK4⟩:=hK
 have v2':=v2.mono hE2.le
 have v3':=v3.mono hE2.le
 have hent:Ent Tryz.prog 136:=fun xs w=>by
  have h1:Tryz.f136.name≠ "runtime.NumGoroutine":=by
   have:(Tryz.f136.name== "runtime.NumGoroutine")=false:=by kernel_rfl
   simpa using this
  obtain ⟨_,_,_,hb6,_⟩:=anw
  have hb6':Tryz.f136.body=_:=hb6
  simp [callFunc,show Tryz.prog.funcs[136]?=some Tryz.f136 from Tryz.func136,h1,hb6']
 have hE02:=hE1.trans hR hE2
 cases hEnd with
 |ret hv2=>
  intro a3 d1 d2 d3 d4
  show Code.wpIn _ _ _ _ _ _ _
  refine wpIn_seq ?_
  refine hD _ a3 w2 β2 H2 H.next (H.next+1) p2 p3 d2.symm (d3.trans k4) (d4.trans k5) v2' v3' (by omega) hK2 hK3 hR2 fun w3 β3 hR3 hE3=>?_
  show Code.wpIn _ _ _ _ _ _ _
  refine wpIn_ret ?_
  show LeavesInM _ _ _ _ _ _ a3.defers _ _
  rw [d1,k1]
  refine ⟨by simp,.inr ⟨fun _=>by simp_all [Fence.wide],_,_,136,#[p2,p3],rfl,?_,fun _ _=>trivial,ax6.mono ?_⟩⟩
  ·have:=hent #[p2,p3] w3
   first|(simp [invoke]; done)|simpa [invoke] using this
  ·rintro e u' w' ⟨rfl,rfl,rfl⟩
   obtain ⟨v3r,hrun,hvr⟩:=ajq (t:=a3.tmps) (d3.trans k4) (d4.trans k5) hR3 (v2'.mono hE3.le) (v3'.mono hE3.le) (a:=0) (b:=0) (g2:=H.next) (g3:=H.next+1) (by rw [GH.get_put_ne _ _ (by omega)]; simp) (by simp)
   exact ⟨v3r,hrun,_,β3,_,hK4,hR3,hE02.trans hR hE3,.ret hvr⟩
 |pan hv2=>
  intro a3 d1 d2 d3 d4
  show LeavesInM _ _ _ _ _ _ a3.defers _ _
  rw [d1,k1]
  obtain ⟨n,rfl,hK5⟩:=hK4
  refine ⟨by simp,.inr ⟨fun _=>by simp_all [Fence.wide],_,_,136,#[p2,p3],rfl,?_,fun _ _=>trivial,(aqx hR2 v2' v3' hv2 (by omega) (by omega) (by omega) hK2 hK3).mono ?_⟩⟩
  ·have:=hent #[p2,p3] w2
   first|(simp [invoke]; done)|simpa [invoke] using this
  ·rintro e u' w' ⟨rfl,rfl,β3,H3,hR3,hE3,m1,m2,m3,m4⟩
   obtain ⟨v3r,hrun,hvr⟩:=ajq (t:=a3.tmps) (d3.trans k4) (d4.trans k5) hR3 (v2'.mono hE3.le) (v3'.mono hE3.le) (a:=n) (b:=7) (g2:=H.next) (g3:=H.next+1) m3 m4
   exact ⟨v3r,hrun,_,β3,_,hK5 _ ⟨m1,m2⟩,hR3,hE02.trans hR hE3,.ret hvr⟩
theorem aad {f:FuncId} {first cap:Array Value} {H:GH} {R:GO→GH→Prop} (hf:ay Tryz.prog f (first.toList++cap.toList) ((H.push aa0).push q8) (a1p H R)):
  ay Tryz.prog 83 [.func (.func f) first cap] H R:=xh (hf.mono fun _ _ h=>h.x)
end Go.Gm.Tryz
end
section
namespace Go.Gm.Tryz
open Go.Proofs
def pj (b:Book) (day:Int):Nat⊕Stand:=match upS b 36500 with| .inl n=>.inl n| .inr _=>upS b day
structure LocBut (l:BLoc) (g:Nat):Prop where
 t:∀a,l.t.rows.a=some a→a.block≠g
 o:∀a,l.owners.a=some a→a.block≠g
 e:∀a,l.events.a=some a→a.block≠g
theorem ap.put_low {H:GH} {N:Nat} {l:BLoc} {b:Book} {sg kn:Nat} {s:Stand} {O:Nat→Prop} (h:ap H N l b sg kn s O) {g:Nat} (hg:g<N) (o:GObj) (hl:LocBut l g):ap (H.put g o) N l b sg kn s O:=by
 obtain ⟨vl,vo,vg,va,vw,vf,h,hO⟩:=h
 have hk:∀k,N≤k→(H.put g o).get k=H.get k:=fun k hk=>GH.get_put_ne _ _ (by omega)
 have ho:∀ {α:Type} {v:Value} {ty sz:Nat} {e:α→List Value} {x:List α},bg H N v ty sz e x→bg (H.put g o) N v ty sz e x:=fun w=>w.frame (Nat.le_refl _) fun k hk'=>hk k (w.blk_lt hk').1
 refine ⟨vl,vo,vg,va,vw,vf,⟨(hk sg h.sgl.1).trans h.g,h.sgl,⟨h.book.t.put o hl.t,h.book.owners.put o hl.o,h.book.events.put o hl.e⟩,h.bt,h.bo,h.be,?_,h.kl,ho h.lives,ho h.owners,ho h.grants,ho h.last,ho h.waits,ho h.fell,h.oa,h.ow,h.aw⟩,hO⟩
 obtain ⟨es,c,h1,h2⟩:=h.kno
 exact ⟨es,c,(hk kn h.kl.1).trans h1,h2⟩
theorem al9 {H:GH} {l:BLoc} {b:Book} (hb:BookIn H l b) (hB:BookOk b) (day:Int) {g0 g1 g2:Nat} (hlb:LocBut l g2) (l0:g0<H.next) (l1:g1<H.next) (l2:g2<H.next)
  (k0:H.get g0=some (.arr { cells:=bq l b,ty:=28 })) (k1:H.get g1=some (.arr { cells:= [vi day],ty:=3 })) (k2:H.get g2=some (.arr { cells:= [.pointer none],ty:=116 })):
  ay Tryz.prog 141 [.pointer (some (ga g0 0 0)),.pointer (some (ga g1 0 0)),.pointer (some (ga g2 0 0))] H fun x H'=>H.next≤H'.next∧(∀g,g<H.next→g≠g2→H'.get g=H.get g)∧match pj b day with
   | .inr s=>∃N sg kn O,H.next≤N∧x=.ret (.tuple #[])∧H'.get g2=some (.arr { cells:= [.pointer (some (ga sg 0 0))],ty:=116 })∧ap H' N l b sg kn s O∧Wf b s
   | .inl n=>x=.pan (.iface 175 (.agg #[vi n]))∧H'.get g2=H.get g2:=by
 rcases l with ⟨⟨⟨ra,rf⟩⟩,⟨oa,of'⟩,⟨va',vf'⟩⟩
 simp only [bq] at k0
 refine an tok mix ar0 (F:=a4g) (c:=_) rfl (n:=8) rfl (rs:= []) rfl ?_
 simp (disch:=omega) [k0,k2]
 refine (adr hb hB 36500).mono ?_
 rintro x H1 ⟨n1,s1,hu⟩
 unfold pj
 cases hup:upS b 36500 with
 |inl n=>
  rw [hup] at hu
  subst hu
  simp
  exact ⟨n1,fun g hg _=>s1 g hg,(s1 _ l2).trans k2⟩
 |inr s0=>
  rw [hup] at hu
  obtain ⟨_,sg0,_,_,_,rfl,_,_⟩:=hu
  simp (disch:=omega) [s1 g0 l0,s1 g1 l1,k0,k1]
  have hs1:Sub H H1:=⟨n1,s1⟩
  have hbi:BookIn H1 ⟨⟨⟨ra,rf⟩⟩,⟨oa,of'⟩,⟨va',vf'⟩⟩ b:=⟨hb.t.mono hs1,hb.owners.mono hs1,hb.events.mono hs1⟩
  refine (adr hbi hB day).mono ?_
  rintro x H2 ⟨n2,s2,hu⟩
  cases hup2:upS b day with
  |inl n=>
   rw [hup2] at hu
   subst hu
   simp
   exact ⟨by omega,fun g hg _=>(s2 g (by omega)).trans (s1 g hg),(s2 _ (by omega)).trans ((s1 _ l2).trans k2)⟩
  |inr s0=>
   rw [hup2] at hu
   obtain ⟨N,sg,kn,O,hN,rfl,hS,hW⟩:=hu
   have hg2:H2.get g2=_:=(s2 _ (by omega)).trans ((s1 _ l2).trans k2)
   simp (disch:=omega) [hg2]
   refine ⟨by omega,fun g hg hne=>?_,N,by omega,sg,rfl,⟨kn,O,hS.put_low (by omega) _ hlb⟩,hW⟩
   rw [if_neg hne,s2 g (by omega),s1 g hg]
end Go.Gm.Tryz
end
section
namespace Go.Gm.Tryz
open Go.Proofs
theorem ap.but {H H':GH} {N:Nat} {l:BLoc} {b:Book} {sg kn:Nat} {s:Stand} {O:Nat→Prop} (h:ap H N l b sg kn s O) {g2 g3:Nat} (l2:g2<N) (l3:g3<N) (k:But g2 g3 H H') (hl2:LocBut l g2) (hl3:LocBut l g3):ap H' N l b sg kn s O:=by
 obtain ⟨vl,vo,vg,va,vw,vf,h,hO⟩:=h
 have hk:∀k,N≤k→k<H.next→H'.get k=H.get k:=fun j hj hn=>k.keep j hn (by omega) (by omega)
 have ho:∀ {α:Type} {v:Value} {ty sz:Nat} {e:α→List Value} {x:List α},bg H N v ty sz e x→bg H' N v ty sz e x:=fun w=>w.frame k.next fun j hj=>hk j (w.blk_lt hj).1 (w.blk_lt hj).2
 have he:∀ {α:Type} {a:Option Addr} {sz:Nat} {e:α→List Value} {x:List α},Elems H a sz e x→(∀c,a=some c→c.block≠g2)→(∀c,a=some c→c.block≠g3)→Elems H' a sz e x:=fun w x2 x3=>by
  refine ⟨w.len,fun c hc=>?_,w.nil⟩
  obtain ⟨y1,y2⟩:=w.ok c hc
  refine ⟨Nat.lt_of_lt_of_le y1 k.next,?_⟩
  rw [←y2]
  simp only [GH.read]
  rw [k.keep _ y1 (x2 c hc) (x3 c hc)]
 refine ⟨vl,vo,vg,va,vw,vf,⟨(hk sg h.sgl.1 h.sgl.2).trans h.g,⟨h.sgl.1,Nat.lt_of_lt_of_le h.sgl.2 k.next⟩,⟨he h.book.t hl2.t hl3.t,he h.book.owners hl2.o hl3.o,he h.book.events hl2.e hl3.e⟩,h.bt,h.bo,h.be,?_,⟨h.kl.1,Nat.lt_of_lt_of_le h.kl.2 k.next⟩,ho h.lives,ho h.owners,ho h.grants,ho h.last,ho h.waits,ho h.fell,h.oa,h.ow,h.aw⟩,hO⟩
 obtain ⟨es,c,h1,h2⟩:=h.kno
 exact ⟨es,c,(hk kn h.kl.1 h.kl.2).trans h1,h2⟩
theorem afy {H:GH} {l:BLoc} {b:Book} (h:BookIn H l b) {g:Nat} (hg:H.next≤g):LocBut l g:=
 ⟨fun a ha hc=>by have:=(h.t.ok a ha).1; omega,fun a ha hc=>by have:=(h.owners.ok a ha).1; omega,fun a ha hc=>by have:=(h.events.ok a ha).1; omega⟩
def fz (b:Book) (day:Int) (ok:Bool):Bool:=aq b&&(fu day&&ok)
theorem apv {H:GH} {l:BLoc} {b:Book} (hb:BookIn H l b) (day:Int) (ok:Bool):
  ay Tryz.prog 86 [dl l b,vi day,.bool ok] H fun x H'=>H.next≤H'.next∧(∀g,g<H.next→H'.get g=H.get g)∧
   if fz b day ok then match pj b day with
    | .inr s=>∃N sg kn O,H.next≤N∧x=.ret (.tuple #[.pointer (some (ga sg 0 0)),vi 0])∧ap H' N l b sg kn s O∧Wf b s
    | .inl _n=>x=.ret (.tuple #[.pointer none,vi 7])
   else x=.ret (.tuple #[.pointer none,vi 2]):=by
 rcases l with ⟨⟨⟨ra,rf⟩⟩,⟨oa,of'⟩,⟨va',vf'⟩⟩
 refine an tok mix a0n (F:=g86) (c:=_) rfl (n:=30) rfl (rs:= [.tmp 6,.tmp 7]) rfl ?_
 simp
 generalize hH2:GH.push (GH.push _ _) _=H2
 have hs2:Sub H H2:=by subst hH2; exact (Sub.push (.refl H) _).push _
 have k0:H2.get H.next=some (.arr { cells:= [.slice ra b.tbl.rows.length rf,vi b.tbl.draw,vi b.supply,vi b.term,vi b.persons,.slice oa b.owners.length of',.slice va' b.events.length vf'],ty:=28 }):=by
  subst hH2; rw [GH.get_push_lt _ _ (by simp)]; simp
 have k1:H2.get (H.next+1)=some (.arr { cells:= [vi day],ty:=3 }):=by subst hH2; simp
 have hn2:H2.next=H.next+2:=by subst hH2; simp
 clear hH2
 have hbi:BookIn H2 ⟨⟨⟨ra,rf⟩⟩,⟨oa,of'⟩,⟨va',vf'⟩⟩ b:=⟨hb.t.mono hs2,hb.owners.mono hs2,hb.events.mono hs2⟩
 refine (j7 ⟨⟨⟨ra,rf⟩⟩,⟨oa,of'⟩,⟨va',vf'⟩⟩ b H2 hbi).go ?_
 simp
 unfold fz
 cases hB:aq b with
 |false=>simp; exact ⟨hs2.1,hs2.2⟩
 |true=>
  simp [k1]
  refine (zj _ _).go ?_
  simp
  cases hD:fu day with
  |false=>simp; exact ⟨hs2.1,hs2.2⟩
  |true=>
   cases ok with
   |false=>simp; exact ⟨hs2.1,hs2.2⟩
   |true=>
    simp
    have hBk:=l8 hB
    let l:BLoc:=⟨⟨⟨ra,rf⟩⟩,⟨oa,of'⟩,⟨va',vf'⟩⟩
    generalize hH3:H2.push _=H3
    have hs3:Sub H2 H3:=by subst hH3; exact Sub.push (.refl H2) _
    have k3:H3.get H2.next=some (.arr { cells:= [.pointer none],ty:=116 }):=by subst hH3; simp
    have hn3:H3.next=H2.next+1:=by subst hH3; simp
    clear hH3
    have hat:=aad (f:=141) (first:= #[]) (cap:= #[.pointer (some (ga H.next 0 0)),.pointer (some (ga (H.next+1) 0 0)),.pointer (some (ga H2.next 0 0))]) (H:=H3)
     (R:=fun x H'=>H3.next≤H'.next∧(∀g,g<H2.next→H'.get g=H3.get g)∧match pj b day with
      | .inr s=>∃N sg kn O,H2.next≤N∧x=.ret (.tuple #[vi 0,vi 0])∧H'.get H2.next=some (.arr { cells:= [.pointer (some (ga sg 0 0))],ty:=116 })∧ap H' N l b sg kn s O∧Wf b s
      | .inl n=>x=.ret (.tuple #[vi n,vi 7])∧H'.get H2.next=some (.arr { cells:= [.pointer none],ty:=116 })) ?_
    ·refine hat.mono ?_
     rintro x H4 ⟨n4,s4,hu⟩
     have hkeep:∀g,g<H.next→H4.get g=H.get g:=fun g hg=>by rw [s4 g (by omega),hs3.2 g (by omega),hs2.2 g hg]
     cases hr:pj b day with
     |inl n=>
      rw [hr] at hu
      obtain ⟨rfl,hg⟩:=hu
      simp [hg]
      exact ⟨by omega,hkeep⟩
     |inr s0=>
      rw [hr] at hu
      obtain ⟨N,sg,kn,O,hN,rfl,hg,hS,hW⟩:=hu
      simp [hg]
      exact ⟨by omega,hkeep,N,by omega,sg,rfl,⟨kn,O,hS⟩,hW⟩
    ·generalize hH5:(H3.push aa0).push q8=H5
     have hs5:Sub H3 H5:=by subst hH5; exact (Sub.push (.refl H3) _).push _
     have b3:H5.get H3.next=some aa0:=by subst hH5; rw [GH.get_push_lt _ _ (by simp)]; simp
     have b31:H5.get (H3.next+1)=some q8:=by subst hH5; simp
     have hn5:H5.next=H3.next+2:=by subst hH5; simp
     have hs:=hs2.trans (hs3.trans hs5)
     have hb5:BookIn H5 l b:=⟨hb.t.mono hs,hb.owners.mono hs,hb.events.mono hs⟩
     refine (al9 hb5 hBk day (g0:=H.next) (g1:=H.next+1) (g2:=H2.next) (afy hb (by omega)) (by omega) (by omega) (by omega) ((hs5.2 _ (by omega)).trans ((hs3.2 _ (by omega)).trans k0)) ((hs5.2 _ (by omega)).trans ((hs3.2 _ (by omega)).trans k1)) ((hs5.2 _ (by omega)).trans k3)).mono ?_
     rintro x H6 ⟨n6,s6,hu⟩
     refine ⟨by omega,(s6 _ (by omega) (by omega)).trans b3,(s6 _ (by omega) (by omega)).trans b31,?_⟩
     have hkeep:∀ {H7:GH},But H3.next (H3.next+1) H6 H7→H3.next≤H7.next∧∀g,g<H2.next→H7.get g=H3.get g:=fun k=>⟨by have:=k.next; omega,fun g hg=>by rw [k.keep g (by omega) (by omega) (by omega),s6 g (by omega) (by omega),hs5.2 g (by omega)]⟩
     cases hr:pj b day with
     |inl n=>
      rw [hr] at hu
      obtain ⟨rfl,hu⟩:=hu
      refine ⟨n,rfl,fun H7 k=>?_⟩
      exact ⟨(hkeep k).1,(hkeep k).2,rfl,by rw [k.keep _ (by omega) (by omega) (by omega),hu,hs5.2 _ (by omega)]; exact k3⟩
     |inr s0=>
      rw [hr] at hu
      obtain ⟨N,sg,kn,O,hN,rfl,hg,hS,hW⟩:=hu
      intro H7 k
      exact ⟨(hkeep k).1,(hkeep k).2,N,sg,kn,O,by omega,rfl,by rw [k.keep _ (by omega) (by omega) (by omega)]; exact hg,hS.but (by omega) (by omega) k (afy hb (by omega)) (afy hb (by omega)),hW⟩
end Go.Gm.Tryz
end
section
namespace Go.Gm.Tryz
open Go.Proofs
@[simp] def bku:Option Int→Value
 |none=>.tuple #[vi 0,vi 0]
 |some n=>.tuple #[vi n,vi 7]
theorem aae {f:FuncId} {first cap:Array Value} {H:GH} {res:Option Int}
  (hf:∀H5,Sub H H5→ay Tryz.prog f (first.toList++cap.toList) H5 fun x H'=>Sub H5 H'∧match res with|none=>∃v,x=.ret v|some n=>x=.pan (.iface 175 (.agg #[vi n]))):
  ay Tryz.prog 83 [.func (.func f) first cap] H fun x H'=>Sub H H'∧x=.ret (bku res):=by
 refine aad ((hf _ ((Sub.push (.refl H) _).push _)).mono ?_)
 rintro x H1 ⟨hs,hx⟩
 have h1:=hs.1
 simp only [GH.next_push] at h1
 have hk:∀H2,But H.next (H.next+1) H1 H2→Sub H H2:=fun H2 k=>⟨by have:=k.next; omega,fun g hg=>by
  rw [k.keep g (by omega) (by omega) (by omega),hs.2 g (by simp; omega),GH.get_push_lt _ _ (by simp; omega),GH.get_push_lt _ _ hg]⟩
 refine ⟨by omega,(hs.2 _ (by simp)).trans (by rw [GH.get_push_lt _ _ (by simp)]; simp),(hs.2 _ (by simp)).trans (by simp),?_⟩
 cases res with
 |none=>obtain ⟨v,rfl⟩:=hx; exact fun H2 k=>⟨hk H2 k,rfl⟩
 |some n=>subst hx; exact ⟨n,rfl,fun H2 k=>⟨hk H2 k,rfl⟩⟩
def dw (b:Book):Option Int:=match upS b 36500 with| .inl n=>some (n:Int)| .inr _=>none
theorem amv {H:GH} {l:BLoc} {b:Book} (hb:BookIn H l b) (hB:BookOk b) {g0:Nat} (_l0:g0<H.next) (k0:H.get g0=some (.arr { cells:=bq l b,ty:=28 })):
  ay Tryz.prog 84 [.pointer (some (ga g0 0 0))] H fun x H'=>Sub H H'∧match dw b with|none=>∃v,x=.ret v|some n=>x=.pan (.iface 175 (.agg #[vi n])):=by
 rcases l with ⟨⟨⟨ra,rf⟩⟩,⟨oa,of'⟩,⟨va',vf'⟩⟩
 simp only [bq] at k0
 refine an tok mix a0l (F:=g84) (c:=_) rfl (n:=3) rfl (rs:= []) rfl ?_
 simp (disch:=omega) [k0]
 refine (adr hb hB 36500).mono ?_
 rintro x H1 ⟨n1,s1,hu⟩
 unfold dw
 cases hup:upS b 36500 with
 |inl n=>
  rw [hup] at hu; subst hu
  simp
  exact ⟨n1,s1⟩
 |inr s0=>
  rw [hup] at hu
  obtain ⟨_,sg0,_,_,_,rfl,_,_⟩:=hu
  simp
  exact ⟨n1,s1⟩
def tk (b:Book):Int×Int:=if aq b then match dw b with|some n=>(n,0)|none=>(0,5) else (0,2)
theorem aeo {H:GH} {l:BLoc} {b:Book} (hb:BookIn H l b):C 27 [dl l b] H (.tuple #[vi (tk b).1,vi (tk b).2]) H:=by
 rcases l with ⟨⟨⟨ra,rf⟩⟩,⟨oa,of'⟩,⟨va',vf'⟩⟩
 refine au tok mix azk (F:=g27) (c:=_) rfl (n:=17) rfl (rs:= [.tmp 2,.tmp 3]) rfl (i8 (by simp; exact ⟨ac rfl,ac rfl⟩)) ?_
 simp
 generalize hH2:GH.push _ _=H2
 have hs2:Sub H H2:=by subst hH2; exact Sub.push (.refl H) _
 have k0:H2.get H.next=some (.arr { cells:= [.slice ra b.tbl.rows.length rf,vi b.tbl.draw,vi b.supply,vi b.term,vi b.persons,.slice oa b.owners.length of',.slice va' b.events.length vf'],ty:=28 }):=by
  subst hH2; simp
 have hn2:H2.next=H.next+1:=by subst hH2; simp
 clear hH2
 have hbi:BookIn H2 ⟨⟨⟨ra,rf⟩⟩,⟨oa,of'⟩,⟨va',vf'⟩⟩ b:=hb.mono hs2
 refine (j7 ⟨⟨⟨ra,rf⟩⟩,⟨oa,of'⟩,⟨va',vf'⟩⟩ b H2 hbi).go ?_
 simp
 unfold tk
 cases hB:aq b with
 |false=>simp; exact hs2
 |true=>
  simp
  refine (aae (res:=dw b) (fun H5 h5=>?_)).mono ?_
  ·exact amv (hbi.mono h5) (l8 hB) (by have:=h5.1; omega) ((h5.2 _ (by omega)).trans k0)
  ·rintro x H3 ⟨h3,rfl⟩
   cases dw b with
   |none=>simp; exact hs2.trans h3
   |some n=>simp; exact hs2.trans h3
end Go.Gm.Tryz
end
section
namespace Go.Gm
def ni {α:Type} (H:GH) (v:Value) (sz:Nat) (enc:α→List Value) (l:List α):Prop:=∃a fl,v=.slice a l.length fl∧Elems H a sz enc l
theorem ni.sub {α:Type} {H H':GH} {v:Value} {sz:Nat} {enc:α→List Value} {l:List α} (h:ni H v sz enc l) (hs:Sub H H'):ni H' v sz enc l:=let ⟨a,fl,e,k⟩:=h; ⟨a,fl,e,k.mono hs⟩
theorem ni.nil {α:Type} {H:GH} {sz:Nat} {enc:α→List Value} (hs:∀x,(enc x).length=sz):ni H (.slice none 0 0) sz enc ([]:List α):=⟨none,0,rfl,⟨hs,(fun b hb=>by cases hb),fun _=>rfl⟩⟩
theorem bg.listR {α:Type} {H:GH} {N:Nat} {v:Value} {ty:TypeId} {sz:Nat} {enc:α→List Value} {l:List α} (h:bg H N v ty sz enc l) (hs:∀x,(enc x).length=sz):ni H v sz enc l:=h.elems hs
end Go.Gm
namespace Go.Gm.Tryz
open Go.Proofs
inductive Out where
 |ok (s:Stand)
 |err (e:Int)
def im (b:Book) (day:Int) (ok:Bool):Out:=if fz b day ok then (match pj b day with| .inr s=>.ok s| .inl _=>.err 7) else .err 2
theorem lv {H:GH} {l:BLoc} {b:Book} (hb:BookIn H l b) (day:Int) (ok:Bool):
  ay Tryz.prog 86 [dl l b,vi day,.bool ok] H fun x H'=>Sub H H'∧((∃s N sg kn O,im b day ok=.ok s∧H.next≤N∧x=.ret (.tuple #[.pointer (some (ga sg 0 0)),vi 0])∧ap H' N l b sg kn s O∧Wf b s)∨
   ∃e,im b day ok=.err e∧e≠0∧x=.ret (.tuple #[.pointer none,vi e])):=by
 refine (apv hb day ok).mono ?_
 rintro x H1 ⟨n1,s1,hx⟩
 refine ⟨⟨n1,s1⟩,?_⟩
 unfold im
 cases hr:fz b day ok with
 |false=>rw [hr] at hx; right; exact ⟨2,rfl,by decide,hx⟩
 |true=>
  rw [hr] at hx
  simp only [if_true] at hx ⊢
  cases hR:pj b day with
  |inl n=>rw [hR] at hx; right; exact ⟨7,rfl,by decide,hx⟩
  |inr s=>rw [hR] at hx; obtain ⟨N,sg,kn,O,h1,h2,h3,h4⟩:=hx; left; exact ⟨s,N,sg,kn,O,rfl,h1,h2,h3,h4⟩
def o8 (o:Out):List GSt×Int:=match o with| .ok s=>(s.grants,0)| .err e=>([],e)
def me (o:Out):List Int×Int:=match o with| .ok s=>(s.owners,0)| .err e=>([],e)
def ml (o:Out):List Int×Int:=match o with| .ok s=>(s.waits,0)| .err e=>([],e)
def tg (b:Book) (o:Out):Int×Int×Int:=match o with| .ok s=>(IntKind.i64.wrap (b.supply - mr b s),mr b s,0)| .err e=>(0,0,e)
section
variable {H:GH} {l:BLoc} {b:Book}
theorem ab5 (hb:BookIn H l b) (day:Int):
  ay Tryz.prog 29 [dl l b,vi day] H fun x H'=>Sub H H'∧∃v,x=.ret (.tuple #[v,vi (o8 (im b day true)).2])∧ni H' v 5 kg (o8 (im b day true)).1:=by
 rcases l with ⟨⟨⟨ra,rf⟩⟩,⟨oa,of'⟩,⟨va',vf'⟩⟩
 refine an tok mix azl (F:=g29) (c:=_) rfl (n:=21) rfl (rs:= [.tmp 4,.tmp 5]) rfl ?_
 simp
 generalize hH2:GH.push _ _=H2
 have hs2:Sub H H2:=by subst hH2; exact Sub.push (.refl H) _
 clear hH2
 refine (lv (hb.mono hs2) day true).mono ?_
 rintro x H3 ⟨h3,⟨s,N,sg,kn,O,ho,hN,rfl,⟨vl,vo,vg,va,vw,vf,hS,_⟩,hW⟩|⟨e,ho,he,rfl⟩⟩
 ·have hg:=hS.g
  have hl:=hS.sgl.2
  simp only [bq] at hg
  simp (disch:=omega) [ho,hg,o8]
  exact ⟨hs2.trans h3,hS.grants.listR (fun _=>rfl)⟩
 ·simp [ho,he,o8]
  exact ⟨hs2.trans h3,ni.nil (fun _=>rfl)⟩
theorem aaa (hb:BookIn H l b) (day:Int):
  ay Tryz.prog 30 [dl l b,vi day] H fun x H'=>Sub H H'∧∃v,x=.ret (.tuple #[v,vi (me (im b day true)).2])∧ni H' v 1 ca (me (im b day true)).1:=by
 rcases l with ⟨⟨⟨ra,rf⟩⟩,⟨oa,of'⟩,⟨va',vf'⟩⟩
 refine an tok mix azm (F:=g30) (c:=_) rfl (n:=21) rfl (rs:= [.tmp 4,.tmp 5]) rfl ?_
 simp
 generalize hH2:GH.push _ _=H2
 have hs2:Sub H H2:=by subst hH2; exact Sub.push (.refl H) _
 clear hH2
 refine (lv (hb.mono hs2) day true).mono ?_
 rintro x H3 ⟨h3,⟨s,N,sg,kn,O,ho,hN,rfl,⟨vl,vo,vg,va,vw,vf,hS,_⟩,hW⟩|⟨e,ho,he,rfl⟩⟩
 ·have hg:=hS.g
  have hl:=hS.sgl.2
  simp only [bq] at hg
  simp (disch:=omega) [ho,hg,me]
  exact ⟨hs2.trans h3,hS.owners.listR (fun _=>rfl)⟩
 ·simp [ho,he,me]
  exact ⟨hs2.trans h3,ni.nil (fun _=>rfl)⟩
theorem aac (hb:BookIn H l b) (day:Int):
  ay Tryz.prog 41 [dl l b,vi day] H fun x H'=>Sub H H'∧∃v,x=.ret (.tuple #[v,vi (ml (im b day true)).2])∧ni H' v 1 ca (ml (im b day true)).1:=by
 rcases l with ⟨⟨⟨ra,rf⟩⟩,⟨oa,of'⟩,⟨va',vf'⟩⟩
 refine an tok mix azu (F:=g41) (c:=_) rfl (n:=22) rfl (rs:= [.tmp 4,.tmp 5]) rfl ?_
 simp
 generalize hH2:GH.push _ _=H2
 have hs2:Sub H H2:=by subst hH2; exact Sub.push (.refl H) _
 clear hH2
 refine (lv (hb.mono hs2) day true).mono ?_
 rintro x H3 ⟨h3,⟨s,N,sg,kn,O,ho,hN,rfl,⟨vl,vo,vg,va,vw,vf,hS,_⟩,hW⟩|⟨e,ho,he,rfl⟩⟩
 ·have hg:=hS.g
  have hl:=hS.sgl.2
  simp only [bq] at hg
  obtain ⟨ag,fg,rfl,hE⟩:=hS.waits.elems (fun _=>rfl)
  simp (disch:=omega) [hg]
  refine (nk s.waits (by have:=hW.len; omega) ag fg H3 hE).mono ?_
  rintro x H4 ⟨v,rfl,h4,hv⟩
  simp [ho,ml]
  exact ⟨hs2.trans (h3.trans h4),hv.listR (fun _=>rfl)⟩
 ·simp [ho,he,ml]
  exact ⟨hs2.trans h3,ni.nil (fun _=>rfl)⟩
theorem aen (hb:BookIn H l b) (day:Int):
  C 40 [dl l b,vi day] H (.tuple #[vi (tg b (im b day true)).1,vi (tg b (im b day true)).2.1,vi (tg b (im b day true)).2.2]) H:=by
 rcases l with ⟨⟨⟨ra,rf⟩⟩,⟨oa,of'⟩,⟨va',vf'⟩⟩
 refine au tok mix azt (F:=g40) (c:=_) rfl (n:=26) rfl (rs:= [.tmp 4,.tmp 5,.tmp 6]) rfl (i8 (by simp; exact ⟨ac rfl,ac rfl,ac rfl⟩)) ?_
 simp
 generalize hH2:GH.push _ _=H2
 have hs2:Sub H H2:=by subst hH2; exact Sub.push (.refl H) _
 have k0:H2.get H.next=some (.arr { cells:= [.slice ra b.tbl.rows.length rf,vi b.tbl.draw,vi b.supply,vi b.term,vi b.persons,.slice oa b.owners.length of',.slice va' b.events.length vf'],ty:=28 }):=by
  subst hH2; simp
 have hn2:H2.next=H.next+1:=by subst hH2; simp
 clear hH2
 refine (lv (hb.mono hs2) day true).mono ?_
 rintro x H3 ⟨h3,⟨s,N,sg,kn,O,ho,hN,rfl,⟨vl,vo,vg,va,vw,vf,hS,_⟩,hW⟩|⟨e,ho,he,rfl⟩⟩
 ·simp
  refine (acr hS (by have:=hW.len; omega)).mono ?_
  rintro x H4 ⟨rfl,h4⟩
  have hk:kn<H3.next∧N≤kn:=⟨hS.kl.2,hS.kl.1⟩
  have k4:H4.get H.next=some (.arr { cells:= [.slice ra b.tbl.rows.length rf,vi b.tbl.draw,vi b.supply,vi b.term,vi b.persons,.slice oa b.owners.length of',.slice va' b.events.length vf'],ty:=28 }):=by
   rw [h4.same _ (by have:=h3.1; omega) (by omega),h3.2 _ (by omega)]; exact k0
  have hn4:=h4.next
  have hn3:=h3.1
  simp (disch:=omega) [k4,ho,tg]
  exact ⟨by omega,fun g hg=>by rw [h4.same _ (by omega) (by omega),h3.2 _ (by omega),hs2.2 _ hg]⟩
 ·simp [ho,he,tg]
  exact hs2.trans h3
end
end Go.Gm.Tryz
end
section
namespace Go.Gm.Tryz
open Go.Proofs
def ane (s:Stand) (from_ to:Int):List Int:=(s.fell.filter fun p=>inI p.2 from_ to).map Prod.fst
def aal (o:Out) (from_ to:Int):List Int×Int:=match o with| .ok s=>(ane s from_ to,0)| .err e=>([],e)
section
variable {H:GH} {l:BLoc} {b:Book}
theorem aht (hb:BookIn H l b) (from_ to:Int):
  ay Tryz.prog 42 [dl l b,vi from_,vi to] H fun x H'=>Sub H H'∧∃v,x=.ret (.tuple #[v,vi (aal (im b to (inI from_ 0 to)) from_ to).2])∧ni H' v 1 ca (aal (im b to (inI from_ 0 to)) from_ to).1:=by
 rcases l with ⟨⟨⟨ra,rf⟩⟩,⟨oa,of'⟩,⟨va',vf'⟩⟩
 refine an tok mix azv (F:=g42) (c:=_) rfl (n:=46) rfl (rs:= [.tmp 6,.tmp 7]) rfl ?_
 simp
 generalize hH2:GH.push _ _=H2
 have hs2:Sub H H2:=by subst hH2; exact Sub.push (.refl H) _
 have k0:H2.get H.next=some (.arr { cells:= [.slice ra b.tbl.rows.length rf,vi b.tbl.draw,vi b.supply,vi b.term,vi b.persons,.slice oa b.owners.length of',.slice va' b.events.length vf'],ty:=28 }):=by
  subst hH2; simp
 have hn2:H2.next=H.next+1:=by subst hH2; simp
 clear hH2
 refine (lp _ _ _ _).go ?_
 simp (disch:=omega) [k0]
 refine (lv (hb.mono hs2) to (inI from_ 0 to)).mono ?_
 rintro x H3 ⟨h3,⟨s,N,sg,kn,O,ho,hN,rfl,⟨vl,vo,vg,va,vw,vf,hS,_⟩,hW⟩|⟨e,ho,he,rfl⟩⟩
 ·have hg:=hS.g
  have hl:=hS.sgl.2
  have hlen:s.fell.length≤100:=by
   have h1:=hW.fe
   have h2:=List.countP_le_length (p:=fun x:GSt=>decide (x.is=3)) (l:=s.grants)
   have h3:=hW.len
   omega
  simp only [bq] at hg
  obtain ⟨ag,fg,rfl,hE⟩:=hS.fell.elems (fun _=>rfl)
  simp (disch:=omega) [hg]
  refine cv tok mix (by kernel_rfl) s.fell.length (fun i ρ m H'=>ρ 1=vi from_∧ρ 2=vi to∧ρ 28=.slice ag s.fell.length fg∧ρ 29=vi s.fell.length∧ρ 30=vi i∧m= []∧Sub H3 H'∧bg H' H3.next (ρ 10) 3 1 ca (((s.fell.take i).filter fun p=>inI p.2 from_ to).map Prod.fst)) (i0:=0) (by omega) (by simp [bg.nil]) ?_
  rintro i ρ m H' hi ⟨e1,e2,e28,e29,e30,rfl,hsub,hown⟩
  simp [e29,e30]
  refine ba (fun hlt=>?_) (fun hge=>?_)
  ·obtain ⟨a,rfl,hal,hrd⟩:=(hE.mono hsub).at i hlt
   have et:s.fell.take (i+1)=s.fell.take i++ [s.fell[i]]:=List.take_succ_eq_append_getElem hlt
   simp (disch:=omega) [e1,e2,e28,e30,hlt,hrd]
   refine (lp _ _ _ _).go ?_
   simp (disch:=omega)
   have hs5:∀o1 o2,Sub H3 ((H'.push o1).put H'.next o2):=fun o1 o2=>(Sub.push hsub _).put hsub.1 _
   have ho5:∀o1 o2,bg ((H'.push o1).put H'.next o2) H3.next (ρ 10) 3 1 ca (((s.fell.take i).filter fun p=>inI p.2 from_ to).map Prod.fst):=fun o1 o2=>by
    refine (hown.push o1).frame (by simp) fun g hg=>GH.get_put_ne _ _ ?_
    have:=hown.blk_lt hg; omega
   refine ck (fun h5=>?_) (fun h5=>?_)
   ·simp (disch:=omega)
    generalize hH5:GH.put (GH.push H' _) _ _=H5
    have hs6:Sub H3 H5:=by subst hH5; exact hs5 _ _
    have ho6:=ho5 (.arr { cells:= [vi 0,vi 0],ty:=128 }) (.arr { cells:= [vi s.fell[i].fst,vi s.fell[i].snd],ty:=128 })
    rw [hH5] at ho6
    obtain ⟨v',H'',happ,hown',hnx,hfr,_⟩:=(ho6.push (.arr { cells:= [vi s.fell[i].fst],ty:=3 })).app (by simp) (by simp) (by decide) s.fell[i].fst (by have:=hs6.1; simp; omega)
    have hlen':=hown.len
    have hf:=List.length_filter_le (fun p:Int×Int=>inI p.2 from_ to) (s.fell.take i)
    simp only [List.length_map,List.length_take] at hlen' hf
    rw [if_pos (by omega)]
    simp only [ca] at happ
    rw [happ]
    simp (disch:=omega) [e1,e2,e28,e29,e30,aj]
    refine ⟨⟨by have:=hs6.1; simp at hnx; omega,fun g hg=>?_⟩,?_⟩
    ·rw [hfr g (by have:=hs6.1; simp; omega) (fun hc=>by have:=ho6.blk_lt hc; omega),GH.get_push_lt _ _ (by have:=hs6.1; omega),hs6.2 g hg]
    ·have ef:([s.fell[i]].filter fun p=>inI p.2 from_ to)= [s.fell[i]]:=by simp [h5]
     rw [et,List.filter_append,ef,List.map_append]; exact hown'
   ·simp (disch:=omega) [e1,e2,e28,e29,e30,aj]
    refine ⟨hs5 _ _,?_⟩
    have ef:([s.fell[i]].filter fun p=>inI p.2 from_ to)= []:=by simp [h5]
    rw [et,List.filter_append,ef,List.append_nil]; exact ho5 _ _
  ·have:i=s.fell.length:=by omega
   subst this
   rw [List.take_length] at hown
   simp [ho,aal]
   exact ⟨hs2.trans (h3.trans hsub),hown.listR (fun _=>rfl)⟩
 ·simp [ho,he,aal]
  exact ⟨hs2.trans h3,ni.nil (fun _=>rfl)⟩
end
end Go.Gm.Tryz
end
section
namespace Go.Gm.Tryz
open Go.Proofs
def ns (s:Int):Int:=3 - s
theorem apc (s:Int) (hs:bj s=true) (H:GH):C 194 [vi s] H (vi (ns s)) H:=by
 refine au tok mix as5 (F:=a48) (c:=_) rfl (n:=5) rfl (rs:= [.tmp 2]) rfl (ac rfl) ?_
 simp [bj] at hs
 rcases hs with rfl|rfl<;>simp [aj,ns]
def ny (t:Tbl) (sys:Int) (o:Option (Int×Int)) (s:List Int):Option (Int×Int):=
 match o with
 |none=>some (cp t (ns sys) s,cp t (ns sys) s)
 |some (a,b)=>some (if cp t (ns sys) s<a then cp t (ns sys) s else a,if cp t (ns sys) s>b then cp t (ns sys) s else b)
def an4 (t:Tbl) (sys u:Int):Option (Int×Int):=(dd t sys u).foldl (ny t sys) none
def qy (t:Tbl) (sys u:Int) (k:Nat):Option (Int×Int):=((dd t sys u).take k).foldl (ny t sys) none
theorem aj2 (t:Tbl) (sys u:Int) {k:Nat} (hk:k<(dd t sys u).length):qy t sys u (k+1)=ny t sys (qy t sys u k) (dd t sys u)[k]:=by
 unfold qy
 rw [List.take_succ_eq_append_getElem hk,List.foldl_append]; rfl
def rq (t:Tbl) (sys u:Int):Int×Int×Int:=if gi t sys u then (match an4 t sys u with|some (a,b)=>(a,b,0)|none=>(0,0,5)) else (0,0,2)
theorem aqr (l:TLoc) (t:Tbl) (sys u:Int) (H:GH) (hT:gc H l t):C 156 [qx l t,vi sys,vi u] H (.tuple #[.agg #[vi (rq t sys u).1,vi (rq t sys u).2.1],vi (rq t sys u).2.2]) H:=by
 rcases l with ⟨⟨ra,rf⟩⟩
 refine au tok mix asd (F:=axl) (c:=_) rfl (n:=54) rfl (rs:= [.cell 6 66,.tmp 7]) rfl (i8 (by simp; exact ⟨sb (l:= [_,_]) (by simp; exact ⟨ac rfl,ac rfl⟩),ac rfl⟩)) ?_
 simp
 generalize hHb:GH.push (GH.push (GH.push H _) _) _=Hb
 have hsb:Sub H Hb:=by subst hHb; simp (maxDischargeDepth:=9)
 have hgb:Hb.get H.next=some (.arr { cells:= [.slice ra t.rows.length rf,vi t.draw],ty:=24 }):=by subst hHb; simp (disch:=omega)
 have hg4:Hb.get (H.next+1)=some (.arr { cells:= [vi sys],ty:=51 }):=by subst hHb; simp (disch:=omega)
 have hg6:Hb.get (H.next+2)=some (.arr { cells:= [vi 0,vi 0],ty:=66 }):=by subst hHb; simp (disch:=omega)
 have hnb:Hb.next=H.next+3:=by subst hHb; simp (disch:=omega)
 clear hHb
 with_reducible refine (ov ⟨⟨_,_⟩⟩ t _ (hT.mono hsb)).go ?_
 simp
 cases htb:ce t
 ·simp [hg6,rq,gi,htb,hsb]
 simp [hg4]
 with_reducible refine (ux _ _).go ?_
 simp
 cases hsys:bj sys
 ·simp [hg6,rq,gi,htb,hsys,hsb]
 simp
 with_reducible refine (yg _ _).go ?_
 simp
 cases hun:gz u
 ·simp [hg6,rq,gi,htb,hsys,hun,hsb]
 have q1:¬H.next=Hb.next+1:=by omega
 have q2:¬H.next=Hb.next:=by omega
 have q3:¬H.next+1=Hb.next+1:=by omega
 have q4:¬H.next+1=Hb.next:=by omega
 simp (disch:=omega) [hgb,hg4,q1,q2]
 with_reducible refine (aep ⟨⟨_,_⟩⟩ t _ _ _).go ?_
 simp only [pu,nh,ki,pw]
 generalize hHc:GH.put (GH.push (GH.push Hb _) _) _ _=Hc
 have hsc:Sub Hb Hc:=by subst hHc; exact ((Sub.push (Sub.refl Hb) _).push _).put (by omega) _
 have hc8:Hc.get Hb.next=some (.arr { cells:= [vi 0,vi 0],ty:=66 }):=by subst hHc; simp (disch:=omega)
 have hc9:Hc.get (Hb.next+1)=some (.arr { cells:= [.bool false],ty:=4 }):=by subst hHc; simp (disch:=omega)
 have hnc:Hc.next=Hb.next+2:=by subst hHc; simp
 clear hHc
 generalize hHd:GH.push (GH.push (GH.push Hc _) _) _=Hd
 have hsd:Sub Hc Hd:=by subst hHd; simp (maxDischargeDepth:=9)
 have hd1:Hd.get Hc.next=some (.arr { cells:= [.slice ra t.rows.length rf,vi t.draw],ty:=24 }):=by subst hHd; simp (disch:=omega)
 have hd2:Hd.get (Hc.next+1)=some (.arr { cells:= [vi sys],ty:=51 }):=by subst hHd; simp (disch:=omega)
 have hd3:Hd.get (Hc.next+2)=some (.arr { cells:= [vi u],ty:=3 }):=by subst hHd; simp (disch:=omega)
 have hnd:Hd.next=Hc.next+3:=by subst hHd; simp
 clear hHd
 have hgd:=(hsd.2 _ (by omega)).trans ((hsc.2 _ (by omega)).trans hgb)
 have hg4d:=(hsd.2 _ (by omega)).trans ((hsc.2 _ (by omega)).trans hg4)
 have hg6d:=(hsd.2 _ (by omega)).trans ((hsc.2 _ (by omega)).trans hg6)
 have hg8:=(hsd.2 _ (by omega)).trans hc8
 have hg9:=(hsd.2 _ (by omega)).trans hc9
 have hTd:gc Hd ⟨⟨ra,rf⟩⟩ t:=hT.mono (hsb.trans (hsc.trans hsd))
 have hra:∀b,ra=some b→b.block<H.next:=fun b hb=>(Elems.ok hT b hb).1
 refine w9 tok mix rfl rfl (gf:=150) (first:= #[]) (captured:= #[.pointer (some (ga Hc.next 0 0)),.pointer (some (ga (Hc.next+1) 0 0)),.pointer (some (ga (Hc.next+2) 0 0))]) (by simp) 156 (by kernel_rfl) (by kernel_rfl) (fun H v x l o o' a b c=>adm a b c)
  (ab6 t htb sys u hsys hd1 (by omega) hd2 (by omega) hd3 (by omega) hTd)
  (fun k Hk Ok=>(∀g,Ok g↔g=Hb.next∨g=Hb.next+1)∧Hk.get Hb.next=some (.arr { cells:= [vi ((qy t sys u k).getD (0,0)).1,vi ((qy t sys u k).getD (0,0)).2],ty:=66 })∧Hk.get (Hb.next+1)=some (.arr { cells:= [.bool (qy t sys u k).isSome],ty:=4 }))
  (fun x Hk Ok=>False)
  ?_ ?_ (fun g=>g=Hb.next∨g=Hb.next+1) ?_ ?_ ?_ ⟨fun g=>Iff.rfl,hg8,hg9⟩ 10 ?_ ?_ ?_ ?_
 ·rintro k H1 H2 Ok ⟨h2,h3,h4⟩ h5 h6 h7
  have hlt:∀g,Ok g→H2.get g=H1.get g:=fun g hg=>h7 g (h5 g hg) (.inl hg)
  exact ⟨h2,(hlt _ ((h2 _).2 (.inl rfl))).trans h3,(hlt _ ((h2 _).2 (.inr rfl))).trans h4⟩
 ·rintro x H1 H2 Ok h; exact h.elim
 ·rintro g (rfl|rfl)<;>omega
 ·rintro g (rfl|rfl) (h|h|h|⟨b,hb,h⟩)
  all_goals first|omega|(have:=hra b hb; omega)
 ·rintro g (h|h|h|⟨b,hb,h⟩)
  all_goals first|omega|(have:=hra b hb; omega)
 ·intro l Hk v; simp
 ·rintro k hk Hk Ok v l d gt ⟨h2,h3,h4⟩ hfr hv hvb hl1 hl2 hol hgl
  obtain ⟨a,fl,rfl,hE⟩:=hv
  have h6:Hd.next≤Hk.next:=hfr.next
  have m1:Hk.get H.next=some (.arr { cells:= [.slice ra t.rows.length rf,vi t.draw],ty:=24 }):=(hfr.keep _ (by omega) (by rintro (h|h)<;>omega)).trans hgd
  have m2:Hk.get (H.next+1)=some (.arr { cells:= [vi sys],ty:=51 }):=(hfr.keep _ (by omega) (by rintro (h|h)<;>omega)).trans hg4d
  have hTk:gc Hk ⟨⟨ra,rf⟩⟩ t:=Elems.frm hTd hfr (fun b hb=>by have:=hra b hb; rintro (h|h)<;>omega)
  have hmem:(dd t sys u)[k]∈bp t.rows.length:=(List.mem_filter.1 (List.getElem_mem hk)).1
  have hset:=og hmem
  have e:=aj2 t sys u hk
  simp (disch:=omega) [m1,m2]
  refine (apc _ hsys _).go ?_
  simp (disch:=omega) [m1]
  have hso:bj (ns sys)=true:=by
   unfold bj ns at*; rw [decide_eq_true_eq] at hsys ⊢; omega
  refine (acg ⟨⟨ra,rf⟩⟩ t htb (ns sys) hso (dd t sys u)[k] hset a fl Hk hTk hE).go ?_
  simp (disch:=omega) [h4]
  have hl8:Hb.next<Hk.next:=by omega
  have hl9:Hb.next+1<Hk.next:=by omega
  cases ht:qy t sys u k with
  |none=>
   rw [ht] at e h3 h4
   simp (disch:=omega) [h3,h4]
   refine ⟨Ok,((Frm.put hfr.lt ((h2 _).2 (.inl rfl)) _).trans (Frm.put (H:=Hk.put Hb.next _) hfr.lt ((h2 _).2 (.inr rfl)) _)).trans (Frm.put (H:=(Hk.put Hb.next _).put (Hb.next+1) _) hfr.lt ((h2 _).2 (.inl rfl)) _),h2,?_,?_⟩
   ·rw [e]; simp [ny]
   ·rw [e]; simp [ny]
  |some p=>
   rw [ht] at e h3 h4
   simp (disch:=omega) [h3,h4]
   refine ⟨Ok,Frm.put hfr.lt ((h2 _).2 (.inl rfl)) _,h2,?_,?_⟩
   ·rw [e]; simp [ny]
   ·rw [e]; simp (disch:=omega) [ny]
 ·rintro H' O' mk hf hmk1 hmk2 hom hgm ⟨h2,h3,h4⟩
  have hall:qy t sys u (dd t sys u).length=an4 t sys u:=by unfold qy an4; rw [List.take_length]
  rw [hall] at h3 h4
  have m6:H'.get (H.next+2)=some (.arr { cells:= [vi 0,vi 0],ty:=66 }):=(hf.keep _ (by omega) (by rintro (h|h)<;>omega)).trans hg6d
  have hsub:Sub H H':=⟨by have:=hf.next; omega,fun g hg=>(hf.keep g (by omega) (by rintro (h|h)<;>omega)).trans ((hsb.trans (hsc.trans hsd)).2 g hg)⟩
  have hn:=hf.next
  cases ht:an4 t sys u with
  |none=>
   rw [ht] at h3 h4
   simp (disch:=omega) [hgm,h4,m6,rq,gi,htb,hsys,hun,ht]
   exact Sub.put (Sub.put hsub (by omega) _) (by omega) _
  |some p=>
   rw [ht] at h3 h4
   simp (disch:=omega) [hgm,h3,h4,m6,rq,gi,htb,hsys,hun,ht]
   exact Sub.put (Sub.put hsub (by omega) _) (by omega) _
 ·rintro x H' O' mk hf hmk1 hmk2 hom hgm h; exact h.elim
end Go.Gm.Tryz
end
section
namespace Go.Gm.Tryz
open Go.Proofs
@[simp,reducible] def ah9 (l:TLoc) (t:Tbl) (g:GSt):Value:=.agg #[.slice l.rows.a t.rows.length l.rows.fl,vi t.draw,vi g.is,vi g.person,vi g.estate,vi g.system,vi g.units]
theorem auu (l:TLoc) (t:Tbl) (g:GSt) (H:GH):C 101 [ah9 l t g] H (.agg #[vi g.units,vi g.units]) H:=by
 rcases l with ⟨⟨ra,rf⟩⟩
 refine au tok mix ara (F:=a3q) (c:=_) rfl (n:=10) rfl (rs:= [.cell 2 66]) rfl (sb (l:= [_,_]) (by simp; exact ac rfl)) ?_
 simp (disch:=omega)
 exact Sub.put (Sub.push (Sub.push (.refl H) _) _) (by omega) _
theorem amn (l:TLoc) (t:Tbl) (g:GSt) (H:GH) (hT:gc H l t):C 102 [ah9 l t g] H (.agg #[vi (rq t g.system g.units).1,vi (rq t g.system g.units).2.1]) H:=by
 rcases l with ⟨⟨ra,rf⟩⟩
 refine au tok mix arb (F:=a3r) (c:=_) rfl (n:=18) rfl (rs:= [.cell 2 66]) rfl (sb (l:= [_,_]) (by simp; exact ⟨ac rfl,ac rfl⟩)) ?_
 simp (disch:=omega)
 refine (aqr ⟨⟨ra,rf⟩⟩ t g.system g.units _ ((hT.push _).push _)).go ?_
 simp (disch:=omega)
 refine Sub.put (Sub.put (Sub.push (Sub.push (Sub.push (.refl H) _) _) _) ?_ _) ?_ _<;>simp<;>omega
def ann (b:Book) (sys:Int) (g:GSt):Int×Int:=if g.system=sys then (g.units,g.units) else ((rq b.tbl g.system g.units).1,(rq b.tbl g.system g.units).2.1)
def jf (b:Book) (person sys:Int) (acc:Int×Int) (g:GSt):Int×Int:=
 if g.is=1∧g.person=person then (IntKind.i64.wrap (acc.1+(ann b sys g).1),IntKind.i64.wrap (acc.2+(ann b sys g).2)) else acc
def a04 (b:Book) (s:Stand) (person sys:Int):Int×Int:=s.grants.foldl (jf b person sys) (0,0)
def vz (b:Book) (o:Out) (person sys:Int):Int×Int×Int:=match o with| .ok s=>((a04 b s person sys).1,(a04 b s person sys).2,0)| .err e=>(0,0,e)
section
variable {H:GH} {l:BLoc} {b:Book}
theorem an9 (hb:BookIn H l b) (person sys day:Int):
  C 48 [dl l b,vi person,vi sys,vi day] H (.tuple #[.agg #[vi (vz b (im b day (az b person&&bj sys)) person sys).1,vi (vz b (im b day (az b person&&bj sys)) person sys).2.1],vi (vz b (im b day (az b person&&bj sys)) person sys).2.2]) H:=by
 rcases l with ⟨⟨⟨ra,rf⟩⟩,⟨oa,of'⟩,⟨va',vf'⟩⟩
 refine au tok mix az1 (F:=g48) (c:=_) rfl (n:=79) rfl (rs:= [.cell 8 66,.tmp 9]) rfl (i8 (by simp; exact ⟨sb (l:= [_,_]) (by simp; exact ⟨ac rfl,ac rfl⟩),ac rfl⟩)) ?_
 simp
 generalize hH2:GH.push (GH.push _ _) _=H2
 have hs2:Sub H H2:=by subst hH2; exact Sub.push (Sub.push (.refl H) _) _
 have k0:H2.get H.next=some (.arr { cells:= [.slice ra b.tbl.rows.length rf,vi b.tbl.draw,vi b.supply,vi b.term,vi b.persons,.slice oa b.owners.length of',.slice va' b.events.length vf'],ty:=28 }):=by
  subst hH2; simp (disch:=omega)
 have k8:H2.get (H.next+1)=some (.arr { cells:= [vi 0,vi 0],ty:=66 }):=by subst hH2; simp
 have hn2:H2.next=H.next+2:=by subst hH2; simp
 clear hH2
 refine (mz ⟨⟨⟨ra,rf⟩⟩,⟨oa,of'⟩,⟨va',vf'⟩⟩ b person H2).go ?_
 simp (disch:=omega) [k0]
 cases hp:az b person
 ·simp (disch:=omega)
  refine (lv (hb.mono hs2) day false).mono ?_
  rintro x H3 ⟨h3,⟨s,N,sg,kn,O,ho,hN,rfl,hS,hW⟩|⟨e,ho,he,rfl⟩⟩
  ·simp [im,fz] at ho
  ·simp (disch:=omega) [ho,he,vz,(h3.2 _ (by omega)).trans k8]
   exact Sub.put (hs2.trans h3) (by omega) _
 simp (disch:=omega)
 refine (ya _ _).go ?_
 simp (disch:=omega) [k0]
 refine (lv (hb.mono hs2) day (bj sys)).mono ?_
 rintro x H3 ⟨h3,⟨s,N,sg,kn,O,ho,hN,rfl,⟨vl,vo,vg,va,vw,vf,hS,_⟩,hW⟩|⟨e,ho,he,rfl⟩⟩
 ·have hg:=hS.g
  have hl:=hS.sgl.2
  have hlen:s.grants.length≤100:=by have:=hW.len; omega
  have hTb:=hS.book.t
  simp only [bq] at hg
  obtain ⟨ag,fg,rfl,hE⟩:=hS.grants.elems (fun _=>rfl)
  simp (disch:=omega) [hg]
  have hn3:=h3.1
  generalize hH4:H3.push _=H4
  have hs4:Sub H3 H4:=by subst hH4; exact Sub.push (.refl H3) _
  have k12:H4.get H3.next=some (.arr { cells:= [vi 0,vi 0],ty:=66 }):=by subst hH4; simp
  have hn4:H4.next=H3.next+1:=by subst hH4; simp
  clear hH4
  refine cv tok mix (by kernel_rfl) s.grants.length (fun i ρ m H'=>ρ 1=vi person∧ρ 2=vi sys∧ρ 4=.pointer (some (ga H.next 0 0))∧ρ 8=.pointer (some (ga (H.next+1) 0 0))∧ρ 12=.pointer (some (ga H3.next 0 0))∧ρ 38=.slice ag s.grants.length fg∧ρ 39=vi s.grants.length∧ρ 40=vi i∧ρ 9=vi 0∧m= []∧Sub H3 H'∧H3.next<H'.next∧
   H'.get H3.next=some (.arr { cells:= [vi ((s.grants.take i).foldl (jf b person sys) (0,0)).1,vi ((s.grants.take i).foldl (jf b person sys) (0,0)).2],ty:=66 })) (i0:=0) (by omega) (by simp [k12]; exact ⟨hs4,by omega⟩) ?_
  rintro i ρ m H' hi ⟨e1,e2,e4,e8,e12,e38,e39,e40,e9,rfl,hsub,hlt3,hacc⟩
  have kb:H'.get H.next=some (.arr { cells:= [.slice ra b.tbl.rows.length rf,vi b.tbl.draw,vi b.supply,vi b.term,vi b.persons,.slice oa b.owners.length of',.slice va' b.events.length vf'],ty:=28 }):=by
   rw [hsub.2 _ (by omega),h3.2 _ (by omega)]; exact k0
  simp [e39,e40]
  refine ba (fun hlt=>?_) (fun hge=>?_)
  ·obtain ⟨a,rfl,hal,hrd⟩:=(hE.mono hsub).at i hlt
   have et:(s.grants.take (i+1)).foldl (jf b person sys) (0,0)=jf b person sys ((s.grants.take i).foldl (jf b person sys) (0,0)) s.grants[i]:=by
    rw [List.take_succ_eq_append_getElem hlt,List.foldl_append]; rfl
   have q1:¬H.next=H'.next+1:=by omega
   have q2:¬H.next=H'.next:=by omega
   have q3:¬H3.next=H'.next+1:=by omega
   have q4:¬H3.next=H'.next:=by omega
   have q5:¬H3.next=H'.next+2:=by omega
   generalize hG:s.grants[i]=G at*
   generalize hA:(s.grants.take i).foldl (jf b person sys) (0,0)=A at*
   simp (disch:=omega) [e38,e40,hlt,hrd]
   by_cases h1:G.is=1
   ·by_cases h2:G.person=person
    ·simp (disch:=omega) [e1,e2,h1,h2]
     by_cases h3:G.system=sys
     ·simp (disch:=omega) [e4,h3,q1,kb]
      have eG:GSt.mk 1 person G.estate sys G.units=G:=by rw [←h1,←h2,←h3]
      refine (auu ⟨⟨ra,rf⟩⟩ b.tbl ⟨1,person,G.estate,sys,G.units⟩ _).go ?_
      simp (disch:=omega) [e1,e2,e4,e8,e12,e38,e39,e40,e9,q3,q5,hacc,aj]
      refine ⟨Sub.put (Sub.put (Sub.push (Sub.put (Sub.push (Sub.put (Sub.push hsub _) (by omega) _) _) (by omega) _) _) (by omega) _) (Nat.le_refl _) _,by omega,?_⟩
      rw [et]; simp [jf,h1,h2,ann,h3]
     ·simp (disch:=omega) [e4,h3,q1,kb]
      refine (amn ⟨⟨ra,rf⟩⟩ b.tbl ⟨1,person,G.estate,G.system,G.units⟩ _ (hTb.mono (Sub.push (Sub.put (Sub.push (Sub.put (Sub.push hsub _) (by omega) _) _) (by omega) _) _))).go ?_
      simp (disch:=omega) [e1,e2,e4,e8,e12,e38,e39,e40,e9,q3,q5,hacc,aj]
      refine ⟨Sub.put (Sub.put (Sub.push (Sub.put (Sub.push (Sub.put (Sub.push hsub _) (by omega) _) _) (by omega) _) _) (by omega) _) (Nat.le_refl _) _,by omega,?_⟩
      rw [et]; simp [jf,h1,h2,ann,h3]
    ·simp (disch:=omega) [e1,e2,e4,e8,e12,e38,e39,e40,e9,h1,h2,aj]
     refine ⟨Sub.put (Sub.push hsub _) (by omega) _,by omega,?_⟩
     rw [et,hacc]; simp [jf,h2]
   ·simp (disch:=omega) [e1,e2,e4,e8,e12,e38,e39,e40,e9,h1,aj]
    refine ⟨Sub.put (Sub.push hsub _) (by omega) _,by omega,?_⟩
    rw [et,hacc]; simp [jf,h1]
  ·have:i=s.grants.length:=by omega
   subst this
   rw [List.take_length] at hacc
   have k8':H'.get (H.next+1)=some (.arr { cells:= [vi 0,vi 0],ty:=66 }):=by
    rw [hsub.2 _ (by omega),h3.2 _ (by omega)]; exact k8
   simp (disch:=omega) [e8,e12,hacc,k8',ho,vz]
   exact ⟨⟨rfl,rfl⟩,Sub.put (hs2.trans (h3.trans hsub)) (by omega) _⟩
 ·simp (disch:=omega) [ho,he,vz,(h3.2 _ (by omega)).trans k8]
  exact Sub.put (hs2.trans h3) (by omega) _
end
end Go.Gm.Tryz
end
section
namespace Go.Gm
noncomputable section
def xe (N:Nat) (PV:Nat→Prop) (S:GH→(Nat→Prop)→Prop):Prop:=
 ∀H H' O,S H O→(∀g,O g→g<H.next)→H.next≤H'.next→(∀g,g<H.next→(O g∨(g<N∧¬PV g))→H'.get g=H.get g)→S H' O
structure FrmW (PV O O':Nat→Prop) (H H':GH):Prop where
 next:H.next≤H'.next
 keep:∀g,g<H.next→¬O g→¬PV g→H'.get g=H.get g
 own:∀g,O' g→O g∨H.next≤g
 lt:∀g,O' g→g<H'.next
theorem FrmW.trans {PV O0 O1 O2:Nat→Prop} {H0 H1 H2:GH} (a:FrmW PV O0 O1 H0 H1) (b:Frm O1 O2 H1 H2):FrmW PV O0 O2 H0 H2:=by
 refine ⟨Nat.le_trans a.next b.next,fun g hg ho hp=>?_,fun g hg=>?_,b.lt⟩
 ·rw [b.keep g (Nat.lt_of_lt_of_le hg a.next) fun hc=>(a.own g hc).elim ho (by omega),a.keep g hg ho hp]
 ·rcases b.own g hg with h|h
  ·exact a.own g h
  ·exact .inr (Nat.le_trans a.next h)
def aqo {α:Type} (P:Program) (gf:FuncId) (first captured:Array Value) (H:GH) (xs:List α) (argR:GH→Value→α→Prop) (PV Priv:Nat→Prop):Prop:=
 ∀l Hc Inv O,Sub H Hc→od P l xs argR Inv (fun _ _=>False)→(∀k,xe Hc.next PV (Inv k))→Inv 0 Hc O→(∀g,O g→g<Hc.next)→(∀g,O g→¬Priv g)→
  ay P gf (first.toList++ [.func (.yield l) #[] #[]]++captured.toList) Hc fun x H'=>∃O' v,x=.ret v∧Inv xs.length H' O'
def goQ (Hk:GH) (Ok:Nat→Prop) (J:GH→(Nat→Prop)→Prop):VQ
 | .normal,_,_,H'=>∃O',Frm Ok O' Hk H'∧J H' O'
 |_,_,_,_=>False
section
variable {Hk:GH} {Ok:Nat→Prop} {J:GH→(Nat→Prop)→Prop} {ρ:Rho} {m:List Nat} {H':GH}
@[simp] theorem a5m:goQ Hk Ok J .normal ρ m H'=∃O',Frm Ok O' Hk H'∧J H' O':=rfl
end
theorem z8 {X:Cx} (hT:TabOk X.P X.T) (hmix:X.P.follows .mixedOrders=true) (hro:X.ro=none) {g:Operand} {p:Tmp} {avs bd:Code} {Q:VQ} {ρ:Rho} {m:List Nat} {H:GH} (hx:xOk g=true) {gf:FuncId} {first captured:Array Value} (hg:rv X.n ρ g=.func (.func gf) first captured) (f:FuncId)
  (hb1:cg X.T X.plans avs=true) (hb2:cg X.T X.plans bd=true) {α:Type} {xs:List α} {argR:GH→Value→α→Prop} (hargR:∀H v x l o o',argR H v x→H.get l=some o→o.isArr=false→argR (H.put l o') v x) (hargS:∀H H' v x,argR H v x→Sub H H'→argR H' v x) {PV Priv:Nat→Prop} (hit:aqo X.P gf first captured H xs argR PV Priv)
  (J:Nat→GH→(Nat→Prop)→Prop) (hJs:∀k,xe H.next PV (J k)) (O:Nat→Prop) (hO:∀g,O g→g<H.next) (hOP:∀g,O g→¬Priv g) (hP:∀g,Priv g→g<H.next) (hPV:∀g,PV g→g<H.next) (hJ0:J 0 H O)
  (A:GH→GH→Value→Rho→Prop) (hA:∀H0 H1 v ρ1 l o o',A H0 H1 v ρ1→l<H0.next→H1.get l=some o→o.isArr=false→A H0 (H1.put l o') v ρ1)
  (has:∀k (hk:k<xs.length) l Hk v,argR Hk v xs[k]→wpC ⟨X.P,X.T,X.plans,X.n,some l⟩ avs (fun x ρ1 m1 H1=>x=.normal∧m1= []∧Sub Hk H1∧A Hk H1 v ρ1) (upd ρ p v) [] Hk)
  (body:∀k (hk:k<xs.length) H0 Hk Ok v l d gt ρ1,A H0 Hk v ρ1→(∀g,Ok g→g<H0.next)→H0.next≤Hk.next→H.next≤H0.next→J k Hk Ok→FrmW PV O Ok H Hk→argR Hk v xs[k]→(∀b,kf v=some b→¬Ok b)→H.next≤l→l<Hk.next→¬Ok l→Hk.get l=some (dp f #[p] avs bd d .busy none gt)→wpC ⟨X.P,X.T,X.plans,X.n,some l⟩ bd (goQ Hk Ok (J (k+1))) ρ1 [] Hk)
  (hn:∀H' O' mk,FrmW PV O O' H H'→H.next≤mk→mk<H'.next→¬O' mk→H'.get mk=some (.marks true)→J xs.length H' O'→Q .normal ρ (mk::m) H'):wpC X (.rangeFunc g #[p] avs bd) Q ρ m H:=by
 refine aax hro hx hg f fun gt hgt=>?_
 have hHn:((H.push (.marks true)).push (dp f #[p] avs bd H.next .ready none gt)).next=H.next+2:=by simp
 have hsub:Sub H ((H.push (.marks true)).push (dp f #[p] avs bd H.next .ready none gt)):=((Sub.refl H).push _).push _
 have hgl:((H.push (.marks true)).push (dp f #[p] avs bd H.next .ready none gt)).get (H.next+1)=some (dp f #[p] avs bd H.next .ready none gt):=by simp
 have hgm:((H.push (.marks true)).push (dp f #[p] avs bd H.next .ready none gt)).get H.next=some (.marks true):=by simp
 generalize (H.push (.marks true)).push (dp f #[p] avs bd H.next .ready none gt)=Hc at hHn hsub hgl hgm ⊢
 have hOl:¬O (H.next+1):=fun hc=>by have:=hO _ hc; omega
 have hOm:¬O H.next:=fun hc=>by have:=hO _ hc; omega
 have hlm:H.next+1≠H.next:=by omega
 let l:=H.next+1
 let mk:=H.next
 let I:Nat→GH→(Nat→Prop)→Prop:=fun k Hk OL=>∃O',(∀g,OL g↔O' g∨g=l)∧¬O' l∧¬O' mk∧FrmW PV O O' H Hk∧J k Hk O'∧Hk.get l=some (dp f #[p] avs bd H.next .ready none gt)∧Hk.get mk=some (.marks true)∧l<Hk.next∧mk<Hk.next
 have hY:od X.P l xs argR I (fun _ _=>False):=by
  rintro k hk Hk OL v ⟨O',hOL,hol,hom,hfr,hJ,hgl,hgm,hll,hml⟩ ha hav
  refine afb hT hmix hgt hb1 hb2 hgl ?_
  refine p8 (has k hk l Hk v ha) ?_
  rintro x ρ1 m1 H1 ⟨rfl,rfl,hs1,hA1⟩
  have hl0:=hll
  have hlt0:∀g,O' g→g<Hk.next:=hfr.lt
  have hn01:=hs1.1
  have hn00:=hfr.next
  have hgl:H1.get l=some (dp f #[p] avs bd H.next .ready none gt):=(hs1.2 _ hll).trans hgl
  have hgm:H1.get mk=some (.marks true):=(hs1.2 _ hml).trans hgm
  have ha:=hargS _ _ _ _ ha hs1
  have hfr1:FrmW PV O O' H H1:=⟨by omega,fun g hg ho hp=>by rw [hs1.2 g (by omega)]; exact hfr.keep g hg ho hp,hfr.own,fun g hg=>by have:=hlt0 g hg; omega⟩
  have hJ1:J k H1 O':=hJs k Hk H1 O' hJ hlt0 hn01 fun g hg _=>hs1.2 g hg
  have hll:l<H1.next:=by omega
  have hml:mk<H1.next:=by omega
  refine ⟨rfl,rfl,hgl,?_⟩
  have hlt:∀g,O' g→g<H1.next:=hfr1.lt
  have hfr2:FrmW PV O O' H (H1.put l (dp f #[p] avs bd H.next .busy none gt)):=
   ⟨hfr1.next,fun g hg ho hp=>by rw [GH.get_put_ne _ _ (by show g≠H.next+1; omega)]; exact hfr1.keep g hg ho hp,hfr1.own,hfr1.lt⟩
  have hJ2:J k (H1.put l (dp f #[p] avs bd H.next .busy none gt)) O':=hJs k H1 _ O' hJ1 hlt (Nat.le_refl _) fun g hg hor=>GH.get_put_ne _ _ fun hc=>by
   subst hc
   rcases hor with h|h
   ·exact hol h
   ·have:l=H.next+1:=rfl
    omega
  refine p8 (body k hk Hk _ O' v l H.next gt ρ1 (hA _ _ _ _ _ _ _ hA1 hl0 hgl (by simp)) hlt0 (by simpa using hn01) hn00 hJ2 hfr2 (hargR H1 v _ _ _ _ ha hgl (by simp)) (fun b hb hc=>hav b hb ((hOL b).2 (.inl hc))) (by show H.next≤H.next+1; omega) hll hol (GH.get_put_same _ _)) ?_
  intro x ρ2 m2 H2 hx
  cases x with
  |normal=>
   obtain ⟨O2,h2,hJ3⟩:=hx
   have hn:=h2.next
   simp only [GH.next_put] at hn
   have hl2:H2.get l=some (dp f #[p] avs bd H.next .busy none gt):=by rw [h2.keep l hll hol,GH.get_put_same]
   have hm2:H2.get mk=some (.marks true):=by rw [h2.keep mk hml hom,GH.get_put_ne _ _ (Ne.symm hlm)]; exact hgm
   have ho2:¬O2 l:=h2.not hll hol
   have hom2:¬O2 mk:=h2.not hml hom
   refine ⟨hl2,(fun g=>O2 g∨g=l),⟨by simp; omega,fun g hg ho=>?_,fun g hg=>?_,fun g hg=>?_⟩,.inl ⟨rfl,O2,fun g=>Iff.rfl,ho2,hom2,?_,?_,GH.get_put_same _ _,by rw [GH.get_put_ne _ _ (Ne.symm hlm)]; exact hm2,by simp; omega,by simp; omega⟩⟩
   ·have hgl':g≠l:=fun hc=>ho ((hOL g).2 (.inr hc))
    rw [GH.get_put_ne _ _ hgl',h2.keep g (by simp; omega) (fun hc=>ho ((hOL g).2 (.inl hc))),GH.get_put_ne _ _ hgl',hs1.2 g hg]
   ·rcases hg with h|h
    ·exact (h2.own g h).imp (fun h=>(hOL g).2 (.inl h)) fun h=>by simp at h; omega
    ·exact .inl ((hOL g).2 (.inr h))
   ·rcases hg with h|h
    ·exact h2.lt g h
    ·subst h; simp; omega
   ·have:=hfr2.trans h2
    exact ⟨this.next,fun g hg ho hp=>by rw [GH.get_put_ne _ _ (by show g≠H.next+1; omega)]; exact this.keep g hg ho hp,this.own,this.lt⟩
   ·refine hJs _ _ _ _ hJ3 h2.lt (Nat.le_refl _) fun g hg hor=>GH.get_put_ne _ _ fun hc=>?_
    subst hc
    rcases hor with h|h
    ·exact ho2 h
    ·have:l=H.next+1:=rfl
     omega
  |exit i=>exact hx.elim
  |ret=>exact hx.elim
  |pan v=>exact hx.elim
 refine (hit l Hc I (fun g=>O g∨g=l) hsub hY ?_ ?_ ?_ ?_).mono ?_
 ·rintro k Hk H' OL ⟨O',h1,h2,h3,h4,h5,h6,h7,h8,h9⟩ hlt hn hsame
  have hs:=hsub.1
  have e1:H'.get l=Hk.get l:=hsame l h8 (.inl ((h1 l).2 (.inr rfl)))
  have e2:H'.get mk=Hk.get mk:=hsame mk h9 (.inr ⟨by show H.next<Hc.next; omega,fun hc=>by have:mk=H.next:=rfl; have:=hPV _ hc; omega⟩)
  refine ⟨O',h1,h2,h3,⟨Nat.le_trans h4.next hn,fun g hg ho hp=>?_,h4.own,fun g hg=>Nat.lt_of_lt_of_le (h4.lt g hg) hn⟩,?_,by rw [e1]; exact h6,by rw [e2]; exact h7,by omega,by omega⟩
  ·rw [hsame g (Nat.lt_of_lt_of_le hg h4.next) (.inr ⟨by omega,hp⟩)]; exact h4.keep g hg ho hp
  ·exact hJs k Hk H' O' h5 h4.lt hn fun g hg hor=>hsame g hg (hor.imp (fun h=>(h1 g).2 (.inl h)) fun h=>⟨by omega,h.2⟩)
 ·exact ⟨O,fun g=>Iff.rfl,hOl,hOm,⟨hsub.1,fun g hg _ _=>hsub.2 g hg,fun g hg=>.inl hg,fun g hg=>Nat.lt_of_lt_of_le (hO g hg) hsub.1⟩,hJs 0 H Hc O hJ0 hO hsub.1 fun g hg _=>hsub.2 g hg,hgl,hgm,by show H.next+1<_; omega,by show H.next<_; omega⟩
 ·rintro g (h|h)
  ·exact Nat.lt_of_lt_of_le (hO g h) hsub.1
  ·subst h; show H.next+1<_; omega
 ·rintro g (h|h)
  ·exact hOP g h
  ·intro hp; have:=hP g hp; have:l=H.next+1:=rfl; omega
 rintro x H2 ⟨OL,v,rfl,O',h1,h2,h3,h4,h5,h6,h7,h8,h9⟩
 refine ⟨v,.ready,none,gt,rfl,h6,by simp,?_⟩
 refine hn _ O' mk ⟨h4.next,fun g hg ho hp=>by rw [GH.get_put_ne _ _ (by omega)]; exact h4.keep g hg ho hp,h4.own,h4.lt⟩ (Nat.le_refl _) h9 h3 (by rw [GH.get_put_ne _ _ (Ne.symm hlm)]; exact h7) (hJs _ _ _ _ h5 h4.lt (Nat.le_refl _) fun g hg hor=>GH.get_put_ne _ _ fun hc=>?_)
 subst hc
 rcases hor with h|h
 ·exact h2 h
 ·omega
theorem aqg {X:Cx} (hT:TabOk X.P X.T) (hmix:X.P.follows .mixedOrders=true) (hro:X.ro=none) {g:Operand} {p:Tmp} {avs bd:Code} {Q:VQ} {ρ:Rho} {m:List Nat} {H:GH} (hx:xOk g=true) {gf:FuncId} {first captured:Array Value} (hg:rv X.n ρ g=.func (.func gf) first captured) (f:FuncId)
  (hb1:cg X.T X.plans avs=true) (hb2:cg X.T X.plans bd=true) {α:Type} {xs:List α} {argR:GH→Value→α→Prop} (hargR:∀H v x l o o',argR H v x→H.get l=some o→o.isArr=false→argR (H.put l o') v x) (hargS:∀H H' v x,argR H v x→Sub H H'→argR H' v x) {PV Priv:Nat→Prop} (hit:aqo X.P gf first captured H xs argR PV Priv)
  (J:Nat→GH→(Nat→Prop)→Prop) (hJs:∀k,xe H.next PV (J k)) (O:Nat→Prop) (hO:∀g,O g→g<H.next) (hOP:∀g,O g→¬Priv g) (hP:∀g,Priv g→g<H.next) (hPV:∀g,PV g→g<H.next) (hJ0:J 0 H O)
  (has:∀l Hk v,wpC ⟨X.P,X.T,X.plans,X.n,some l⟩ avs (fun x ρ1 m1 H1=>x=.normal∧m1= []∧H1=Hk∧ρ1=upd ρ p v) (upd ρ p v) [] Hk)
  (body:∀k (hk:k<xs.length) Hk Ok v l d gt,J k Hk Ok→FrmW PV O Ok H Hk→argR Hk v xs[k]→(∀b,kf v=some b→¬Ok b)→H.next≤l→l<Hk.next→¬Ok l→Hk.get l=some (dp f #[p] avs bd d .busy none gt)→wpC ⟨X.P,X.T,X.plans,X.n,some l⟩ bd (goQ Hk Ok (J (k+1))) (upd ρ p v) [] Hk)
  (hn:∀H' O' mk,FrmW PV O O' H H'→H.next≤mk→mk<H'.next→¬O' mk→H'.get mk=some (.marks true)→J xs.length H' O'→Q .normal ρ (mk::m) H'):wpC X (.rangeFunc g #[p] avs bd) Q ρ m H:=
 z8 hT hmix hro hx hg f hb1 hb2 hargR hargS hit J hJs O hO hOP hP hPV hJ0 (fun _ _ v ρ1=>ρ1=upd ρ p v) (fun _ _ _ _ _ _ _ h _ _ _=>h)
  (fun k _ l Hk v _=>p8 (has l Hk v) fun x ρ1 m1 H1 ⟨a,b,c,d⟩=>⟨a,b,by rw [c]; exact .refl _,d⟩)
  (fun k hk H0 Hk Ok v l d gt ρ1 h1 _ _ _ h2 h3 h4 h5 h6 h7 h8 h9=>by rw [h1]; exact body k hk Hk Ok v l d gt h2 h3 h4 h5 h6 h7 h8 h9) hn
end
end Go.Gm
end
section
namespace Go.Gm.Tryz
open Go.Proofs
structure Torn where
 loc:SLoc
 event:Int
 options:List Ev
instance:Inhabited Torn:=⟨⟨⟨none,0⟩,0,[]⟩⟩
@[simp] def bkv (t:Torn):List Value:= [vi t.event,.slice t.loc.a t.options.length t.loc.fl]
structure TornIn (H:GH) (a:Option Addr) (l:List Torn):Prop where
 e:Elems H a 2 bkv l
 o:∀t∈l,Elems H t.loc.a 8 jb t.options
theorem TornIn.mono {H H':GH} {a:Option Addr} {l:List Torn} (h:TornIn H a l) (hs:Sub H H'):TornIn H' a l:=⟨h.e.mono hs,fun t ht=>(h.o t ht).mono hs⟩
def tAt (l:List Torn) (i:Nat):Torn:=l.getD i default
def pa (b:Book) (l:List Torn) (i:Nat):Bool:=
 !inI (tAt l i).event 0 (IntKind.i64.wrap (b.events.length - 1))||(decide (0<i)&&decide ((tAt l i).event≤(tAt l (i - 1)).event))|| !inI (tAt l i).options.length 1 4||(tAt l i).options.any (fun e=> !bv b e)
def iw (b:Book) (l:List Torn):Bool:=(List.range l.length).all (fun i=> !pa b l i)&&decide (l.length≤3)
theorem aes (l:BLoc) (b:Book) (e:Ev) (g:Nat) (H:GH) (hl:g<H.next) (hg:H.get g=some (.arr { cells:=bq l b,ty:=28 })):C 160 [evV e,.pointer (some (ga g 0 0))] H (.bool (!bv b e)) H:=by
 refine au tok mix asg (F:=a4q) (c:=_) rfl (n:=8) rfl (rs:= [.tmp 3]) rfl (ac rfl) ?_
 simp (disch:=omega) [hg]
 with_reducible refine (aan l b _ _).go ?_
 simp
theorem sc (l:BLoc) (b:Book) (t:List Torn) (ht:t.length≤1000) (a:Option Addr) (fl:Nat) (H:GH) (hT:TornIn H a t):C 104 [dl l b,.slice a t.length fl] H (.bool (iw b t)) H:=by
 rcases l with ⟨⟨⟨ra,rf⟩⟩,⟨oa,of'⟩,⟨va,vf⟩⟩
 refine au tok mix arc (F:=axc) (c:=_) rfl (n:=52) rfl (rs:= [.tmp 4]) rfl (ac rfl) ?_
 simp
 generalize hH1:H.push _=H1
 have hs1:Sub H H1:=by subst hH1; simp
 have hg1:H1.get H.next=some (.arr { cells:=bq ⟨⟨⟨ra,rf⟩⟩,⟨oa,of'⟩,⟨va,vf⟩⟩ b,ty:=28 }):=by subst hH1; simp
 have hn1:H.next<H1.next:=by subst hH1; simp
 have hT1:=hT.mono hs1
 clear hH1
 refine cv tok mix (by kernel_rfl) t.length (fun i ρ m H'=>ρ 1=.slice a t.length fl∧ρ 2=.pointer (some (ga H.next 0 0))∧ρ 7=.slice a t.length fl∧ρ 8=vi t.length∧ρ 9=vi i∧m= []∧Sub H1 H'∧∀j,j<i→pa b t j=false) (i0:=0) (by omega) (by simp) ?_
 rintro i ρ m H' hi ⟨e1,e2,e7,e8,e9,rfl,hs,hj⟩
 have hg:=hs.2 H.next hn1
 rw [hg1] at hg
 have hn:H.next<H'.next:=by have:=hs.1; omega
 simp [e8,e9]
 refine ba (fun hlt=>?_) (fun hge=>?_)
 case refine_2=>
  simp [e1]
  have h8:(List.range t.length).all (fun i=> !pa b t i)=true:=by
   rw [List.all_eq_true]
   intro j hjm
   rw [hj j (by have:=List.mem_range.1 hjm; omega)]; rfl
  simp [iw,h8]
  refine ⟨by omega,hs1.trans hs⟩
 have hTi:=hT1.mono hs
 obtain ⟨c,rfl,hcl,hrd⟩:=hTi.e.at i hlt
 have ea:tAt t i=t[i]:=bc hlt
 have hop:=hTi.o _ (List.getElem_mem hlt)
 have hfalse:pa b t i=true→iw b t=false:=fun h=>by
  have:(List.range t.length).all (fun i=> !pa b t i)=false:=by
   rw [List.all_eq_false]
   exact ⟨i,List.mem_range.2 hlt,by simp [h]⟩
  simp [iw,this]
 have hbad:pa b t i=(!inI t[i].event 0 (IntKind.i64.wrap (b.events.length - 1))||(decide (0<i)&&decide (t[i].event≤(tAt t (i - 1)).event))|| !inI t[i].options.length 1 4||t[i].options.any (fun e=> !bv b e)):=by
  unfold pa; rw [ea]
 simp (disch:=omega) [e2,e7,e9,hlt,hrd,hg]
 have q1:¬H.next=H'.next:=by omega
 with_reducible refine (lp _ _ _ _).go ?_
 have hret:Sub H ((H'.push (.arr { cells:= [vi 0,.slice none 0 0],ty:=88 })).put H'.next (.arr { cells:= [vi t[i].event,.slice t[i].loc.a t[i].options.length t[i].loc.fl],ty:=88 })):=hs1.trans ((hs.push _).put hs.1 _)
 cases c1:inI t[i].event 0 (IntKind.i64.wrap (b.events.length - 1)) with
 |false=>
  simp (disch:=omega) [hfalse (by rw [hbad,c1]; simp),hret]
 |true=>
  simp (disch:=omega)
  refine bi (fun h6=>?_) (fun h6=>?_)<;>(try simp only [decide_eq_true_eq,decide_eq_false_iff_not] at h6)
  ·have hi0:0<i:=by omega
   obtain ⟨c',hc',_,hrd'⟩:=hTi.e.at (i - 1) (by omega)
   cases hc'
   have e9':((i:Int) - 1).toNat=i - 1:=by omega
   have ep:tAt t (i - 1)=t[i - 1]:=bc (by omega)
   simp (disch:=omega) [e1,h6,aj,e9',hrd']
   by_cases h5:t[i].event≤t[i - 1].event
   ·simp (disch:=omega) [h5,hfalse (by rw [hbad,c1,ep]; simp [hi0,h5]),hret]
   ·have h7:(decide (0<i)&&decide (t[i].event≤(tAt t (i - 1)).event))=false:=by rw [ep]; simp; omega
    simp (disch:=omega) [h5]
    with_reducible refine (lp _ _ _ _).go ?_
    cases c2:inI t[i].options.length 1 4 with
    |false=>
     simp (disch:=omega) [hfalse (by rw [hbad,c1,c2]; simp),hret]
    |true=>
     simp (disch:=omega) [e2]
     have hsx:Sub H' ((H'.push (.arr { cells:= [vi 0,.slice none 0 0],ty:=88 })).put H'.next (.arr { cells:= [vi t[i].event,.slice t[i].loc.a t[i].options.length t[i].loc.fl],ty:=88 })):=(Sub.push (.refl H') _).put (Nat.le_refl _) _
     refine (aeq t[i].options (by simp [inI] at c2; omega) _ _ _ #[.pointer (some (ga H.next 0 0))] (fun e=> !bv b e) _ (hop.mono hsx) (fun k hk=>aes ⟨⟨⟨ra,rf⟩⟩,⟨oa,of'⟩,⟨va,vf⟩⟩ b _ _ _ (by simp; omega) ((hsx.2 _ hn).trans hg))).go ?_
     cases c3:t[i].options.any (fun e=> !bv b e) with
     |true=>
      simp (disch:=omega) [hfalse (by rw [hbad,c1,c2,c3]; simp),hret]
     |false=>
      simp (disch:=omega) [e1,e2,e7,e8,e9,aj]
      refine ⟨(hs.push _).put hs.1 _,fun j hji=>?_⟩
      by_cases hc:j=i
      ·subst hc; rw [hbad,c1,c2,c3,h7]; rfl
      ·exact hj j (by omega)
  ·have h7:(decide (0<i)&&decide (t[i].event≤(tAt t (i - 1)).event))=false:=by simp; omega
   simp (disch:=omega) [h6]
   with_reducible refine (lp _ _ _ _).go ?_
   cases c2:inI t[i].options.length 1 4 with
   |false=>
    simp (disch:=omega) [hfalse (by rw [hbad,c1,c2]; simp),hret]
   |true=>
    simp (disch:=omega) [e2]
    have hsx:Sub H' ((H'.push (.arr { cells:= [vi 0,.slice none 0 0],ty:=88 })).put H'.next (.arr { cells:= [vi t[i].event,.slice t[i].loc.a t[i].options.length t[i].loc.fl],ty:=88 })):=(Sub.push (.refl H') _).put (Nat.le_refl _) _
    refine (aeq t[i].options (by simp [inI] at c2; omega) _ _ _ #[.pointer (some (ga H.next 0 0))] (fun e=> !bv b e) _ (hop.mono hsx) (fun k hk=>aes ⟨⟨⟨ra,rf⟩⟩,⟨oa,of'⟩,⟨va,vf⟩⟩ b _ _ _ (by simp; omega) ((hsx.2 _ hn).trans hg))).go ?_
    cases c3:t[i].options.any (fun e=> !bv b e) with
    |true=>
     simp (disch:=omega) [hfalse (by rw [hbad,c1,c2,c3]; simp),hret]
    |false=>
     simp (disch:=omega) [e1,e2,e7,e8,e9,aj]
     refine ⟨(hs.push _).put hs.1 _,fun j hji=>?_⟩
     by_cases hc:j=i
     ·subst hc; rw [hbad,c1,c2,c3,h7]; rfl
     ·exact hj j (by omega)
end Go.Gm.Tryz
end
section
namespace Go.Gm.Tryz
open Go.Proofs
def yv (x:Book):Bool:=aq x&&(dw x).isNone
def bz (b:Book):List Torn→List Int→List Ev→List (List Int×Book)
 | [],now,ev=>if yv { b with events:=ev } then [(now,{ b with events:=ev })] else []
 |t::ts,now,ev=>(List.range t.options.length).flatMap fun (k:Nat)=>bz b ts (now++ [(k:Int)]) (ev.set t.event.toNat (t.options.getD k default))
def di (b:Book) (t:List Torn):List (List Int×Book):=bz b t [] b.events
@[simp,reducible] def aaj (lb:BLoc) (ae:Option Addr) (ef:Nat):BLoc:=⟨lb.t,lb.owners,⟨ae,ef⟩⟩
def wv (N:Nat) (lb:BLoc) (H:GH) (v:Value) (p:List Int×Book):Prop:=
 ∃a fl ae ef,v=.agg (.slice a p.1.length fl::bq (aaj lb ae ef) p.2).toArray∧Elems H a 1 ca p.1∧BookIn H (aaj lb ae ef) p.2∧(∀c,a=some c→N≤c.block)∧∀c,ae=some c→N≤c.block
def mq (H:GH) (M:Nat) (v:Value) (now:List Int):Prop:=
 (now= []∧v=.slice none 0 0)∨∃g ver szs post,M≤g∧g<H.next∧v=.slice (some (ga g 0 ver)) now.length 1∧H.get g=some (.arr ⟨now.map vi++post,3,ver,szs,false⟩)
theorem mq.frame {H H':GH} {M:Nat} {v:Value} {now:List Int} (h:mq H M v now) (hn:H.next≤H'.next) (hk:∀g,kf v=some g→H'.get g=H.get g):mq H' M v now:=by
 rcases h with h|⟨g,ver,szs,post,h1,h2,rfl,h3⟩
 ·exact .inl h
 ·exact .inr ⟨g,ver,szs,post,h1,by omega,rfl,by rw [hk g (by simp)]; exact h3⟩
theorem mq.blk {H:GH} {M:Nat} {v:Value} {now:List Int} (h:mq H M v now) {g:Nat} (hg:kf v=some g):M≤g∧g<H.next∧∃A,H.get g=some (.arr A)∧A.ty=3:=by
 rcases h with ⟨_,rfl⟩|⟨g',ver,szs,post,h1,h2,rfl,h3⟩
 ·simp at hg
 ·simp at hg; subst hg; exact ⟨h1,h2,_,h3,rfl⟩
theorem aor (l:List Int):l.flatMap ca=l.map vi:=by
 induction l with
 |nil=>rfl
 |cons x l ih=>simp; exact ih
theorem mq.elems {H:GH} {M:Nat} {v:Value} {now:List Int} (h:mq H M v now):∃a fl,v=.slice a now.length fl∧Elems H a 1 ca now:=by
 rcases h with ⟨rfl,rfl⟩|⟨g,ver,szs,post,h1,h2,rfl,h3⟩
 ·exact ⟨none,0,rfl,⟨fun _=>rfl,(fun b hb=>by cases hb),fun _=>rfl⟩⟩
 ·refine ⟨_,_,rfl,⟨fun _=>rfl,fun b hb=>?_,fun hc=>by cases hc⟩⟩
  cases hb
  refine ⟨h2,?_⟩
  simp [GH.read,ga,h3,GArr.rd,aor]
theorem mq.app {H:GH} {M:Nat} {v:Value} {now:List Int} (h:mq H M v now) (hM:M≤H.next) (k:Int):
  ∃v' H',gv H 3 1 v 1 [vi k]=some (v',H')∧mq H' M v' (now++ [k])∧H.next≤H'.next∧(∀g,g<H.next→kf v≠some g→H'.get g=H.get g)∧∀g,kf v'=some g→kf v=some g∨H.next≤g:=by
 rcases h with ⟨rfl,rfl⟩|⟨g,ver,szs,post,h1,h2,rfl,h3⟩
 ·refine ⟨.slice (some (ga H.next 0 0)) 1 1,H.push (.arr { cells:= [vi k],ty:=3 }),by simp [gv],.inr ⟨H.next,0,[],[],hM,by simp,by simp,by simp⟩,by simp,fun g hg _=>GH.get_push_lt _ _ hg,fun g hg=>.inr (by simp at hg; omega)⟩
 ·obtain ⟨sz',hsz⟩:∃sz',sz'=(if post= [] then (now.length+post.length)::szs else []):=⟨_,rfl⟩
  refine ⟨.slice (some (ga g 0 (ver+1))) (now.length+1) 1,H.put g (.arr { cells:=now.map vi++ [vi k],ty:=3,ver:=ver+1,sz:=sz' }),?_,
   .inr ⟨g,ver+1,sz',[],h1,by simpa using h2,by simp,by simp⟩,by simp,fun k hk hb=>GH.get_put_ne _ _ (by intro hc; subst hc; simp at hb),fun k hk=>.inl (by simpa using hk)⟩
  simp [gv,ga,h3,hsz]
theorem mq.cut {H:GH} {M:Nat} {a:Option Addr} {n fl:Nat} {now:List Int} {k:Int} (h:mq H M (.slice a n fl) (now++ [k])):n=now.length+1∧(∃b,a=some b)∧fl=1∧mq H M (.slice a now.length fl) now:=by
 rcases h with ⟨h,_⟩|⟨g,ver,szs,post,h1,h2,h,h3⟩
 ·simp at h
 ·cases h
  exact ⟨by simp,⟨_,rfl⟩,rfl,.inr ⟨g,ver,szs,vi k::post,h1,h2,rfl,by rw [h3]; simp⟩⟩
structure EvEq (ts:List Torn) (x y:List Ev):Prop where
 len:x.length=y.length
 at_:∀i,(∀t∈ts,t.event.toNat≠i)→x[i]?=y[i]?
theorem EvEq.refl (ts:List Torn) (x:List Ev):EvEq ts x x:=⟨rfl,fun _ _=>rfl⟩
theorem EvEq.nil {x y:List Ev} (h:EvEq [] x y):x=y:=List.ext_getElem? fun i=>h.at_ i (fun _ ht=>by cases ht)
theorem EvEq.set {t:Torn} {ts:List Torn} {x y:List Ev} (h:EvEq (t::ts) x y) (e:Ev):EvEq ts (x.set t.event.toNat e) (y.set t.event.toNat e):=by
 refine ⟨by simp [h.len],fun i hi=>?_⟩
 rw [List.getElem?_set,List.getElem?_set,h.len]
 by_cases hc:t.event.toNat=i
 ·simp [hc]
 ·rw [if_neg hc,if_neg hc]
  exact h.at_ i fun t' ht'=>by
   rcases List.mem_cons.1 ht' with rfl|h'
   ·exact hc
   ·exact hi _ h'
theorem EvEq.unset {t:Torn} {ts:List Torn} {x y:List Ev} {e:Ev} (h:EvEq ts x (y.set t.event.toNat e)):EvEq (t::ts) x y:=by
 refine ⟨by simpa using h.len,fun i hi=>?_⟩
 rw [h.at_ i fun t' ht'=>hi t' (List.mem_cons_of_mem _ ht'),List.getElem?_set,if_neg (hi t (List.mem_cons_self ..))]
structure Mine (M gb:Nat) (O:Nat→Prop) (H H':GH):Prop where
 next:H.next≤H'.next
 keep:∀g,g<H.next→(O g∨(g<M∧g≠gb))→H'.get g=H.get g
theorem Mine.trans {M gb:Nat} {O:Nat→Prop} {H H1 H2:GH} (a:Mine M gb O H H1) (b:Mine M gb O H1 H2):Mine M gb O H H2:=
 ⟨Nat.le_trans a.next b.next,fun g hg h=>(b.keep g (Nat.lt_of_lt_of_le hg a.next) h).trans (a.keep g hg h)⟩
theorem Mine.of_sub {M gb:Nat} {O:Nat→Prop} {H H':GH} (h:Sub H H'):Mine M gb O H H':=⟨h.1,fun g hg _=>h.2 g hg⟩
theorem Mine.put {M gb:Nat} {O:Nat→Prop} {H:GH} {g:Nat} (o:GObj) (h1:¬O g) (h2:M≤g∨g=gb):Mine M gb O H (H.put g o):=
 ⟨Nat.le_refl _,fun k _ h=>GH.get_put_ne _ _ fun hc=>by subst hc; rcases h with h|h; exact h1 h; omega⟩
structure Ctx (M gb:Nat) (lb:BLoc) (b:Book) (ta:Option Addr) (t:List Torn) (H:GH) (O:Nat→Prop):Prop where
 tb:gc H lb.t b.tbl
 ow:Elems H lb.owners.a 1 ca b.owners
 to:TornIn H ta t
 btb:∀a,lb.t.rows.a=some a→a.block<M∧a.block≠gb∧¬O a.block
 bow:∀a,lb.owners.a=some a→a.block<M∧a.block≠gb∧¬O a.block
 bta:∀a,ta=some a→a.block<M∧a.block≠gb∧¬O a.block
 bop:∀x∈t,∀a,x.loc.a=some a→a.block<M∧a.block≠gb∧¬O a.block
theorem Elems.keepX {α:Type} {H H':GH} {a:Option Addr} {sz:Nat} {enc:α→List Value} {l:List α} (e:Elems H a sz enc l) (hn:H.next≤H'.next) (h:∀b,a=some b→H'.get b.block=H.get b.block):Elems H' a sz enc l:=by
 refine ⟨e.len,fun b hb=>?_,e.nil⟩
 obtain ⟨h1,h2⟩:=e.ok b hb
 refine ⟨Nat.lt_of_lt_of_le h1 hn,?_⟩
 rw [←h2]
 simp only [GH.read,h b hb]
section
variable {M gb:Nat} {lb:BLoc} {b:Book} {ta:Option Addr} {t:List Torn} {H H':GH} {O O':Nat→Prop}
theorem Ctx.mine (h:Ctx M gb lb b ta t H O) (k:Mine M gb O H H'):Ctx M gb lb b ta t H' O:=by
 have kk:∀ {α:Type} {sz:Nat} {enc:α→List Value} {l:List α} {a:Option Addr},Elems H a sz enc l→(∀c,a=some c→c.block<M∧c.block≠gb∧¬O c.block)→Elems H' a sz enc l:=fun e hb=>
  Elems.keepX e k.next fun c hc=>k.keep _ (e.ok c hc).1 (.inr ⟨(hb c hc).1,(hb c hc).2.1⟩)
 exact ⟨kk h.tb h.btb,kk h.ow h.bow,⟨kk h.to.e h.bta,fun x hx=>kk (h.to.o x hx) (h.bop x hx)⟩,h.btb,h.bow,h.bta,h.bop⟩
theorem Ctx.frm (h:Ctx M gb lb b ta t H O) (k:Frm O O' H H') (hM:M≤H.next):Ctx M gb lb b ta t H' O':=by
 have kk:∀ {α:Type} {sz:Nat} {enc:α→List Value} {l:List α} {a:Option Addr},Elems H a sz enc l→(∀c,a=some c→c.block<M∧c.block≠gb∧¬O c.block)→Elems H' a sz enc l:=fun e hb=>
  Elems.keepX e k.next fun c hc=>k.keep _ (e.ok c hc).1 (hb c hc).2.2
 have no:∀ {g:Nat},g<M∧g≠gb∧¬O g→g<M∧g≠gb∧¬O' g:=fun ⟨a,b,c⟩=>⟨a,b,k.not (by omega) c⟩
 exact ⟨kk h.tb h.btb,kk h.ow h.bow,⟨kk h.to.e h.bta,fun x hx=>kk (h.to.o x hx) (h.bop x hx)⟩,fun a ha=>no (h.btb a ha),fun a ha=>no (h.bow a ha),fun a ha=>no (h.bta a ha),fun x hx a ha=>no (h.bop x hx a ha)⟩
end
structure Bxs where
 n:Nat
 t:Nat
 b:Nat
 y:Nat
 p:Nat
@[simp,reducible] def auy (g:Bxs):Value:=.func (.func 163) #[] #[.pointer (some (ga g.n 0 0)),.pointer (some (ga g.t 0 0)),.pointer (some (ga g.b 0 0)),.pointer (some (ga g.y 0 0)),.pointer (some (ga g.p 0 0))]
structure PlaceH (l:Nat) (g:Bxs) (M:Nat) (lb:BLoc) (b:Book) (ta:Option Addr) (tf:Nat) (t:List Torn) (now:List Int) (ev:List Ev) (H:GH) (O:Nat→Prop):Prop where
 y:H.get g.y=some (.arr { cells:= [.func (.yield l) #[] #[]],ty:=197 })
 t:H.get g.t=some (.arr { cells:= [.slice ta t.length tf],ty:=72 })
 p:H.get g.p=some (.arr { cells:= [auy g],ty:=30 })
 n:∃vn,H.get g.n=some (.arr { cells:= [vn],ty:=25 })∧mq H M vn now∧∀k,kf vn=some k→¬O k
 b:∃ae ef,H.get g.b=some (.arr { cells:=bq (aaj lb ae ef) { b with events:=ev },ty:=28 })∧bg H M (.slice ae ev.length ef) 57 8 jb ev∧∀k,ak (.slice ae ev.length ef)=some k→¬O k
 lt:g.n<H.next∧g.t<H.next∧g.b<H.next∧g.y<H.next∧g.p<H.next
 no:¬O g.n∧¬O g.t∧¬O g.b∧¬O g.y∧¬O g.p
 nM:M≤g.n
section
variable {l:Nat} {g:Bxs} {M:Nat} {lb:BLoc} {b:Book} {ta:Option Addr} {tf:Nat} {t:List Torn} {now:List Int} {ev:List Ev} {H H':GH} {O O':Nat→Prop}
theorem PlaceH.frm (h:PlaceH l g M lb b ta tf t now ev H O) (k:Frm O O' H H'):PlaceH l g M lb b ta tf t now ev H' O':=by
 obtain ⟨l1,l2,l3,l4,l5⟩:=h.lt
 obtain ⟨n1,n2,n3,n4,n5⟩:=h.no
 have hn:=k.next
 obtain ⟨vn,b1,b2,b3⟩:=h.n
 obtain ⟨ae,ef,c1,c2,c3⟩:=h.b
 refine ⟨(k.keep _ l4 n4).trans h.y,(k.keep _ l2 n2).trans h.t,(k.keep _ l5 n5).trans h.p,⟨vn,(k.keep _ l1 n1).trans b1,b2.frame hn fun j hj=>k.keep j (b2.blk hj).2.1 (b3 j hj),fun j hj=>k.not (b2.blk hj).2.1 (b3 j hj)⟩,
  ⟨ae,ef,(k.keep _ l3 n3).trans c1,c2.frame hn fun j hj=>k.keep j (c2.blk_lt hj).2 (c3 j hj),fun j hj=>k.not (c2.blk_lt hj).2 (c3 j hj)⟩,by omega,⟨k.not l1 n1,k.not l2 n2,k.not l3 n3,k.not l4 n4,k.not l5 n5⟩,h.nM⟩
theorem PlaceH.sub (h:PlaceH l g M lb b ta tf t now ev H O) (hO:∀g,O g→g<H.next) (k:Sub H H'):PlaceH l g M lb b ta tf t now ev H' O:=h.frm (Frm.of_sub hO k)
end
structure FrT (gn gb:Nat) (O O':Nat→Prop) (H H':GH):Prop where
 next:H.next≤H'.next
 keep:∀g A,H.get g=some (.arr A)→A.ty≠3→A.ty≠57→g<H.next→¬O g→g≠gn→g≠gb→H'.get g=H.get g
 own:∀g,O' g→O g∨H.next≤g
 lt:∀g,O' g→g<H'.next
theorem FrT.of_frm {gn gb:Nat} {O O':Nat→Prop} {H H':GH} (h:Frm O O' H H'):FrT gn gb O O' H H':=⟨h.next,fun g _A _ _ _ hg ho _ _=>h.keep g hg ho,h.own,h.lt⟩
theorem FrT.trans {gn gb:Nat} {O0 O1 O2:Nat→Prop} {H0 H1 H2:GH} (a:FrT gn gb O0 O1 H0 H1) (b:FrT gn gb O1 O2 H1 H2):FrT gn gb O0 O2 H0 H2:=by
 refine ⟨Nat.le_trans a.next b.next,fun g A hA h1 h2 hg ho h3 h4=>?_,fun g hg=>?_,b.lt⟩
 ·have e:=a.keep g A hA h1 h2 hg ho h3 h4
  rw [b.keep g A (e.trans hA) h1 h2 (Nat.lt_of_lt_of_le hg a.next) (fun hc=>(a.own g hc).elim ho (by omega)) h3 h4,e]
 ·rcases b.own g hg with h|h
  ·exact a.own g h
  ·exact .inr (Nat.le_trans a.next h)
end Go.Gm.Tryz
end
section
namespace Go.Gm.Tryz
open Go.Proofs
theorem acb (l:List Ev) (hl:l.length≤1000) (a:Option Addr) (fl:Nat) (H:GH) (hr:Elems H a 8 jb l):ay Tryz.prog 162 [.slice a l.length fl] H (fun x H'=>∃v,x=.ret v∧Sub H H'∧bg H' H.next v 57 8 jb l):=by
 refine an tok mix asi (F:=a4s) (c:=_) rfl (n:=8) rfl (rs:= [.tmp 2]) rfl ?_
 simp
 cases a with
 |none=>
  have:=hr.nil rfl
  subst this
  simp [bg.nil]
 |some b=>
  obtain ⟨hb,hrd⟩:=hr.ok b rfl
  simp (disch:=omega)
  have h1:(H.push (.arr { cells:= [],ty:=57 })).read b (l.length*8)=some (l.flatMap jb):=by rw [zs _ _ _ hb]; exact hrd
  have h0:bg (H.push (.arr { cells:= [],ty:=57 })) H.next (.slice (some (ga H.next 0 0)) 0 8) 57 8 jb []:=bg.mk (l:= []) (by decide) (Nat.le_refl _) (by simp) (ver:=0) (szs:= []) (by simp)
  obtain ⟨v',H',happ,hown,hnx,hfr,_⟩:=h0.apps (by simp) (by simp) (by decide) l (by simp)
  have c8:64*l.length≤1000000:=by omega
  have c9:l.length≤1000000:=by omega
  simp (disch:=omega) [h1,happ,c8,c9]
  refine ⟨⟨by simp at hnx; omega,fun g hg=>?_⟩,by simpa using hown⟩
  rw [hfr g (by simp; omega) (by simp; omega),GH.get_push_lt _ _ hg]
theorem amw {H:GH} {l:BLoc} {b:Book} (hb:BookIn H l b) (hB:BookOk b) {g0:Nat} (_l0:g0<H.next) (k0:H.get g0=some (.arr { cells:=bq l b,ty:=28 })):
  ay Tryz.prog 164 [.pointer (some (ga g0 0 0))] H fun x H'=>Sub H H'∧match dw b with|none=>∃v,x=.ret v|some n=>x=.pan (.iface 175 (.agg #[vi n])):=by
 rcases l with ⟨⟨⟨ra,rf⟩⟩,⟨oa,of'⟩,⟨va',vf'⟩⟩
 simp only [bq] at k0
 refine an tok mix asj (F:=a4t) (c:=_) rfl (n:=3) rfl (rs:= []) rfl ?_
 simp (disch:=omega) [k0]
 refine (adr hb hB 36500).mono ?_
 rintro x H1 ⟨n1,s1,hu⟩
 unfold dw
 cases hup:upS b 36500 with
 |inl n=>
  rw [hup] at hu; subst hu
  simp
  exact ⟨n1,s1⟩
 |inr s0=>
  rw [hup] at hu
  obtain ⟨_,sg0,_,_,_,rfl,_,_⟩:=hu
  simp
  exact ⟨n1,s1⟩
structure TornOk (b:Book) (t:List Torn):Prop where
 len:t.length≤3
 ev:∀x∈t,0≤x.event∧x.event<b.events.length
 op:∀x∈t,x.options.length≤4
section
variable {l:Nat} {g:Bxs} {M:Nat} {lb:BLoc} {b:Book} {ta:Option Addr} {tf:Nat} {t:List Torn}
theorem alz {xs:List (List Int×Book)} {Inv:Nat→GH→(Nat→Prop)→Prop} {N0:Nat} (hY:od Tryz.prog l xs (wv N0 lb) Inv (fun _ _=>False)) (hSt:∀k,xe M (fun x=>x=g.b) (Inv k)) (hN0:N0≤M) (hB:b.events.length≤12) (hT:TornOk b t)
  {now:List Int} (hnow:now.length=t.length) {ev:List Ev} (hev:ev.length=b.events.length) {k:Nat} {rest:List (List Int×Book)} (hx:xs.drop k=bz b [] now ev++rest) {H:GH} {O:Nat→Prop} (hI:Inv k H O) (hO:∀g,O g→g<H.next) (hM:M≤H.next)
  (hC:Ctx M g.b lb b ta t H O) (hP:PlaceH l g M lb b ta tf t now ev H O):
  ay Tryz.prog 163 [.pointer (some (ga g.n 0 0)),.pointer (some (ga g.t 0 0)),.pointer (some (ga g.b 0 0)),.pointer (some (ga g.y 0 0)),.pointer (some (ga g.p 0 0))] H fun x H'=>∃O',x=.ret (.bool true)∧Frm O O' H H'∧Inv (k+(bz b [] now ev).length) H' O':=by
 obtain ⟨l1,l2,l3,l4,l5⟩:=hP.lt
 obtain ⟨n1,n2,n3,n4,n5⟩:=hP.no
 obtain ⟨vn,b1,b2,b3⟩:=hP.n
 obtain ⟨ae,ef,c1,c2,c3⟩:=hP.b
 obtain ⟨na,nf,rfl,hna⟩:=b2.elems
 have hty:=hP.t
 have hyy:=hP.y
 have e16:(now.length:Int)=t.length:=by omega
 refine an tok mix ak6 (F:=atx) (c:=_) rfl (n:=70) rfl (rs:= [.tmp 5]) rfl ?_
 simp (disch:=omega) [b1,hty,e16,c1]
 generalize hH1:GH.put (GH.push H _) _ _=H1
 have hs1:Sub H H1:=by subst hH1; exact (Sub.push (.refl H) _).put (Nat.le_refl _) _
 have kx:H1.get H.next=some (.arr { cells:=bq (aaj lb ae ef) { b with events:=ev },ty:=28 }):=by subst hH1; simp
 have hn1:H1.next=H.next+1:=by subst hH1; simp
 clear hH1
 have c1':=(hs1.2 _ l3).trans c1
 have hEv:=(c2.elems' (fun _=>rfl)).mono hs1
 refine (acb ev (by omega) ae ef H1 hEv).mono ?_
 rintro x H2 ⟨v2,rfl,hs2,ho2⟩
 obtain ⟨a2,f2,rfl,hE2⟩:=ho2.elems (fun _=>rfl)
 have kx2:=(hs2.2 _ (by omega)).trans kx
 have hn2:=hs2.1
 simp (disch:=omega) [kx2]
 generalize hH3:GH.put H2 _ _=H3
 have hs3:Sub H H3:=by subst hH3; exact (hs1.trans hs2).put (Nat.le_refl _) _
 have hs23:∀j,j≠H.next→H3.get j=H2.get j:=by subst hH3; exact fun j hj=>GH.get_put_ne _ _ hj
 have kx3:H3.get H.next=some (.arr { cells:=bq (aaj lb a2 f2) { b with events:=ev },ty:=28 }):=by subst hH3; simp
 have hn3:H3.next=H2.next:=by subst hH3; simp
 clear hH3
 have hC3:=hC.mine (Mine.of_sub hs3)
 have hE3:Elems H3 a2 8 jb ev:=Elems.keepX hE2 (by omega) fun c hc=>hs23 _ (by
  subst hc
  rcases ho2 with ⟨h,h'⟩|⟨g',ver,szs,pre,h0,h1',h2',h3',_⟩
  ·cases h'
  ·cases h3'; simp [ga]; omega)
 have hb3:BookIn H3 (aaj lb a2 f2) { b with events:=ev }:=⟨hC3.tb,hC3.ow,hE3⟩
 have hiB:=j7 (aaj lb a2 f2) { b with events:=ev } H3 hb3
 simp only [dl,bq] at hiB
 refine hiB.go ?_
 have hfr3:Frm O O H H3:=Frm.of_sub hO hs3
 have hI3:Inv k H3 O:=hSt k H H3 O hI hO hs3.1 fun j hj _=>hs3.2 j hj
 simp
 cases hisB:aq { b with events:=ev } with
 |false=>
  have hz:bz b [] now ev= []:=by simp [bz,yv,hisB]
  simp [hz]
  exact ⟨O,hfr3,hI3⟩
 |true=>
  simp (disch:=omega)
  refine (aae (res:=dw { b with events:=ev }) (fun H5 h5=>?_)).mono ?_
  ·exact amw (hb3.mono h5) (l8 hisB) (by have:=h5.1; omega) ((h5.2 _ (by omega)).trans kx3)
  rintro x H4 ⟨h4,rfl⟩
  have hs4:=hs3.trans h4
  have hI4:Inv k H4 O:=hSt k H H4 O hI hO hs4.1 fun j hj _=>hs4.2 j hj
  have hn4:=h4.1
  cases hw:dw { b with events:=ev } with
  |some n=>
   have hz:bz b [] now ev= []:=by simp [bz,yv,hisB,hw]
   simp [hz]
   exact ⟨O,Frm.of_sub hO hs4,hI4⟩
  |none=>
   have hz:bz b [] now ev= [(now,{ b with events:=ev })]:=by simp [bz,yv,hisB,hw]
   have y4:=(hs4.2 _ l4).trans hyy
   have m4:=(hs4.2 _ l1).trans b1
   have kx4:=(h4.2 _ (by omega)).trans kx3
   have hk:k<xs.length:=by
    have:=congrArg List.length hx
    rw [hz] at this
    simp at this; omega
   have hxk:xs[k]=(now,{ b with events:=ev }):=by
    have h0:xs[k]?=some (now,{ b with events:=ev }):=by have:=congrArg (fun l=>l[0]?) hx; rw [hz] at this; simpa using this
    rw [List.getElem?_eq_getElem hk] at h0
    exact Option.some.inj h0
   have hlen:=hT.len
   simp (disch:=omega) [y4,m4,kx4]
   refine (nk now (by omega) na nf H4 (hna.mono hs4)).mono ?_
   rintro x H5 ⟨v5,rfl,hs5,ho5⟩
   obtain ⟨a5,f5,rfl,hE5⟩:=ho5.elems (fun _=>rfl)
   have hn5:=hs5.1
   have y5:=(hs5.2 _ (by omega)).trans y4
   have kx5:=(hs5.2 _ (by omega)).trans kx4
   have m5:=(hs5.2 _ (by omega)).trans m4
   have hs6:=hs4.trans hs5
   have hI5:Inv k H5 O:=hSt k H H5 O hI hO hs6.1 fun j hj _=>hs6.2 j hj
   simp (disch:=omega) [y5,kx5]
   have ha5:∀c,a5=some c→N0≤c.block:=fun c hc=>by
    subst hc
    rcases ho5 with ⟨h,h'⟩|⟨g',ver,szs,pre,h0,h1',h2',h3',_⟩
    ·cases h'
    ·cases h3'; simp [ga]; have:=hs4.1; omega
   have ha2:∀c,a2=some c→N0≤c.block:=fun c hc=>by
    subst hc
    rcases ho2 with ⟨h,h'⟩|⟨g',ver,szs,pre,h0,h1',h2',h3',_⟩
    ·cases h'
    ·cases h3'; simp [ga]; omega
   refine (hY k hk H5 O _ hI5 ⟨a5,f5,a2,f2,by rw [hxk],by rw [hxk]; exact hE5,by rw [hxk]; exact hb3.mono (h4.trans hs5),ha5,ha2⟩ (fun c hc=>by simp [kf] at hc)).mono ?_
   rintro x H6 ⟨O6,hf6,⟨rfl,h⟩|⟨_,h⟩⟩
   ·simp [hz]
    exact ⟨O6,(Frm.of_sub hO hs6).trans hf6,h⟩
   ·exact h.elim
theorem apg {xs:List (List Int×Book)} {Inv:Nat→GH→(Nat→Prop)→Prop} {N0:Nat} (hY:od Tryz.prog l xs (wv N0 lb) Inv (fun _ _=>False)) (hSt:∀k,xe M (fun x=>x=g.b) (Inv k)) (hN0:N0≤M) (hB:b.events.length≤12) (hT:TornOk b t):
  ∀(ts pre:List Torn),t=pre++ts→∀(now:List Int),now.length=pre.length→∀(ev:List Ev),ev.length=b.events.length→∀(k:Nat) (rest:List (List Int×Book)),xs.drop k=bz b ts now ev++rest→
  ∀(H:GH) (O:Nat→Prop) (ev':List Ev),Inv k H O→(∀g,O g→g<H.next)→M≤H.next→Ctx M g.b lb b ta t H O→PlaceH l g M lb b ta tf t now ev' H O→EvEq ts ev' ev→
  ay Tryz.prog 163 [.pointer (some (ga g.n 0 0)),.pointer (some (ga g.t 0 0)),.pointer (some (ga g.b 0 0)),.pointer (some (ga g.y 0 0)),.pointer (some (ga g.p 0 0))] H fun x H'=>∃O' ev'',x=.ret (.bool true)∧FrT g.n g.b O O' H H'∧
   Inv (k+(bz b ts now ev).length) H' O'∧Ctx M g.b lb b ta t H' O'∧PlaceH l g M lb b ta tf t now ev'' H' O'∧EvEq ts ev'' ev:=by
 intro ts
 induction ts with
 |nil=>
  intro pre hpre now hnow ev hev k rest hx H O ev' hI hO hM hC hP hq
  have:=hq.nil
  subst this
  rw [List.append_nil] at hpre
  subst hpre
  refine (alz hY hSt hN0 hB hT hnow hev hx hI hO hM hC hP).mono ?_
  rintro x H' ⟨O',rfl,hf,hI'⟩
  exact ⟨O',ev',rfl,FrT.of_frm hf,hI',hC.frm hf hM,hP.frm hf,.refl _ _⟩
 |cons t1 ts ih=>
  intro pre hpre now hnow ev hev k rest hx H O ev' hI hO hM hC hP hq
  obtain ⟨l1,l2,l3,l4,l5⟩:=hP.lt
  obtain ⟨n1,n2,n3,n4,n5⟩:=hP.no
  obtain ⟨vn,b1,b2,b3⟩:=hP.n
  obtain ⟨na,nf,rfl,hna⟩:=b2.elems
  have hty:=hP.t
  have hlt:now.length<t.length:=by rw [hpre,hnow]; simp
  have hti:t[now.length]=t1:=by simp [hpre,hnow]
  have hne:¬(now.length:Int)=t.length:=by omega
  obtain ⟨c,rfl,hcl,hrd⟩:=hC.to.e.at now.length hlt
  have hmem:t1∈t:=by rw [hpre]; simp
  have hev1:=hT.ev t1 hmem
  have hop1:=hT.op t1 hmem
  refine an tok mix ak6 (F:=atx) (c:=_) rfl (n:=70) rfl (rs:= [.tmp 5]) rfl ?_
  rw [hti] at hrd
  simp (disch:=omega) [b1,hty,hne,hrd]
  generalize hH1:GH.put (GH.push H _) _ _=H1
  have hs1:Sub H H1:=by subst hH1; exact (Sub.push (.refl H) _).put (Nat.le_refl _) _
  have kt:H1.get H.next=some (.arr { cells:= [vi t1.event,.slice t1.loc.a t1.options.length t1.loc.fl],ty:=88 }):=by subst hH1; simp
  have hn1:H1.next=H.next+1:=by subst hH1; simp
  clear hH1
  have hO1:∀j,O j→j<H1.next:=fun j hj=>by have:=hO j hj; omega
  have hno:¬O H.next:=fun hc=>by have:=hO _ hc; omega
  have hI1:Inv k H1 O:=hSt k H H1 O hI hO hs1.1 fun j hj _=>hs1.2 j hj
  let body:Nat→List (List Int×Book):=fun (j:Nat)=>bz b ts (now++ [(j:Int)]) (ev.set t1.event.toNat (t1.options.getD j default))
  have htot:bz b (t1::ts) now ev=(List.range' 0 t1.options.length).flatMap body:=by
   rw [←List.range_eq_range']; rfl
  refine cv tok mix (by kernel_rfl) t1.options.length (fun i ρ m H2=>ρ 0=.pointer (some (ga g.n 0 0))∧ρ 1=.pointer (some (ga g.t 0 0))∧ρ 2=.pointer (some (ga g.b 0 0))∧ρ 3=.pointer (some (ga g.y 0 0))∧ρ 4=.pointer (some (ga g.p 0 0))∧ρ 9=.pointer (some (ga H.next 0 0))∧
   ρ 44=.slice t1.loc.a t1.options.length t1.loc.fl∧ρ 45=vi t1.options.length∧ρ 46=vi i∧m= []∧∃O2 ev2 k2,FrT g.n g.b O O2 H1 H2∧H2.get H.next=some (.arr { cells:= [vi t1.event,.slice t1.loc.a t1.options.length t1.loc.fl],ty:=88 })∧Inv k2 H2 O2∧Ctx M g.b lb b (some c) t H2 O2∧
   PlaceH l g M lb b (some c) tf t now ev2 H2 O2∧EvEq (t1::ts) ev2 ev∧xs.drop k2=((List.range' i (t1.options.length - i)).flatMap body)++rest∧k2+((List.range' i (t1.options.length - i)).flatMap body).length=k+(bz b (t1::ts) now ev).length) (i0:=0) (by omega)
   ⟨by simp,by simp,by simp,by simp,by simp,by simp,by simp,by simp,by simp,rfl,O,ev',k,FrT.of_frm (Frm.refl hO1),kt,hI1,hC.mine (Mine.of_sub hs1),hP.sub hO hs1,hq,by rw [hx,htot]; rfl,by rw [htot]; rfl⟩ ?_
  rintro i ρ m H2 hi ⟨e0,e1,e2,e3,e4,e9,e44,e45,e46,rfl,O2,ev2,k2,hf2,kt2,hI2,hC2,hP2,hq2,hx2,hc2⟩
  simp [e45,e46]
  have hn2:=hf2.next
  refine ba (fun hlt2=>?_) (fun hge=>?_)
  ·obtain ⟨co,hco,hcol,hrdo⟩:=(hC2.to.o t1 hmem).at i hlt2
   obtain ⟨l1,l2,l3,l4,l5⟩:=hP2.lt
   obtain ⟨n1,n2,n3,n4,n5⟩:=hP2.no
   obtain ⟨vn2,b1,b2,b3⟩:=hP2.n
   obtain ⟨na2,nf2,rfl,hna2⟩:=b2.elems
   obtain ⟨ae,ef,c1,c2,c3⟩:=hP2.b
   have hev2:ev2.length=b.events.length:=hq2.len.trans hev
   have hidx:t1.event.toNat<ev2.length:=by omega
   obtain ⟨ab,rfl,hab,hrb⟩:=(c2.elems' (fun _=>rfl)).at t1.event.toNat hidx
   have qq1:¬g.b=H2.next:=by omega
   have qq2:¬H.next=H2.next:=by omega
   have pp:=hP2.p
   simp (disch:=omega) [e2,e9,e44,e46,hlt2,hco,hrdo,c1,kt2]
   generalize hH3:GH.put (GH.push H2 _) _ _=H3
   have hs3:Sub H2 H3:=by subst hH3; exact (Sub.push (.refl H2) _).put (Nat.le_refl _) _
   have hn3:H3.next=H2.next+1:=by subst hH3; simp
   clear hH3
   have c23:=c2.sub hs3
   obtain ⟨H4,hw4,ho4,hn4,hs4⟩:=c23.wr (fun _=>rfl) (i:=t1.event.toNat) (k:=0) hidx (c:=vi t1.options[i].kind) (new:= [vi t1.options[i].day,vi t1.options[i].person,vi t1.options[i].other,vi t1.options[i].estate,vi t1.options[i].grant,vi t1.options[i].system,vi t1.options[i].units]) (by simp) (y:=t1.options[i]) (by simp [splice])
   have hbk:=c2.blk_some
   obtain ⟨A57,hA1,hA2⟩:=c2.blk_ty hbk
   have ne57:∀ {j:Nat} {cs:List Value} {ty:Nat},H2.get j=some (.arr { cells:=cs,ty:=ty })→ty≠57→j≠ab.block:=fun hj hty hc=>by
    rw [hc,hA1] at hj; cases hj; exact hty hA2
   have keep4:∀j,j<H2.next→j≠ab.block→H4.get j=H2.get j:=fun j hj hne=>(hs4 j hne).trans (hs3.2 j hj)
   have y4:=(keep4 _ l4 (ne57 hP2.y (by decide))).trans hP2.y
   have t4:=(keep4 _ l2 (ne57 hP2.t (by decide))).trans hP2.t
   have p4:=(keep4 _ l5 (ne57 pp (by decide))).trans pp
   have m4:=(keep4 _ l1 (ne57 b1 (by decide))).trans b1
   have kt4:=(keep4 _ (by omega) (ne57 kt2 (by decide))).trans kt2
   have g4:=(keep4 _ l3 (ne57 c1 (by decide))).trans c1
   have hM2:M≤H2.next:=by have:=hs1.1; omega
   have b24:mq H4 M (.slice na2 now.length nf2) now:=b2.frame (by omega) fun j hj=>keep4 j (b2.blk hj).2.1 fun hc=>by
    obtain ⟨_,_,A,k1,k2⟩:=b2.blk hj
    rw [hc,hA1] at k1; cases k1; rw [hA2] at k2; cases k2
   have b25:mq (H4.push (.arr { cells:= [vi i],ty:=3 })) M (.slice na2 now.length nf2) now:=b24.frame (by simp) fun j hj=>GH.get_push_lt _ _ (by have:=(b24.blk hj).2.1; omega)
   obtain ⟨v5,H5,happ,ho5,hnx5,hk5,hb5⟩:=b25.app (by simp; omega) (i:Int)
   simp only [GH.next_push] at hnx5 hk5 hb5
   have hlen3:=hT.len
   have c8:8*(1+now.length)≤1000000:=by omega
   have c9:1+now.length≤1000000:=by omega
   have blk3:∀j,kf (.slice na2 now.length nf2)=some j→∃A,H4.get j=some (.arr A)∧A.ty=3:=fun j hj=>(b24.blk hj).2.2
   have keep5:∀ {j:Nat} {cs:List Value} {ty:Nat},H4.get j=some (.arr { cells:=cs,ty:=ty })→j<H4.next→ty≠3→H5.get j=some (.arr { cells:=cs,ty:=ty }):=fun {j} _ _ hj hl hty=>by
    rw [hk5 j (by omega) fun hc=>by obtain ⟨A,h1,h2⟩:=blk3 j hc; rw [hj] at h1; cases h1; exact hty h2,GH.get_push_lt _ _ hl]; exact hj
   have y5:=keep5 y4 (by omega) (by decide)
   have t5:=keep5 t4 (by omega) (by decide)
   have p5:=keep5 p4 (by omega) (by decide)
   have m5:=keep5 m4 (by omega) (by decide)
   have kt5:=keep5 kt4 (by omega) (by decide)
   have g5:=keep5 g4 (by omega) (by decide)
   have pn:g.p≠g.n:=fun hc=>by rw [hc,b1] at pp; simp at pp
   have yn:g.y≠g.n:=fun hc=>by have:=hP2.y; rw [hc,b1] at this; simp at this
   have tn:g.t≠g.n:=fun hc=>by have:=hP2.t; rw [hc,b1] at this; simp at this
   have bn:g.b≠g.n:=fun hc=>by rw [hc,b1] at c1; simp at c1
   have ktn:H.next≠g.n:=by omega
   obtain ⟨a5,f5,rfl,hna5⟩:=ho5.elems
   simp (disch:=omega) [e0,e4,hw4,m4,happ,c8,c9,m5,p5]
   have hO2:=hf2.lt
   have old2:∀j,O2 j→j<H2.next:=hO2
   have blkn:∀j,kf (.slice a5 (now++ [(i:Int)]).length f5)=some j→j≠g.n:=fun j hj hc=>by
    obtain ⟨_,_,A,k1,k2⟩:=ho5.blk hj
    rw [hc,m5] at k1; cases k1; cases k2
   have m34:Mine M g.b O2 H3 H4:=⟨by omega,fun j hj h=>hs4 j fun hc=>by
    subst hc
    rcases h with h|h
    ·exact c3 _ hbk h
    ·have:=(c2.blk_lt hbk).1; omega⟩
   have m45:Mine M g.b O2 H4 H5:=⟨by omega,fun j hj h=>(hk5 j (by omega) fun hc=>by
    rcases h with h|h
    ·exact b3 _ hc h
    ·have:=(b2.blk hc).1; omega).trans (GH.get_push_lt _ _ hj)⟩
   have m26:Mine M g.b O2 H2 (H5.put g.n (.arr { cells:= [.slice a5 (now.length+1) f5],ty:=25 })):=
    (Mine.of_sub hs3).trans (m34.trans (m45.trans (Mine.put _ n1 (.inl hP.nM))))
   have f26:FrT g.n g.b O2 O2 H2 (H5.put g.n (.arr { cells:= [.slice a5 (now.length+1) f5],ty:=25 })):=by
    refine ⟨by simp; omega,fun j A hA h1 h2 hj ho h3 h4=>?_,fun j hj=>.inl hj,fun j hj=>by have:=old2 j hj; simp; omega⟩
    have q4:H4.get j=H2.get j:=keep4 j hj fun hc=>by rw [hc,hA1] at hA; cases hA; exact h2 hA2
    rw [GH.get_put_ne _ _ h3,hk5 j (by omega) (fun hc=>by obtain ⟨A',k1,k2⟩:=blk3 j hc; rw [q4,hA] at k1; cases k1; exact h1 k2),GH.get_push_lt _ _ (by omega),q4]
   have hlen2:(now++ [(i:Int)]).length=now.length+1:=by simp
   have hP6:PlaceH l g M lb b (some c) tf t (now++ [(i:Int)]) (ev2.set t1.event.toNat t1.options[i]) (H5.put g.n (.arr { cells:= [.slice a5 (now.length+1) f5],ty:=25 })) O2:=by
    refine ⟨(GH.get_put_ne _ _ yn).trans y5,(GH.get_put_ne _ _ tn).trans t5,(GH.get_put_ne _ _ pn).trans p5,⟨_,GH.get_put_same _ _,?_,?_⟩,⟨some ab,ef,?_,?_,?_⟩,by simp; omega,hP2.no,hP.nM⟩
    ·rw [←hlen2]
     exact ho5.frame (Nat.le_refl _) fun j hj=>GH.get_put_ne _ _ (blkn j hj)
    ·intro j hj ho
     rw [←hlen2] at hj
     rcases hb5 j hj with h|h
     ·exact b3 j h ho
     ·have:=old2 j ho; omega
    ·rw [GH.get_put_ne _ _ bn,g5]; simp
    ·rw [List.length_set]
     refine ho4.frame (by simp; omega) fun j hj=>?_
     have hjb:j=ab.block:=by rw [hbk] at hj; exact (Option.some.inj hj).symm
     subst hjb
     obtain ⟨A4,k1,k2⟩:=ho4.blk_ty hj
     have kl:=(ho4.blk_lt hj).2
     rw [GH.get_put_ne _ _ (fun hc=>by rw [hc,m4] at k1; cases k1; cases k2),hk5 _ (by omega) (fun hc=>by obtain ⟨A',k3,k4⟩:=blk3 _ hc; rw [k1] at k3; cases k3; rw [k2] at k4; cases k4),GH.get_push_lt _ _ kl]
    ·rw [List.length_set]; exact c3
   have hr:List.range' i (t1.options.length - i)=i::List.range' (i+1) (t1.options.length - (i+1)):=by
    rw [show t1.options.length - i=(t1.options.length - (i+1))+1 by omega,List.range'_succ]
   have hgd:t1.options.getD i default=t1.options[i]:=bc hlt2
   have hbody:body i=bz b ts (now++ [(i:Int)]) (ev.set t1.event.toNat t1.options[i]):=by show bz _ _ _ (ev.set _ (t1.options.getD i default))=_; rw [hgd]
   refine (ih (pre++ [t1]) (by rw [hpre]; simp) (now++ [(i:Int)]) (by simp [hnow]) (ev.set t1.event.toNat t1.options[i]) (by simp [hev]) k2 (((List.range' (i+1) (t1.options.length - (i+1))).flatMap body)++rest)
    (by rw [hx2,hr,List.flatMap_cons,hbody,List.append_assoc]) _ O2 (ev2.set t1.event.toNat t1.options[i]) (hSt k2 H2 _ O2 hI2 old2 m26.next m26.keep) (fun j hj=>Nat.lt_of_lt_of_le (old2 j hj) m26.next) (Nat.le_trans hM2 m26.next) (hC2.mine m26) hP6 (hq2.set _)).mono ?_
   rintro x H7 ⟨O7,ev7,rfl,hf7,hI7,hC7,hP7,hq7⟩
   obtain ⟨l1',l2',l3',l4',l5'⟩:=hP7.lt
   obtain ⟨n1',n2',n3',n4',n5'⟩:=hP7.no
   obtain ⟨vn7,d1,d2,d3⟩:=hP7.n
   obtain ⟨a7,f7,rfl,hna7⟩:=d2.elems
   obtain ⟨_,⟨c7,rfl⟩,rfl,d4⟩:=d2.cut
   simp (disch:=omega) [e0,d1,aj]
   have hle:(now.length:Int)≤now.length+1:=by omega
   have hg0:ku c7 0=c7:=by cases c7; rfl
   simp (disch:=omega) [e0,e1,e2,e3,e4,e9,e44,e45,e46,d1,aj,hle,hg0]
   have m78:∀o,Mine M g.b O7 H7 (H7.put g.n o):=fun o=>Mine.put _ n1' (.inl hP.nM)
   refine ⟨by omega,O7,(hf2.trans f26).trans (hf7.trans ⟨by simp,fun j A _ _ _ _ _ h3 _=>GH.get_put_ne _ _ h3,fun j hj=>.inl hj,hf7.lt⟩),?_,ev7,k2+(body i).length,?_,hC7.mine (m78 _),?_,hq7.unset,?_,?_⟩
   ·have kt6:(H5.put g.n (.arr { cells:= [.slice a5 (now.length+1) f5],ty:=25 })).get H.next=some (.arr { cells:= [vi t1.event,.slice t1.loc.a t1.options.length t1.loc.fl],ty:=88 }):=(GH.get_put_ne _ _ ktn).trans kt5
    rw [←hco]
    rw [hf7.keep _ _ kt6 (by simp) (by simp) (by simp; omega) (fun hc=>(hf2.own _ hc).elim hno (by omega)) ktn (by omega)]
    exact kt6
   ·rw [hbody]
    exact hSt _ H7 _ O7 hI7 hf7.lt (Nat.le_refl _) fun j hj h=>(m78 _).keep j hj h
   ·obtain ⟨ae7,ef7,r1,r2,r3⟩:=hP7.b
    have pn7:g.p≠g.n:=pn
    refine ⟨(GH.get_put_ne _ _ yn).trans hP7.y,(GH.get_put_ne _ _ tn).trans hP7.t,(GH.get_put_ne _ _ pn).trans hP7.p,⟨_,GH.get_put_same _ _,?_,?_⟩,⟨ae7,ef7,(GH.get_put_ne _ _ bn).trans r1,?_,r3⟩,hP7.lt,hP7.no,hP.nM⟩
    ·refine d4.frame (Nat.le_refl _) fun j hj=>GH.get_put_ne _ _ fun hc=>?_
     obtain ⟨_,_,A,k1,k2⟩:=d4.blk hj
     rw [hc,d1] at k1; cases k1; cases k2
    ·intro j hj
     exact d3 j (by simpa using hj)
    ·refine r2.frame (Nat.le_refl _) fun j hj=>GH.get_put_ne _ _ fun hc=>?_
     obtain ⟨A,k1,k2⟩:=r2.blk_ty hj
     rw [hc,d1] at k1; cases k1; cases k2
   ·have e:=hx2
    rw [hr,List.flatMap_cons,List.append_assoc] at e
    rw [←List.drop_drop,e,List.drop_left]
   ·rw [hr,List.flatMap_cons,List.length_append] at hc2
    rw [List.length_flatMap] at hc2
    omega
  ·have:i=t1.options.length:=by omega
   subst this
   simp at hc2
   simp
   have h0:FrT g.n g.b O O H H1:=FrT.of_frm (Frm.of_sub hO hs1)
   exact ⟨O2,h0.trans hf2,by rw [←hc2]; exact hI2,hC2,ev2,hP2,hq2⟩
end
end Go.Gm.Tryz
end
section
namespace Go.Gm.Tryz
open Go.Proofs
theorem wz (l:BLoc) (b:Book) (t:List Torn) (a:Option Addr) (fl:Nat) (H:GH):C 105 [dl l b,.slice a t.length fl] H (.func (.func 161) #[] #[.pointer (some (ga H.next 0 0)),.pointer (some (ga (H.next+1) 0 0))])
  ((H.push (.arr { cells:=bq l b,ty:=28 })).push (.arr { cells:= [.slice a t.length fl],ty:=72 })):=by
 refine an tok mix ard (F:=a3s) (c:=_) rfl (n:=6) rfl (rs:= [.tmp 4]) rfl ?_
 simp
def yy (lb:BLoc) (ta:Option Addr) (t:List Torn) (g:Nat):Prop:=
 (∃a,lb.t.rows.a=some a∧a.block=g)∨(∃a,lb.owners.a=some a∧a.block=g)∨(∃a,ta=some a∧a.block=g)∨∃x∈t,∃a,x.loc.a=some a∧a.block=g
theorem tc {lb:BLoc} {b:Book} {ta:Option Addr} {tf:Nat} {t:List Torn} (hB:b.events.length≤12) (hT:TornOk b t) {g1 g2:Nat} {H:GH} (h1:H.get g1=some (.arr { cells:=bq lb b,ty:=28 })) (h2:H.get g2=some (.arr { cells:= [.slice ta t.length tf],ty:=72 }))
  (l1:g1<H.next) (l2:g2<H.next) (hb:BookIn H lb b) (ht:TornIn H ta t) (ha:∀g,yy lb ta t g→g<g1):
  aqo Tryz.prog 161 #[] #[.pointer (some (ga g1 0 0)),.pointer (some (ga g2 0 0))] H (di b t) (wv H.next lb) (fun x=>x=g1) (fun x=>x=g1∨x=g2∨yy lb ta t x):=by
 intro l Hc Inv O hs hY hSt hI hO hOP
 have hn:=hs.1
 have k1:=(hs.2 _ l1).trans h1
 have k2:=(hs.2 _ l2).trans h2
 have hb':=hb.mono hs
 have ht':=ht.mono hs
 have o1:¬O g1:=fun hc=>hOP _ hc (.inl rfl)
 have o2:¬O g2:=fun hc=>hOP _ hc (.inr (.inl rfl))
 have o3:∀x,yy lb ta t x→x<Hc.next∧x≠g1∧¬O x:=fun x hx=>⟨by have:=ha x hx; omega,by have:=ha x hx; omega,fun hc=>hOP _ hc (.inr (.inr hx))⟩
 have ne12:g1≠g2:=fun hc=>by rw [hc,h2] at h1; simp at h1
 show ay Tryz.prog 161 [.func (.yield l) #[] #[],.pointer (some (ga g1 0 0)),.pointer (some (ga g2 0 0))] Hc _
 refine an tok mix ash (F:=a4r) (c:=_) rfl (n:=13) rfl (rs:= []) rfl ?_
 simp (disch:=omega) [k1]
 have hEv:=hb'.events.push (.arr { cells:= [.func (.yield l) #[] #[]],ty:=197 })
 refine (acb b.events (by omega) _ _ _ hEv).mono ?_
 rintro x H2 ⟨v2,rfl,hs2,ho2⟩
 obtain ⟨a2,f2,rfl,hE2⟩:=ho2.elems (fun _=>rfl)
 have hn2:=hs2.1
 simp only [GH.next_push] at hn2 ho2
 have hsc2:Sub Hc H2:=(Sub.push (.refl Hc) _).trans hs2
 have k12:=(hsc2.2 _ (by omega)).trans k1
 have k22:=(hsc2.2 _ (by omega)).trans k2
 have ky2:H2.get Hc.next=some (.arr { cells:= [.func (.yield l) #[] #[]],ty:=197 }):=(hs2.2 _ (by simp)).trans (by simp)
 simp (disch:=omega) [k12]
 generalize hH5:GH.put (GH.push (GH.push (GH.put H2 g1 _) _) _) _ _=H5
 have r1:H5.get g1=some (.arr { cells:=bq (aaj lb a2 f2) { b with events:=b.events },ty:=28 }):=by
  have x1:¬g1=H2.next+1:=by omega
  have x2:¬g1=H2.next:=by omega
  subst hH5; simp [x1,x2]
 have r2:H5.get g2=some (.arr { cells:= [.slice ta t.length tf],ty:=72 }):=by
  subst hH5
  rw [GH.get_put_ne _ _ (by omega),GH.get_push_lt _ _ (by simp; omega),GH.get_push_lt _ _ (by simp; omega),GH.get_put_ne _ _ (Ne.symm ne12)]; exact k22
 have ry:H5.get Hc.next=some (.arr { cells:= [.func (.yield l) #[] #[]],ty:=197 }):=by
  subst hH5
  rw [GH.get_put_ne _ _ (by omega),GH.get_push_lt _ _ (by simp; omega),GH.get_push_lt _ _ (by simp; omega),GH.get_put_ne _ _ (by omega)]; exact ky2
 have rn:H5.get H2.next=some (.arr { cells:= [.slice none 0 0],ty:=25 }):=by subst hH5; simp (disch:=omega)
 have rp:H5.get (H2.next+1)=some (.arr { cells:= [auy ⟨H2.next,g2,g1,Hc.next,H2.next+1⟩],ty:=30 }):=by subst hH5; simp
 have hn5:H5.next=H2.next+2:=by subst hH5; simp
 have keep5:∀j,j<H2.next→j≠g1→H5.get j=H2.get j:=by
  subst hH5
  intro j hj hne
  rw [GH.get_put_ne _ _ (by omega),GH.get_push_lt _ _ (by simp; omega),GH.get_push_lt _ _ (by simp; omega),GH.get_put_ne _ _ hne]
 clear hH5
 have mine:Mine Hc.next g1 O Hc H5:=⟨by omega,fun j hj h=>by
  have:j≠g1:=by
   rcases h with h|h
   ·rintro rfl; exact o1 h
   ·exact h.2
  rw [keep5 j (by omega) this,hsc2.2 j hj]⟩
 have hC:Ctx Hc.next g1 lb b ta t H5 O:=Ctx.mine ⟨hb'.t,hb'.owners,ht',fun a h=>o3 _ (.inl ⟨a,h,rfl⟩),fun a h=>o3 _ (.inr (.inl ⟨a,h,rfl⟩)),fun a h=>o3 _ (.inr (.inr (.inl ⟨a,h,rfl⟩))),fun x hx a h=>o3 _ (.inr (.inr (.inr ⟨x,hx,a,h,rfl⟩)))⟩ mine
 have nO:∀j,Hc.next≤j→¬O j:=fun j hj hc=>by have:=hO j hc; omega
 have hown:bg H5 Hc.next (.slice a2 b.events.length f2) 57 8 jb b.events:=(ho2.weaken (by omega)).frame (by omega) fun j hj=>keep5 j (ho2.blk_lt hj).2 (by have:=(ho2.blk_lt hj).1; omega)
 have hP:PlaceH l ⟨H2.next,g2,g1,Hc.next,H2.next+1⟩ Hc.next lb b ta tf t [] b.events H5 O:=
  ⟨ry,r2,rp,⟨_,rn,.inl ⟨rfl,rfl⟩,fun k hk=>by simp at hk⟩,⟨a2,f2,r1,hown,fun k hk=>nO k (by have:=(ho2.blk_lt hk).1; omega)⟩,by refine ⟨?_,?_,?_,?_,?_⟩<;>simp<;>omega,⟨nO _ (by show Hc.next≤H2.next; omega),o2,o1,nO _ (Nat.le_refl _),nO _ (by show Hc.next≤H2.next+1; omega)⟩,by show Hc.next≤H2.next; omega⟩
 refine (apg (g:=⟨H2.next,g2,g1,Hc.next,H2.next+1⟩) hY hSt hn hB hT t [] rfl [] rfl b.events rfl 0 [] (by simp [di]) H5 O b.events (hSt 0 Hc H5 O hI hO mine.next mine.keep) (fun j hj=>Nat.lt_of_lt_of_le (hO j hj) mine.next) mine.next hC hP (.refl _ _)).mono ?_
 rintro x H' ⟨O',ev'',rfl,_,hI',_⟩
 simp
 exact ⟨O',by simpa [di] using hI'⟩
theorem yu {b:Book} {t:List Torn} (hB:b.events.length≤12) (h:iw b t=true):TornOk b t:=by
 unfold iw at h
 simp only [Bool.and_eq_true,List.all_eq_true,List.mem_range,decide_eq_true_eq] at h
 have key:∀x∈t,0≤x.event∧x.event<b.events.length∧x.options.length≤4:=by
  intro x hx
  obtain ⟨i,hi,rfl⟩:=List.mem_iff_getElem.1 hx
  have hh:=h.1 i hi
  unfold pa at hh
  have hw:IntKind.i64.wrap ((b.events.length:Int) - 1)=b.events.length - 1:=by simp (disch:=omega) [aj]
  rw [show tAt t i=t[i] from bc hi,hw] at hh
  simp [inI] at hh
  omega
 exact ⟨h.2,fun x hx=>⟨(key x hx).1,(key x hx).2.1⟩,fun x hx=>(key x hx).2.2⟩
theorem a7s {α:Type} (f:α→Nat) (c:Nat):∀l:List α,(∀x∈l,f x≤c)→(l.map f).sum≤l.length*c:=by
 intro l
 induction l with
 |nil=>intro _; simp
 |cons x l ih=>
  intro h
  have h1:=h x (List.mem_cons_self ..)
  have h2:=ih fun y hy=>h y (List.mem_cons_of_mem _ hy)
  simp only [List.map_cons,List.sum_cons,List.length_cons,Nat.add_mul]
  omega
theorem sw (b:Book):∀(ts:List Torn),(∀x∈ts,x.options.length≤4)→∀now ev,(bz b ts now ev).length≤4^ts.length:=by
 intro ts
 induction ts with
 |nil=>intro _ now ev; unfold bz; split<;>simp
 |cons t ts ih=>
  intro h now ev
  unfold bz
  rw [List.length_flatMap]
  refine Nat.le_trans (a7s _ (4^ts.length) _ fun k _=>ih (fun x hx=>h x (List.mem_cons_of_mem _ hx)) _ _) ?_
  rw [List.length_range,List.length_cons,Nat.pow_succ,Nat.mul_comm]
  exact Nat.mul_le_mul_left _ (h t (List.mem_cons_self ..))
theorem sx {b:Book} {t:List Torn} (h:TornOk b t):(di b t).length≤64:=
 Nat.le_trans (sw b t h.op [] b.events) (Nat.pow_le_pow_right (n:=4) (by decide) h.len)
theorem wx {N:Nat} {lb:BLoc} {H:GH} {v:Value} {x:List Int×Book} {l:Nat} {o o':GObj} (h:wv N lb H v x) (hl:H.get l=some o) (ho:o.isArr=false):wv N lb (H.put l o') v x:=by
 obtain ⟨a,fl,ae,ef,rfl,hE,hb,hN⟩:=h
 exact ⟨a,fl,ae,ef,rfl,hE.put_loop hl ho o',⟨hb.t.put_loop hl ho o',hb.owners.put_loop hl ho o',hb.events.put_loop hl ho o'⟩,hN⟩
theorem wy {N:Nat} {lb:BLoc} {H H':GH} {v:Value} {x:List Int×Book} (h:wv N lb H v x) (hs:Sub H H'):wv N lb H' v x:=by
 obtain ⟨a,fl,ae,ef,rfl,hE,hb,hN⟩:=h
 exact ⟨a,fl,ae,ef,rfl,hE.mono hs,hb.mono hs,hN⟩
def ab0 (b:Book) (t:List Torn):Int×Int:=if aq b&&iw b t then ((di b t).length,0) else (0,2)
theorem akc (lb:BLoc) (b:Book) (t:List Torn) (hlen:t.length≤1000) (ta:Option Addr) (tf:Nat) (H:GH) (hb:BookIn H lb b) (ht:TornIn H ta t):
  C 52 [dl lb b,.slice ta t.length tf] H (.tuple #[vi (ab0 b t).1,vi (ab0 b t).2]) H:=by
 rcases lb with ⟨⟨⟨ra,rf⟩⟩,⟨oa,of'⟩,⟨va,vf⟩⟩
 refine au tok mix az3 (F:=g52) (c:=_) rfl (n:=23) rfl (rs:= [.tmp 4,.tmp 5]) rfl (i8 (by simp; exact ⟨ac rfl,ac rfl⟩)) ?_
 simp
 generalize hH2:GH.push _ _=H2
 have hs2:Sub H H2:=by subst hH2; exact Sub.push (.refl H) _
 have k0:H2.get H.next=some (.arr { cells:= [.slice ra b.tbl.rows.length rf,vi b.tbl.draw,vi b.supply,vi b.term,vi b.persons,.slice oa b.owners.length of',.slice va b.events.length vf],ty:=28 }):=by subst hH2; simp
 have hn2:H2.next=H.next+1:=by subst hH2; simp
 clear hH2
 refine (j7 ⟨⟨⟨ra,rf⟩⟩,⟨oa,of'⟩,⟨va,vf⟩⟩ b H2 (hb.mono hs2)).go ?_
 simp
 unfold ab0
 cases hB:aq b with
 |false=>simp; exact hs2
 |true=>
  simp (disch:=omega) [k0]
  refine (sc ⟨⟨⟨ra,rf⟩⟩,⟨oa,of'⟩,⟨va,vf⟩⟩ b t hlen ta tf H2 (ht.mono hs2)).go ?_
  simp
  cases hT:iw b t with
  |false=>simp; exact hs2
  |true=>
   have hev:b.events.length≤12:=by have:=hB; unfold aq at this; simp at this; omega
   simp (disch:=omega) [k0]
   with_reducible refine (wz ⟨⟨⟨_,_⟩⟩,⟨_,_⟩,⟨_,_⟩⟩ b t ta tf _).go ?_
   simp only [pu,nh,ki,pw]
   generalize hH3:GH.put (GH.push H2 _) _ _=H3
   have hs3:Sub H2 H3:=by subst hH3; exact (Sub.push (.refl H2) _).put (Nat.le_refl _) _
   have c3:H3.get H2.next=some (.arr { cells:= [vi 0],ty:=3 }):=by subst hH3; simp
   have hn3:H3.next=H2.next+1:=by subst hH3; simp
   clear hH3
   generalize hHd:GH.push (GH.push H3 _) _=Hd
   have hsd:Sub H3 Hd:=by subst hHd; exact (Sub.push (.refl H3) _).push _
   have hd1:Hd.get H3.next=some (.arr { cells:=bq ⟨⟨⟨ra,rf⟩⟩,⟨oa,of'⟩,⟨va,vf⟩⟩ b,ty:=28 }):=by subst hHd; simp (disch:=omega)
   have hd2:Hd.get (H3.next+1)=some (.arr { cells:= [.slice ta t.length tf],ty:=72 }):=by subst hHd; simp
   have hnd:Hd.next=H3.next+2:=by subst hHd; simp
   clear hHd
   have cd:=(hsd.2 _ (by omega)).trans c3
   have hsH:=hs2.trans (hs3.trans hsd)
   have harg:∀g,yy ⟨⟨⟨ra,rf⟩⟩,⟨oa,of'⟩,⟨va,vf⟩⟩ ta t g→g<H.next:=by
    rintro g (⟨a,h,rfl⟩|⟨a,h,rfl⟩|⟨a,h,rfl⟩|⟨x,hx,a,h,rfl⟩)
    ·exact (hb.t.ok a h).1
    ·exact (hb.owners.ok a h).1
    ·exact (ht.e.ok a h).1
    ·exact ((ht.o x hx).ok a h).1
   refine aqg tok mix rfl rfl (gf:=161) (first:= #[]) (captured:= #[.pointer (some (ga H3.next 0 0)),.pointer (some (ga (H3.next+1) 0 0))]) (by simp) 52 (by kernel_rfl) (by kernel_rfl) (fun H v x l o o' a b c=>wx a b c) (fun H H' v x a b=>wy a b)
    (tc hev (yu hev hT) hd1 hd2 (by omega) (by omega) (hb.mono hsH) (ht.mono hsH) (fun g hg=>by have:=harg g hg; omega))
    (fun k Hk Ok=>(∀g,Ok g↔g=H2.next)∧Hk.get H2.next=some (.arr { cells:= [vi k],ty:=3 }))
    ?_ (fun g=>g=H2.next) ?_ ?_ ?_ ?_ ⟨fun g=>Iff.rfl,cd⟩ ?_ ?_ ?_
   ·rintro k H1 H4 Ok ⟨x1,x2⟩ x3 x4 x5
    exact ⟨x1,(x5 _ (x3 _ ((x1 _).2 rfl)) (.inl ((x1 _).2 rfl))).trans x2⟩
   ·rintro g rfl; omega
   ·rintro g rfl (h|h|h)
    ·omega
    ·omega
    ·have:=harg _ h; omega
   ·rintro g (h|h|h)
    ·omega
    ·omega
    ·have:=harg _ h; omega
   ·rintro g rfl; omega
   ·intro l Hk v; simp
   ·rintro k hk Hk Ok v l d gt ⟨x1,x2⟩ hfr hv hvb hl1 hl2 hol hgl
    have hk64:=sx (yu hev hT)
    have hlt:=hfr.next
    simp (disch:=omega) [x2,aj]
    exact ⟨Ok,Frm.put hfr.lt ((x1 _).2 rfl) _,x1⟩
   ·rintro H' O' mk hf hmk1 hmk2 hom hgm ⟨x1,x2⟩
    have hlt:=hf.next
    have hsub:Sub H H':=⟨by omega,fun g hg=>(hf.keep g (by omega) (by omega) (by omega)).trans (hsH.2 g hg)⟩
    simp (disch:=omega) [hgm,x2]
end Go.Gm.Tryz
end
section
namespace Go.Gm.Tryz
open Go.Proofs
theorem aj3 {b:Book} {d:Int}:∀ {es:List Ev} {i:Nat} {s:Stand},(∀e∈es,e.day≤36500)→(∃s',iu b 36500 es i s=.inr s')→∃s',iu b d es i s=.inr s':=by
 intro es
 induction es with
 |nil=>intro i s _ _; exact ⟨_,rfl⟩
 |cons e es ih=>
  intro i s h ⟨s',hs⟩
  have h1:=h e (List.mem_cons_self ..)
  unfold iu at hs ⊢
  by_cases hd:d<e.day
  ·rw [if_pos hd]; exact ⟨_,rfl⟩
  ·rw [if_neg hd]
   rw [if_neg (by omega)] at hs
   cases hg:cu b (pass b s e.day) e with
   |false=>rw [hg] at hs; cases hs
   |true=>
    rw [hg] at hs
    simp only [if_true] at hs ⊢
    exact ih (fun e' he=>h e' (List.mem_cons_of_mem _ he)) ⟨s',hs⟩
theorem aev {x:Book} (h:aq x=true):∀e∈x.events,e.day≤36500:=by
 intro e he
 obtain ⟨i,hi,rfl⟩:=List.mem_iff_getElem.1 he
 unfold aq at h
 simp only [Bool.and_eq_true,List.all_eq_true,List.mem_range] at h
 have h1:=h.1.2 i hi
 unfold mc at h1
 rw [bc hi] at h1
 simp at h1
 have h2:=h1.1
 unfold bv at h2
 simp [fu,inI] at h2
 omega
theorem aj4 {x:Book} (h:aq x=true) (hw:dw x=none) (d:Int):∃s,upS x d=.inr s:=by
 refine aj3 (aev h) ?_
 unfold dw upS at hw
 cases hu:iu x 36500 x.events 0 (start x) with
 |inl n=>rw [hu] at hw; cases hw
 |inr s=>exact ⟨s,rfl⟩
def aix (s:Stand) (grant person:Int):Bool:=decide (grant<s.grants.length)&&(decide ((gAt s grant.toNat).is=1)&&decide ((gAt s grant.toNat).person=person))
def ald (x:Book) (grant person day:Int):Bool:=match upS x day with| .inr s=>aix s grant person| .inl _=>false
theorem aem (b:Book):∀(ts:List Torn) now ev,∀p∈bz b ts now ev,aq p.2=true∧dw p.2=none:=by
 intro ts
 induction ts with
 |nil=>
  intro now ev p hp
  unfold bz at hp
  split at hp
  ·rename_i h
   unfold yv at h
   simp at h hp
   subst hp
   exact h
  ·cases hp
 |cons t ts ih=>
  intro now ev p hp
  unfold bz at hp
  obtain ⟨k,_,hk⟩:=List.mem_flatMap.1 hp
  exact ih _ _ p hk
def aum (all has:Nat):Int×Int:=if all=0 then (0,7) else if has=all then (3,0) else if 0<has then (2,0) else (1,0)
def ox (b:Book) (t:List Torn) (grant person day:Int):Bool:=aq b&&(iw b t&&(dv grant&&(az b person&&fu day)))
def abd (b:Book) (t:List Torn) (grant person day:Int):Int×Int:=
 if ox b t grant person day then aum (di b t).length ((di b t).countP fun p=>ald p.2 grant person day) else (0,2)
def uu (b:Book) (t:List Torn) (grant person day:Int) (k:Nat):Nat:=((di b t).take k).countP fun p=>ald p.2 grant person day
theorem awn (lb:BLoc) (b:Book) (t:List Torn) (hlen:t.length≤1000) (ta:Option Addr) (tf:Nat) (grant person day:Int) (H:GH) (hb:BookIn H lb b) (ht:TornIn H ta t):
  C 55 [dl lb b,.slice ta t.length tf,vi grant,vi person,vi day] H (.tuple #[vi (abd b t grant person day).1,vi (abd b t grant person day).2]) H:=by
 rcases lb with ⟨⟨⟨ra,rf⟩⟩,⟨oa,of'⟩,⟨va,vf⟩⟩
 refine au tok mix az4 (F:=g55) (c:=_) rfl (n:=93) rfl (rs:= [.tmp 10,.tmp 11]) rfl (i8 (by simp; exact ⟨ac rfl,ac rfl⟩)) ?_
 simp
 generalize hH2:GH.push (GH.push (GH.push (GH.push _ _) _) _) _=H2
 have hs2:Sub H H2:=by subst hH2; exact (((Sub.push (.refl H) _).push _).push _).push _
 have k0:H2.get H.next=some (.arr { cells:= [.slice ra b.tbl.rows.length rf,vi b.tbl.draw,vi b.supply,vi b.term,vi b.persons,.slice oa b.owners.length of',.slice va b.events.length vf],ty:=28 }):=by subst hH2; simp (disch:=omega)
 have k1:H2.get (H.next+1)=some (.arr { cells:= [vi grant],ty:=3 }):=by subst hH2; simp (disch:=omega)
 have k2:H2.get (H.next+2)=some (.arr { cells:= [vi person],ty:=3 }):=by subst hH2; simp (disch:=omega)
 have k3:H2.get (H.next+3)=some (.arr { cells:= [vi day],ty:=3 }):=by subst hH2; simp (disch:=omega)
 have hn2:H2.next=H.next+4:=by subst hH2; simp
 clear hH2
 refine (j7 ⟨⟨⟨ra,rf⟩⟩,⟨oa,of'⟩,⟨va,vf⟩⟩ b H2 (hb.mono hs2)).go ?_
 simp
 cases hB:aq b with
 |false=>simp [abd,ox,hB]; exact hs2
 |true=>
 simp (disch:=omega) [k0]
 refine (sc ⟨⟨⟨ra,rf⟩⟩,⟨oa,of'⟩,⟨va,vf⟩⟩ b t hlen ta tf H2 (ht.mono hs2)).go ?_
 simp
 cases hT:iw b t with
 |false=>simp [abd,ox,hB,hT]; exact hs2
 |true=>
 simp (disch:=omega) [k1]
 refine (aao _ _).go ?_
 simp
 cases hG:dv grant with
 |false=>simp [abd,ox,hB,hT,hG]; exact hs2
 |true=>
 simp (disch:=omega) [k0,k2]
 refine (mz ⟨⟨⟨ra,rf⟩⟩,⟨oa,of'⟩,⟨va,vf⟩⟩ b person H2).go ?_
 simp
 cases hP:az b person with
 |false=>simp [abd,ox,hB,hT,hG,hP]; exact hs2
 |true=>
 simp (disch:=omega) [k3]
 refine (zj _ _).go ?_
 simp
 cases hD:fu day with
 |false=>simp [abd,ox,hB,hT,hG,hP,hD]; exact hs2
 |true=>
 have hev:b.events.length≤12:=by have:=hB; unfold aq at this; simp at this; omega
 have q1:¬H.next=H2.next+1:=by omega
 have q2:¬H.next=H2.next:=by omega
 have hgr:0≤grant∧grant≤12:=by simp [dv,inI] at hG; omega
 simp (disch:=omega) [k0,q1]
 with_reducible refine (wz ⟨⟨⟨_,_⟩⟩,⟨_,_⟩,⟨_,_⟩⟩ b t ta tf _).go ?_
 simp only [pu,nh,ki,pw]
 generalize hH3:GH.put (GH.put (GH.push (GH.push H2 _) _) _ _) _ _=H3
 have hs3:Sub H2 H3:=by subst hH3; exact (((Sub.push (.refl H2) _).push _).put (by omega) _).put (by omega) _
 have c3:H3.get H2.next=some (.arr { cells:= [vi 0],ty:=3 }):=by subst hH3; simp (disch:=omega)
 have c4:H3.get (H2.next+1)=some (.arr { cells:= [vi 0],ty:=3 }):=by subst hH3; simp (disch:=omega)
 have hn3:H3.next=H2.next+2:=by subst hH3; simp
 clear hH3
 generalize hHd:GH.push (GH.push H3 _) _=Hd
 have hsd:Sub H3 Hd:=by subst hHd; exact (Sub.push (.refl H3) _).push _
 have hd1:Hd.get H3.next=some (.arr { cells:=bq ⟨⟨⟨ra,rf⟩⟩,⟨oa,of'⟩,⟨va,vf⟩⟩ b,ty:=28 }):=by subst hHd; simp (disch:=omega)
 have hd2:Hd.get (H3.next+1)=some (.arr { cells:= [.slice ta t.length tf],ty:=72 }):=by subst hHd; simp
 have hnd:Hd.next=H3.next+2:=by subst hHd; simp
 clear hHd
 have cd3:=(hsd.2 _ (by omega)).trans c3
 have cd4:=(hsd.2 _ (by omega)).trans c4
 have hs2d:=hs3.trans hsd
 have d1:=(hs2d.2 _ (by omega)).trans k1
 have d2:=(hs2d.2 _ (by omega)).trans k2
 have d3:=(hs2d.2 _ (by omega)).trans k3
 have hsH:=hs2.trans hs2d
 have harg:∀g,yy ⟨⟨⟨ra,rf⟩⟩,⟨oa,of'⟩,⟨va,vf⟩⟩ ta t g→g<H.next:=by
  rintro g (⟨a,h,rfl⟩|⟨a,h,rfl⟩|⟨a,h,rfl⟩|⟨x,hx,a,h,rfl⟩)
  ·exact (hb.t.ok a h).1
  ·exact (hb.owners.ok a h).1
  ·exact (ht.e.ok a h).1
  ·exact ((ht.o x hx).ok a h).1
 refine z8 tok mix rfl rfl (gf:=161) (first:= #[]) (captured:= #[.pointer (some (ga H3.next 0 0)),.pointer (some (ga (H3.next+1) 0 0))]) (by simp) 55 (by kernel_rfl) (by kernel_rfl) (fun H v x l o o' a b c=>wx a b c) (fun H H' v x a b=>wy a b)
  (tc hev (yu hev hT) hd1 hd2 (by omega) (by omega) (hb.mono hsH) (ht.mono hsH) (fun g hg=>by have:=harg g hg; omega))
  (fun k Hk Ok=>(∀g,Ok g↔g=H2.next∨g=H2.next+1)∧Hk.get H2.next=some (.arr { cells:= [vi k],ty:=3 })∧Hk.get (H2.next+1)=some (.arr { cells:= [vi (uu b t grant person day k)],ty:=3 }))
  ?_ (fun g=>g=H2.next∨g=H2.next+1) ?_ ?_ ?_ ?_ ⟨fun g=>Iff.rfl,cd3,cd4⟩ (fun H0 H1 v ρ1=>ρ1 14=.pointer (some (ga H0.next 0 0))∧ρ1 7=.pointer (some (ga (H.next+1) 0 0))∧ρ1 8=.pointer (some (ga (H.next+2) 0 0))∧ρ1 9=.pointer (some (ga (H.next+3) 0 0))∧ρ1 12=.pointer (some (ga H2.next 0 0))∧ρ1 13=.pointer (some (ga (H2.next+1) 0 0))∧
   H1.get H0.next=some (.arr { cells:=br v,ty:=145 })∧H0.next<H1.next) ?_ ?_ ?_ ?_
 ·rintro k H1 H4 Ok ⟨x1,x2,x3⟩ x4 x5 x6
  exact ⟨x1,(x6 _ (x4 _ ((x1 _).2 (.inl rfl))) (.inl ((x1 _).2 (.inl rfl)))).trans x2,(x6 _ (x4 _ ((x1 _).2 (.inr rfl))) (.inl ((x1 _).2 (.inr rfl)))).trans x3⟩
 ·rintro g (rfl|rfl)<;>omega
 ·rintro g (rfl|rfl) (h|h|h)
  all_goals first|omega|(have:=harg _ h; omega)
 ·rintro g (h|h|h)
  all_goals first|omega|(have:=harg _ h; omega)
 ·rintro g rfl; omega
 ·rintro H0 H1 v ρ1 l o o' ⟨x1,x2,x3,x4,x5,x6,x7,x8⟩ hl ho hna
  exact ⟨x1,x2,x3,x4,x5,x6,(GH.get_put_ne _ _ (by omega)).trans x7,by simpa using x8⟩
 ·rintro k hk l Hk v ⟨a,fl,ae,ef,rfl,hE,hbk,hN⟩
  simp (disch:=omega)
  exact (Sub.push (.refl Hk) _).put (Nat.le_refl _) _
 ·rintro k hk H0 Hk Ok v l d gt ρ1 ⟨e14,e7,e8,e9,e12,e13,kv,hlt0⟩ hOk hn0 hnH ⟨x1,x2,x3⟩ hfr hv hvb hl1 hl2 hol hgl
  obtain ⟨a,fl,ae,ef,rfl,hE,hbk,hN,hNe⟩:=hv
  obtain ⟨hok,hwr⟩:=aem b t [] b.events _ (List.getElem_mem hk)
  obtain ⟨s,hs⟩:=aj4 hok hwr day
  have hk64:=sx (yu hev hT)
  have hnk:=hfr.next
  have m1:Hk.get (H.next+1)=some (.arr { cells:= [vi grant],ty:=3 }):=(hfr.keep _ (by omega) (by omega) (by omega)).trans d1
  have m2:Hk.get (H.next+2)=some (.arr { cells:= [vi person],ty:=3 }):=(hfr.keep _ (by omega) (by omega) (by omega)).trans d2
  have m3:Hk.get (H.next+3)=some (.arr { cells:= [vi day],ty:=3 }):=(hfr.keep _ (by omega) (by omega) (by omega)).trans d3
  have esucc:uu b t grant person day (k+1)=uu b t grant person day k+if ald (di b t)[k].2 grant person day then 1 else 0:=by
   unfold uu
   rw [List.take_succ_eq_append_getElem hk,List.countP_append]; simp [List.countP_cons]
  have hle:uu b t grant person day k≤k:=by
   unfold uu
   exact Nat.le_trans List.countP_le_length (by simp; omega)
  generalize hp:(di b t)[k]=p at*
  obtain ⟨opts,x⟩:=p
  simp only [bq] at kv hbk hok hwr hs esucc
  simp only [br] at kv
  have qa:¬H0.next=H2.next:=by omega
  have qb:¬H0.next=H2.next+1:=by omega
  have qc:¬H.next+3=H2.next:=by omega
  simp (disch:=omega) [e14,e9,e12,x2,kv,m3,aj]
  have hb5:BookIn (Hk.put H2.next (.arr { cells:= [vi (k+1)],ty:=3 })) ⟨⟨⟨ra,rf⟩⟩,⟨oa,of'⟩,⟨ae,ef⟩⟩ x:=
   ⟨Elems.put hbk.t _ fun c hc=>by have:=harg c.block (.inl ⟨c,hc,rfl⟩); omega,hbk.owners.put _ fun c hc=>by have:=harg c.block (.inr (.inl ⟨c,hc,rfl⟩)); omega,hbk.events.put _ fun c hc=>by have:=hNe c hc; omega⟩
  refine (adr hb5 (l8 hok) day).mono ?_
  rintro y H6 ⟨n6,s6,hu⟩
  simp only [GH.next_put] at n6 s6
  rw [hs] at hu
  obtain ⟨N,sg,kn,O6,hN6,rfl,⟨vl,vo,vg,vw',vx,vf',hS,_⟩,hW⟩:=hu
  have hg6:=hS.g
  have hsl:=hS.sgl.2
  simp only [bq] at hg6
  have hgl6:s.grants.length≤100:=by have:=hW.len; omega
  obtain ⟨ag,fg,rfl,hEg⟩:=hS.grants.elems (fun _=>rfl)
  have m16:H6.get (H.next+1)=some (.arr { cells:= [vi grant],ty:=3 }):=by rw [s6 _ (by omega),GH.get_put_ne _ _ (by omega)]; exact m1
  have m26:H6.get (H.next+2)=some (.arr { cells:= [vi person],ty:=3 }):=by rw [s6 _ (by omega),GH.get_put_ne _ _ (by omega)]; exact m2
  have x36:H6.get (H2.next+1)=some (.arr { cells:= [vi (uu b t grant person day k)],ty:=3 }):=by rw [s6 _ (by omega),GH.get_put_ne _ _ (by omega)]; exact x3
  have x26:H6.get H2.next=some (.arr { cells:= [vi (k+1)],ty:=3 }):=by rw [s6 _ (by omega)]; simp
  have fr6:Frm Ok Ok Hk H6:=(Frm.put hfr.lt ((x1 _).2 (.inl rfl)) _).trans (Frm.of_sub (fun g hg=>by have:=hfr.lt g hg; simpa using this) ⟨by simpa using n6,fun g hg=>s6 g (by simpa using hg)⟩)
  have hhas:ald x grant person day=aix s grant person:=by unfold ald; rw [hs]
  simp (disch:=omega) [e7,hg6,m16]
  have fin0:aix s grant person=false→∃O',Frm Ok O' Hk H6∧(∀g,O' g↔g=H2.next∨g=H2.next+1)∧H6.get H2.next=some (.arr { cells:= [vi ((k:Int)+1)],ty:=3 })∧H6.get (H2.next+1)=some (.arr { cells:= [vi (uu b t grant person day (k+1))],ty:=3 }):=fun hh=>
   ⟨Ok,fr6,x1,x26,by rw [esucc,hhas,hh]; simpa using x36⟩
  by_cases g1:grant<s.grants.length
  ·obtain ⟨ag,rfl,hagl,hrdg⟩:=hEg.at grant.toNat (by omega)
   have egr:((grant.toNat:Nat):Int)=grant:=by omega
   have eg:gAt s grant.toNat=s.grants[grant.toNat]:=bc (by omega)
   by_cases g2:(s.grants[grant.toNat]).is=1
   ·by_cases g3:(s.grants[grant.toNat]).person=person
    ·have hh:aix s grant person=true:=by unfold aix; rw [eg]; simp [g1,g2,g3]
     simp (disch:=omega) [e7,e8,e13,hg6,m16,m26,g1,hrdg,g2,g3,x36,aj]
     refine ⟨Ok,fr6.trans (Frm.put fr6.lt ((x1 _).2 (.inr rfl)) _),x1,x26,by rw [esucc,hhas,hh]; simp⟩
    ·simp (disch:=omega) [e7,e8,hg6,m16,m26,g1,hrdg,g2,g3,x36]
     obtain ⟨O',w1,w2,w3,w4⟩:=fin0 (by unfold aix; rw [eg]; simp [g3])
     exact ⟨O',w1,w2,w3,by rw [x36] at w4; simpa using w4⟩
   ·simp (disch:=omega) [e7,hg6,m16,g1,hrdg,g2,x36]
    obtain ⟨O',w1,w2,w3,w4⟩:=fin0 (by unfold aix; rw [eg]; simp [g2])
    exact ⟨O',w1,w2,w3,by rw [x36] at w4; simpa using w4⟩
  ·simp (disch:=omega) [g1]
   exact fin0 (by unfold aix; simp [g1])
 ·rintro H' O' mk hf hmk1 hmk2 hom hgm ⟨x1,x2,x3⟩
  have hn:=hf.next
  have hsub:Sub H H':=⟨by omega,fun g hg=>(hf.keep g (by omega) (by omega) (by omega)).trans (hsH.2 g hg)⟩
  have hall:uu b t grant person day (di b t).length=(di b t).countP fun p=>ald p.2 grant person day:=by unfold uu; rw [List.take_length]
  have hargs:ox b t grant person day=true:=by simp [ox,hB,hT,hG,hP,hD]
  have hsub2:Sub H (H'.put mk (.marks false)):=Sub.put hsub (by omega) _
  rw [hall] at x3
  generalize hc:((di b t).countP fun p=>ald p.2 grant person day)=c at*
  generalize hL:(di b t).length=nl at*
  by_cases y1:nl=0
  ·have y1':(nl:Int)=0:=by omega
   simp (disch:=omega) [hgm,x2,y1]
   simp [abd,aum,hargs,hL,y1]
  ·have y1':¬(nl:Int)=0:=by omega
   by_cases y2:c=nl
   ·have y2':(c:Int)=nl:=by omega
    simp (disch:=omega) [hgm,x2,x3,y1,y2]
    simp [abd,aum,hargs,hL,y1,hc,y2]
   ·have y2':¬(c:Int)=nl:=by omega
    by_cases y3:0<c
    ·have y3':(0:Int)<c:=by omega
     simp (disch:=omega) [hgm,x2,x3,y1,y2',y3]
     simp [abd,aum,hargs,hL,y1,hc,y2,y3]
    ·have y3':¬(0:Int)<c:=by omega
     simp (disch:=omega) [hgm,x2,x3,y1,y2',y3]
     simp [abd,aum,hargs,hL,y1,hc,y2,y3]
end Go.Gm.Tryz
end
section
namespace Go.Gm
theorem Elems.tl {α:Type} {H:GH} {b:Addr} {sz:Nat} {enc:α→List Value} {x:α} {l:List α} (h:Elems H (some b) sz enc (x::l)):Elems H (some (ku b sz)) sz enc l:=by
 refine ⟨h.len,fun c hc=>?_,fun hc=>by cases hc⟩
 cases hc
 obtain ⟨h1,h2⟩:=h.ok b rfl
 refine ⟨h1,?_⟩
 have hk:sz+l.length*sz=(x::l).length*sz:=by simp [Nat.add_mul,Nat.add_comm]
 have:=zr h2 (k:=sz) (m:=l.length*sz) (by omega)
 have hx:=h.len x
 rw [List.flatMap_cons,List.drop_left' hx,List.take_of_length_le (by rw [jc h.len]; omega)] at this
 exact this
end Go.Gm
namespace Go.Gm.Tryz
open Go.Proofs
def agx (m x:Int):Int:=if x>m then x else m
def ayf:List Int→Int
 | []=>0
 |x::l=>l.foldl agx x
theorem ayg (l:List Int) (h0:l≠ []) (hl:l.length≤1000) (a:Option Addr) (fl:Nat) (H:GH) (hr:Elems H a 1 ca l):C 110 [.slice a l.length fl] H (vi (ayf l)) H:=by
 refine au tok mix arg (F:=a3v) (c:=_) rfl (n:=25) rfl (rs:= [.tmp 2]) rfl (ac rfl) ?_
 have hp:0<l.length:=by cases l<;>simp at h0 ⊢
 have hq:¬(l.length:Int)<1:=by omega
 obtain ⟨b,rfl,hb,hrd⟩:=hr.at 0 hp
 simp (disch:=omega) [hq,hrd]
 refine pb tok mix (by kernel_rfl) (fun j ρ m H'=>∃i:Nat,1≤i∧i≤l.length∧j=l.length - i∧ρ 0=.slice (some b) l.length fl∧ρ 3=vi ((l.take i).tail.foldl agx l[0])∧ρ 4=vi i∧m= []∧H'=H) ⟨1,by omega,by omega,rfl,by simp,by
  obtain ⟨x,l',rfl⟩:∃x l',l=x::l':=by cases l with|nil=>exact absurd rfl h0|cons x l'=>exact ⟨x,l',rfl⟩
  simp,by simp,rfl,rfl⟩ ?_
 rintro j ρ m H' ⟨i,h1,h2,rfl,e0,e3,e4,rfl,rfl⟩
 simp [e0,e4]
 refine ba (fun hlt=>?_) (fun hge=>?_)
 ·obtain ⟨b',hb',_,hrd'⟩:=hr.at i hlt
  cases hb'
  simp (disch:=omega) [e0,e3,e4,hlt,hrd',aj]
  refine ⟨l.length - (i+1),by omega,i+1,by omega,by omega,rfl,?_,by simp⟩
  have et:(l.take (i+1)).tail=(l.take i).tail++ [l[i]]:=by
   obtain ⟨x,l',rfl⟩:∃x l',l=x::l':=by cases l with|nil=>exact absurd rfl h0|cons x l'=>exact ⟨x,l',rfl⟩
   obtain ⟨k,rfl⟩:∃k,i=k+1:=⟨i - 1,by omega⟩
   simp only [List.take_succ_cons,List.tail_cons,List.getElem_cons_succ]
   exact List.take_succ_eq_append_getElem (by simpa using hlt)
  rw [et,List.foldl_append]
  simp [agx]
 ·have:i=l.length:=by omega
  subst this
  simp [e3]
  obtain ⟨x,l',rfl⟩:∃x l',l=x::l':=by cases l with|nil=>exact absurd rfl h0|cons x l'=>exact ⟨x,l',rfl⟩
  simp [ayf]
@[simp] def aw3 (p:Int×Int):List Value:= [vi p.1,vi p.2]
theorem ao8 (p q:Int×Int) (H:GH):C 112 [.agg #[vi p.1,vi p.2],.agg #[vi q.1,vi q.2]] H (.bool (decide (p.2<q.2))) H:=by
 refine au tok mix ari (F:=a3x) (c:=_) rfl (n:=10) rfl (rs:= [.tmp 4]) rfl (ac rfl) ?_
 simp (disch:=omega)
 exact (Sub.push (.refl H) _).push _
def kq (m x:Int×Int):Int×Int:=if x.2<m.2 then x else m
def aet:List (Int×Int)→Int×Int
 | []=>(0,0)
 |x::l=>l.foldl kq x
theorem aqv (x0:Int×Int) (l:List (Int×Int)) (hl:l.length≤1000) (a:Option Addr) (fl:Nat) (hfl:fl=2) (H:GH) (hr:Elems H a 2 aw3 (x0::l)):C 111 [.slice a (l.length+1) fl,.func (.func 112) #[] #[]] H (.agg #[vi (aet (x0::l)).1,vi (aet (x0::l)).2]) H:=by
 subst hfl
 refine au tok mix arh (F:=a3w) (c:=_) rfl (n:=25) rfl (rs:= [.cell 4 151]) rfl (sb (l:= [_,_]) (by simp; exact ⟨ac rfl,ac rfl⟩)) ?_
 obtain ⟨b,rfl,hb,hrd⟩:=hr.at 0 (by simp)
 have h1:(1:Int)≤l.length+1:=by omega
 simp (disch:=omega) [hrd,h1]
 have hE:=Elems.tl hr
 generalize hH2:GH.put (GH.push (GH.push H _) _) _ _=H2
 have hs2:Sub H H2:=by subst hH2; exact ((Sub.push (.refl H) _).push _).put (by omega) _
 have k4:H2.get H.next=some (.arr { cells:= [vi 0,vi 0],ty:=151 }):=by subst hH2; simp (disch:=omega)
 have k5:H2.get (H.next+1)=some (.arr { cells:= [vi x0.1,vi x0.2],ty:=151 }):=by subst hH2; simp
 have hn2:H2.next=H.next+2:=by subst hH2; simp
 clear hH2
 refine cv tok mix (by kernel_rfl) l.length (fun i ρ m H'=>ρ 1=.func (.func 112) #[] #[]∧ρ 4=.pointer (some (ga H.next 0 0))∧ρ 5=.pointer (some (ga (H.next+1) 0 0))∧ρ 12=.slice (some (ku b 2)) l.length 2∧ρ 13=vi l.length∧ρ 14=vi i∧m= []∧Sub H H'∧H.next+1<H'.next∧
  H'.get H.next=some (.arr { cells:= [vi 0,vi 0],ty:=151 })∧H'.get (H.next+1)=some (.arr { cells:= [vi ((l.take i).foldl kq x0).1,vi ((l.take i).foldl kq x0).2],ty:=151 })) (i0:=0) (by omega) (by simp [k4,k5]; exact ⟨hs2,by omega⟩) ?_
 rintro i ρ m H' hi ⟨e1,e4,e5,e12,e13,e14,rfl,hsub,hlt',g4,g5⟩
 simp [e13,e14]
 refine ba (fun hlt=>?_) (fun hge=>?_)
 ·obtain ⟨c,hc,hcl,hrd'⟩:=(hE.mono hsub).at i hlt
  cases hc
  have q1:¬H.next+1=H'.next:=by omega
  have q2:¬H.next=H'.next:=by omega
  have et:(l.take (i+1)).foldl kq x0=kq ((l.take i).foldl kq x0) l[i]:=by
   rw [List.take_succ_eq_append_getElem hlt,List.foldl_append]; rfl
  generalize hA:(l.take i).foldl kq x0=A at*
  simp (disch:=omega) [e1,e5,e12,e14,hlt,hrd',g5]
  refine (ao8 l[i] A _).go ?_
  have hsx:∀o1 o2,Sub H ((H'.push o1).put H'.next o2):=fun o1 o2=>(hsub.push _).put hsub.1 _
  by_cases hb:l[i].2<A.2
  ·simp (disch:=omega) [e1,e4,e5,e12,e13,e14,g5,hb,aj]
   refine ⟨Sub.put (hsx _ _) (by omega) _,by omega,g4,?_⟩
   rw [et]; simp [kq,hb]
  ·simp (disch:=omega) [e1,e4,e5,e12,e13,e14,g5,hb,aj]
   refine ⟨hsx _ _,by omega,g4,?_⟩
   rw [et]; simp [kq,hb]
 ·have:i=l.length:=by omega
  subst this
  rw [List.take_length] at g5
  simp (disch:=omega) [e4,e5,g4,g5]
  exact ⟨rfl,rfl⟩
end Go.Gm.Tryz
end
section
namespace Go.Gm.Tryz
open Go.Proofs
structure M4 where
 a:Int
 b:Int
 c:Int
 d:Int
@[simp] def akv (x:M4):List Value:= [vi x.a,vi x.b,vi x.c,vi x.d]
@[simp] def M4.list (x:M4):List Int:= [x.a,x.b,x.c,x.d]
def lh (b:Book) (t:List Torn) (n i:Nat) (k:Int):Int:=(((di b t).take n).countP fun p=>decide (p.1.getD i 0=k):Nat)
def km (b:Book) (t:List Torn) (n i:Nat):M4:=⟨lh b t n i 0,lh b t n i 1,lh b t n i 2,lh b t n i 3⟩
def gy (b:Book) (t:List Torn) (n j:Nat):List M4:=(List.range t.length).map fun i=>km b t (if i<j then n+1 else n) i
theorem lq (b:Book) (t:List Torn) (n j:Nat):(gy b t n j).length=t.length:=by simp [gy]
theorem ye (b:Book) (t:List Torn) (n j:Nat) {i:Nat} (hi:i<(gy b t n j).length):(gy b t n j)[i]=km b t (if i<j then n+1 else n) i:=by simp [gy]
theorem ao9 (b:Book) (t:List Torn) (n j:Nat):(gy b t n j).set j (km b t (n+1) j)=gy b t n (j+1):=by
 apply List.ext_getElem?
 intro i
 rw [List.getElem?_set,lq]
 by_cases hi:i<t.length
 ·have h1:(gy b t n (j+1))[i]?=some (km b t (if i<j+1 then n+1 else n) i):=by rw [List.getElem?_eq_getElem (by rw [lq]; exact hi),ye]
  have h2:(gy b t n j)[i]?=some (km b t (if i<j then n+1 else n) i):=by rw [List.getElem?_eq_getElem (by rw [lq]; exact hi),ye]
  rw [h1,h2]
  by_cases hc:j=i
  ·subst hc; simp [hi]
  ·rw [if_neg hc]
   have:i<j+1↔i<j:=by omega
   simp only [this]
 ·have h1:(gy b t n (j+1))[i]?=none:=List.getElem?_eq_none (by rw [lq]; omega)
  have h2:(gy b t n j)[i]?=none:=List.getElem?_eq_none (by rw [lq]; omega)
  rw [h1,h2]
  by_cases hc:j=i
  ·subst hc; simp [hi]
  ·rw [if_neg hc]
theorem alm (b:Book) (t:List Torn) (n:Nat):gy b t n t.length=gy b t (n+1) 0:=by
 unfold gy
 refine List.map_congr_left fun i hi=>?_
 have:=List.mem_range.1 hi
 simp [this]
theorem aln (b:Book) (t:List Torn):gy b t 0 0=List.replicate t.length ⟨0,0,0,0⟩:=by
 unfold gy
 rw [List.eq_replicate_iff]
 refine ⟨by simp,fun x hx=>?_⟩
 obtain ⟨i,_,rfl⟩:=List.mem_map.1 hx
 simp [km,lh]
theorem akp (b:Book) (t:List Torn) {n:Nat} (hn:n<(di b t).length) (i:Nat) (k:Int):lh b t (n+1) i k=lh b t n i k+if (di b t)[n].1.getD i 0=k then 1 else 0:=by
 unfold lh
 rw [List.take_succ_eq_append_getElem hn,List.countP_append]
 simp only [List.countP_cons,List.countP_nil]
 split<;>rename_i h<;>simp at h<;>simp [h]
theorem aq0 (b:Book) (t:List Torn) (n i:Nat) (k:Int):0≤lh b t n i k∧lh b t n i k≤(di b t).length:=by
 unfold lh
 have h1:=List.countP_le_length (p:=fun p:List Int×Book=>decide (p.1.getD i 0=k)) (l:=(di b t).take n)
 have h2:((di b t).take n).length≤(di b t).length:=by simp; omega
 omega
theorem zz (b:Book):∀(ts:List Torn),(∀x∈ts,x.options.length≤4)→∀now ev,(∀k∈now,0≤k∧k<4)→∀p∈bz b ts now ev,p.1.length=now.length+ts.length∧∀k∈p.1,0≤k∧k<4:=by
 intro ts
 induction ts with
 |nil=>
  intro _ now ev hn p hp
  unfold bz at hp
  split at hp
  ·simp at hp; subst hp; exact ⟨rfl,hn⟩
  ·cases hp
 |cons t ts ih=>
  intro ho now ev hn p hp
  unfold bz at hp
  obtain ⟨k,hk,hp⟩:=List.mem_flatMap.1 hp
  have hk4:k<4:=Nat.lt_of_lt_of_le (List.mem_range.1 hk) (ho t (List.mem_cons_self ..))
  have:=ih (fun x hx=>ho x (List.mem_cons_of_mem _ hx)) (now++ [(k:Int)]) _ (by
   intro y hy
   rcases List.mem_append.1 hy with h|h
   ·exact hn y h
   ·simp at h; omega) p hp
  simp at this ⊢
  exact ⟨by omega,this.2⟩
def afh (b:Book) (t:List Torn) (i:Nat):Int:=ayf (km b t (di b t).length i).list
def oz (b:Book) (t:List Torn):List (Int×Int):=(List.range t.length).map fun (i:Nat)=>((i:Int),afh b t i)
def uv (b:Book) (t:List Torn):Int×Int×Int:=
 if aq b&&iw b t then (if (di b t).length=0 then (0,0,7) else if (di b t).length=1 then (0,0,5) else ((aet (oz b t)).1,(aet (oz b t)).2,0)) else (0,0,2)
end Go.Gm.Tryz
end
section
namespace Go.Gm.Tryz
open Go.Proofs
theorem zc {ρ:Operand→Value} {H:GH} {x y:Operand} {n:Nat} (hx:ρ x=vi n) (hy:ρ y=vi n) (hn:n≤1000):
  gop T ρ H (.makeSlice 146 x y)=some (.val (.slice (some (ga H.next 0 0)) n 4) (H.push (.arr { cells:=cc n [vi 0,vi 0,vi 0,vi 0],ty:=147 }))):=by
 have h1:(0:Int)≤n∧(n:Int)=n∧32*n≤fh∧4*n≤fh:=by unfold fh; omega
 have e:gop T ρ H (.makeSlice 146 x y)=fq T ρ H 146 x y:=rfl
 rw [e]
 unfold fq
 rw [hx,hy]
 simp [ax,fh]
 omega
theorem sr {α:Type} (enc:α→List Value) (x:α):∀n:Nat,(List.replicate n x).flatMap enc=cc n (enc x):=by
 intro n
 induction n with
 |zero=>rfl
 |succ n ih=>rw [List.replicate_succ,List.flatMap_cons,ih]; rfl
theorem aqq (lb:BLoc) (b:Book) (t:List Torn) (hlen:t.length≤1000) (ta:Option Addr) (tf:Nat) (H:GH) (hb:BookIn H lb b) (ht:TornIn H ta t):
  C 58 [dl lb b,.slice ta t.length tf] H (.tuple #[vi (uv b t).1,vi (uv b t).2.1,vi (uv b t).2.2]) H:=by
 rcases lb with ⟨⟨⟨ra,rf⟩⟩,⟨oa,of'⟩,⟨va,vf⟩⟩
 refine au tok mix az6 (F:=g58) (c:=_) rfl (n:=77) rfl (rs:= [.tmp 4,.tmp 5,.tmp 6]) rfl (i8 (by simp; exact ⟨ac rfl,ac rfl,ac rfl⟩)) ?_
 simp
 generalize hH2:GH.push _ _=H2
 have hs2:Sub H H2:=by subst hH2; exact Sub.push (.refl H) _
 have k0:H2.get H.next=some (.arr { cells:= [.slice ra b.tbl.rows.length rf,vi b.tbl.draw,vi b.supply,vi b.term,vi b.persons,.slice oa b.owners.length of',.slice va b.events.length vf],ty:=28 }):=by subst hH2; simp
 have hn2:H2.next=H.next+1:=by subst hH2; simp
 clear hH2
 refine (j7 ⟨⟨⟨ra,rf⟩⟩,⟨oa,of'⟩,⟨va,vf⟩⟩ b H2 (hb.mono hs2)).go ?_
 simp
 cases hB:aq b with
 |false=>simp [uv,hB]; exact hs2
 |true=>
 simp (disch:=omega) [k0]
 refine (sc ⟨⟨⟨ra,rf⟩⟩,⟨oa,of'⟩,⟨va,vf⟩⟩ b t hlen ta tf H2 (ht.mono hs2)).go ?_
 simp
 cases hT:iw b t with
 |false=>simp [uv,hB,hT]; exact hs2
 |true=>
 have hev:b.events.length≤12:=by have:=hB; unfold aq at this; simp at this; omega
 have hto:=yu hev hT
 have ht3:=hto.len
 have c1:32*t.length≤1000000:=by omega
 have c2:4*t.length≤1000000:=by omega
 simp (disch:=omega)
 rw [zc (n:=t.length) (by simp) (by simp) (by omega)]
 have q1:¬H.next=H2.next+2:=by omega
 have q2:¬H.next=H2.next+1:=by omega
 simp (disch:=omega) [k0,q1,q2]
 with_reducible refine (wz ⟨⟨⟨_,_⟩⟩,⟨_,_⟩,⟨_,_⟩⟩ b t ta tf _).go ?_
 simp only [pu,nh,ki,pw]
 generalize hH3:GH.put (GH.push (GH.push (GH.put (GH.push H2 _) _ _) _) _) _ _=H3
 have hs3:Sub H2 H3:=by subst hH3; exact ((((Sub.push (.refl H2) _).put (Nat.le_refl _) _).push _).push _).put (by omega) _
 have r7:H3.get H2.next=some (.arr { cells:= [vi 0],ty:=3 }):=by subst hH3; simp (disch:=omega)
 have rB:H3.get (H2.next+1)=some (.arr { cells:=cc t.length [vi 0,vi 0,vi 0,vi 0],ty:=147 }):=by subst hH3; simp (disch:=omega)
 have r8:H3.get (H2.next+2)=some (.arr { cells:= [.slice (some (ga (H2.next+1) 0 0)) t.length 4],ty:=146 }):=by subst hH3; simp (disch:=omega)
 have hn3:H3.next=H2.next+3:=by subst hH3; simp
 clear hH3
 generalize hHd:GH.push (GH.push H3 _) _=Hd
 have hsd:Sub H3 Hd:=by subst hHd; exact (Sub.push (.refl H3) _).push _
 have hd1:Hd.get H3.next=some (.arr { cells:=bq ⟨⟨⟨ra,rf⟩⟩,⟨oa,of'⟩,⟨va,vf⟩⟩ b,ty:=28 }):=by subst hHd; simp (disch:=omega)
 have hd2:Hd.get (H3.next+1)=some (.arr { cells:= [.slice ta t.length tf],ty:=72 }):=by subst hHd; simp
 have hnd:Hd.next=H3.next+2:=by subst hHd; simp
 clear hHd
 have s7:=(hsd.2 _ (by omega)).trans r7
 have sB:=(hsd.2 _ (by omega)).trans rB
 have s8:=(hsd.2 _ (by omega)).trans r8
 have hsH:=hs2.trans (hs3.trans hsd)
 have harg:∀g,yy ⟨⟨⟨ra,rf⟩⟩,⟨oa,of'⟩,⟨va,vf⟩⟩ ta t g→g<H.next:=by
  rintro g (⟨a,h,rfl⟩|⟨a,h,rfl⟩|⟨a,h,rfl⟩|⟨x,hx,a,h,rfl⟩)
  ·exact (hb.t.ok a h).1
  ·exact (hb.owners.ok a h).1
  ·exact (ht.e.ok a h).1
  ·exact ((ht.o x hx).ok a h).1
 have own0:bg Hd H2.next (.slice (some (ga (H2.next+1) 0 0)) t.length 4) 147 4 akv (gy b t 0 0):=by
  rw [aln]
  exact .inr ⟨H2.next+1,0,[],[],by decide,by omega,by omega,by simp,by rw [sB,sr]; rfl⟩
 have hk64:=sx hto
 refine z8 tok mix rfl rfl (gf:=161) (first:= #[]) (captured:= #[.pointer (some (ga H3.next 0 0)),.pointer (some (ga (H3.next+1) 0 0))]) (by simp) 58 (by kernel_rfl) (by kernel_rfl) (fun H v x l o o' a b c=>wx a b c) (fun H H' v x a b=>wy a b)
  (tc hev hto hd1 hd2 (by omega) (by omega) (hb.mono hsH) (ht.mono hsH) (fun g hg=>by have:=harg g hg; omega))
  (fun k Hk Ok=>(∀g,Ok g↔g=H2.next∨g=H2.next+1)∧Hk.get H2.next=some (.arr { cells:= [vi k],ty:=3 })∧bg Hk H2.next (.slice (some (ga (H2.next+1) 0 0)) t.length 4) 147 4 akv (gy b t k 0))
  ?_ (fun g=>g=H2.next∨g=H2.next+1) ?_ ?_ ?_ ?_ ⟨fun g=>Iff.rfl,s7,own0⟩ (fun H0 H1 v ρ1=>ρ1 9=.pointer (some (ga H0.next 0 0))∧ρ1 7=.pointer (some (ga H2.next 0 0))∧ρ1 8=.pointer (some (ga (H2.next+2) 0 0))∧
   H1.get H0.next=some (.arr { cells:=br v,ty:=145 })∧H0.next<H1.next) ?_ ?_ ?_ ?_
 ·rintro k H1 H4 Ok ⟨x1,x2,x3⟩ x4 x5 x6
  refine ⟨x1,(x6 _ (x4 _ ((x1 _).2 (.inl rfl))) (.inl ((x1 _).2 (.inl rfl)))).trans x2,x3.frame x5 fun g hg=>?_⟩
  simp at hg; subst hg
  exact x6 _ (x4 _ ((x1 _).2 (.inr rfl))) (.inl ((x1 _).2 (.inr rfl)))
 ·rintro g (rfl|rfl)<;>omega
 ·rintro g (rfl|rfl) (h|h|h)
  all_goals first|omega|(have:=harg _ h; omega)
 ·rintro g (h|h|h)
  all_goals first|omega|(have:=harg _ h; omega)
 ·rintro g rfl; omega
 ·rintro H0 H1 v ρ1 l o o' ⟨x1,x2,x3,x7,x8⟩ hl ho hna
  exact ⟨x1,x2,x3,(GH.get_put_ne _ _ (by omega)).trans x7,by simpa using x8⟩
 ·rintro k hk l Hk v ⟨a,fl,ae,ef,rfl,hE,hbk,hN⟩
  simp (disch:=omega)
  exact (Sub.push (.refl Hk) _).put (Nat.le_refl _) _
 ·rintro k hk H0 Hk Ok v l d gt ρ1 ⟨e9,e7,e8,kv,hlt0⟩ hOk hn0 hnH ⟨x1,x2,x3⟩ hfr hv hvb hl1 hl2 hol hgl
  obtain ⟨a,fl,ae,ef,rfl,hE,hbk,hN,hNe⟩:=hv
  obtain ⟨hshape,hrange⟩:=zz b t hto.op [] b.events (by simp) _ (List.getElem_mem hk)
  have hnk:=hfr.next
  have m8:Hk.get (H2.next+2)=some (.arr { cells:= [.slice (some (ga (H2.next+1) 0 0)) t.length 4],ty:=146 }):=(hfr.keep _ (by omega) (by omega) (by omega)).trans s8
  have hcs:=fun i kk=>akp b t hk i kk
  generalize hp:(di b t)[k]=p at*
  obtain ⟨opts,x⟩:=p
  simp only [List.length_nil,Nat.zero_add] at hshape
  simp only [bq] at kv hE hrange hcs
  simp only [br] at kv
  have qa:¬H0.next=H2.next:=by omega
  simp (disch:=omega) [e7,e9,x2,kv,aj]
  have hE0:∀c,a=some c→c.block≠H2.next∧c.block≠H2.next+1:=fun c hc=>by have:=hN c hc; omega
  refine cv tok mix (by kernel_rfl) opts.length (fun j ρ m Hj=>ρ 8=.pointer (some (ga (H2.next+2) 0 0))∧ρ 35=.slice a opts.length fl∧ρ 36=vi opts.length∧ρ 37=vi j∧m= []∧Frm Ok Ok Hk Hj∧Hj.get H2.next=some (.arr { cells:= [vi (k+1)],ty:=3 })∧
   bg Hj H2.next (.slice (some (ga (H2.next+1) 0 0)) t.length 4) 147 4 akv (gy b t k j)) (i0:=0) (by omega)
   ⟨by simp [e8],by simp,by simp,by simp,rfl,Frm.put hfr.lt ((x1 _).2 (.inl rfl)) _,by simp,x3.frame (by simp) fun g hg=>GH.get_put_ne _ _ (by simp at hg; omega)⟩ ?_
  rintro j ρ m Hj hj ⟨f8,f35,f36,f37,rfl,ff,fc,fo⟩
  have fn:=ff.next
  have f9:Hj.get (H2.next+2)=some (.arr { cells:= [.slice (some (ga (H2.next+1) 0 0)) t.length 4],ty:=146 }):=(ff.keep _ (by omega) (fun hc=>by have:=(x1 _).1 hc; omega)).trans m8
  simp [f36,f37]
  refine ba (fun hlt=>?_) (fun hge=>?_)
  ·have hEj:Elems Hj a 1 ca opts:=hE.frm ff fun c hc ho=>by have:=hE0 c hc; have:=(x1 _).1 ho; omega
   obtain ⟨c,hc,hcl,hrd⟩:=hEj.at j hlt
   have hrj:=hrange _ (List.getElem_mem hlt)
   have hlm:j<(gy b t k j).length:=by rw [lq]; omega
   have hle:=fun kk=>aq0 b t k j kk
   have hjt:j<t.length:=by omega
   have eat:(gy b t k j)[j]=km b t k j:=by rw [ye]; simp
   have enow:∀kk,lh b t (k+1) j kk=lh b t k j kk+if opts[j]=kk then 1 else 0:=fun kk=>by
    have:=hcs j kk
    rw [show opts.getD j 0=opts[j] from bc hlt] at this
    exact this
   obtain ⟨c4,hc4,hcl4,hrd4⟩:=(fo.elems' (fun _=>rfl)).at j hlm
   cases hc4
   rw [eat] at hrd4
   have hcase:opts[j]=0∨opts[j]=1∨opts[j]=2∨opts[j]=3:=by omega
   have fread:afk (Hj.get (H2.next+1)) (j*4+opts[j].toNat) 0 1=some [vi (lh b t k j opts[j])]:=by
    rcases hcase with h|h|h|h
    ·have:=hrd4 0 1 (by omega); simpa [ack,km,h] using this
    ·have:=hrd4 1 1 (by omega); simpa [ack,km,h] using this
    ·have:=hrd4 2 1 (by omega); simpa [ack,km,h] using this
    ·have:=hrd4 3 1 (by omega); simpa [ack,km,h] using this
   have fwr:∃Hw,adw (Hj.get (H2.next+1)) (H2.next+1) (j*4+opts[j].toNat) 0 [vi (lh b t k j opts[j]+1)] Hj=some Hw∧bg Hw H2.next (.slice (some (ga (H2.next+1) 0 0)) t.length 4) 147 4 akv (gy b t k (j+1))∧Hw.next=Hj.next∧∀g,g≠H2.next+1→Hw.get g=Hj.get g:=by
    rw [←ao9]
    have go:∀kk:Nat,opts[j]=(kk:Int)→kk<4→splice kk [vi (lh b t k j opts[j]+1)] (akv (gy b t k j)[j])=akv (km b t (k+1) j)→∃Hw,adw (Hj.get (H2.next+1)) (H2.next+1) (j*4+opts[j].toNat) 0 [vi (lh b t k j opts[j]+1)] Hj=some Hw∧bg Hw H2.next (.slice (some (ga (H2.next+1) 0 0)) t.length 4) 147 4 akv ((gy b t k j).set j (km b t (k+1) j))∧Hw.next=Hj.next∧∀g,g≠H2.next+1→Hw.get g=Hj.get g:=by
     intro kk hkk hk4 hsp
     obtain ⟨Hw,w1,w2,w3,w4⟩:=fo.wr (fun _=>rfl) (i:=j) (k:=kk) hlm (c:=vi (lh b t k j opts[j]+1)) (new:= []) (by simp; omega) (y:=km b t (k+1) j) hsp
     refine ⟨Hw,?_,w2,w3,w4⟩
     have e1:opts[j].toNat=kk:=by omega
     rw [e1]
     simpa [ack] using w1
    have e0:=enow 0
    have e1:=enow 1
    have e2:=enow 2
    have e3:=enow 3
    rcases hcase with h|h|h|h
    ·exact go 0 h (by decide) (by rw [eat]; simp [km,splice,e0,e1,e2,e3,h])
    ·exact go 1 h (by decide) (by rw [eat]; simp [km,splice,e0,e1,e2,e3,h])
    ·exact go 2 h (by decide) (by rw [eat]; simp [km,splice,e0,e1,e2,e3,h])
    ·exact go 3 h (by decide) (by rw [eat]; simp [km,splice,e0,e1,e2,e3,h])
   obtain ⟨Hw,w1,w2,w3,w4⟩:=fwr
   have hb0:=hle opts[j]
   simp (disch:=omega) [f8,f35,f36,f37,hlt,hc,hrd,f9,fread,w1,aj]
   exact ⟨ff.trans ⟨by omega,fun g hg ho=>w4 g fun hc=>ho ((x1 _).2 (.inr hc)),fun g h=>.inl h,fun g hg=>by have:=ff.lt g hg; omega⟩,by rw [w4 _ (by omega)]; exact fc,w2⟩
  ·have:j=opts.length:=by omega
   subst this
   simp
   rw [hshape,alm] at fo
   exact ⟨Ok,ff,x1,fc,fo⟩
 ·rintro H' O' mk hf hmk1 hmk2 hom hgm ⟨x1,x2,x3⟩
  have hn:=hf.next
  have hsub:Sub H H':=⟨by omega,fun g hg=>(hf.keep g (by omega) (by omega) (by omega)).trans (hsH.2 g hg)⟩
  have m8:H'.get (H2.next+2)=some (.arr { cells:= [.slice (some (ga (H2.next+1) 0 0)) t.length 4],ty:=146 }):=(hf.keep _ (by omega) (by omega) (by omega)).trans s8
  generalize hL:(di b t).length=nl at*
  by_cases y1:nl=0
  ·have y1':(nl:Int)=0:=by omega
   simp (disch:=omega) [hgm,x2,y1]
   simp [uv,hB,hT,hL,y1]
  have y1':¬(nl:Int)=0:=by omega
  by_cases y2:nl=1
  ·have y2':(nl:Int)=1:=by omega
   simp (disch:=omega) [hgm,x2,y2]
   simp [uv,hB,hT,hL,y2]
  have y2':¬(nl:Int)=1:=by omega
  simp (disch:=omega) [x2,y1,y2',m8]
  have hEm:=x3.elems' (fun _=>rfl)
  have hml:(gy b t nl 0).length=t.length:=lq ..
  refine cv tok mix (by kernel_rfl) t.length (fun i ρ m H4=>ρ 56=.slice (some (ga (H2.next+1) 0 0)) t.length 4∧ρ 57=vi t.length∧ρ 58=vi i∧m= [mk]∧Sub H' H4∧bg H4 H'.next (ρ 12) 151 2 aw3 ((List.range i).map fun (i:Nat)=>((i:Int),afh b t i))) (i0:=0) (by omega)
   ⟨by simp,by simp,by simp,rfl,Sub.refl _,by simp [bg.nil]⟩ ?_
  rintro i ρ m H4 hi ⟨f56,f57,f58,rfl,fs,fo⟩
  simp [f57,f58]
  refine ba (fun hlt=>?_) (fun hge=>?_)
  ·have hil:i<(gy b t nl 0).length:=by omega
   obtain ⟨c,hc,hcl,hrd⟩:=(hEm.mono fs).at i hil
   cases hc
   have eat:(gy b t nl 0)[i]=km b t nl i:=by rw [ye]; simp
   rw [eat] at hrd
   have fread:afk (H4.get (H2.next+1)) (i*4) 0 4=some [vi (km b t nl i).a,vi (km b t nl i).b,vi (km b t nl i).c,vi (km b t nl i).d]:=by
    have:=hrd 0 4 (by omega); simpa [ack] using this
   simp (disch:=omega) [f56,f58,hlt,fread]
   generalize hH5:GH.put (GH.push H4 _) _ _=H5
   have hs5:Sub H4 H5:=by subst hH5; exact (Sub.push (.refl H4) _).put (Nat.le_refl _) _
   have k5:H5.get H4.next=some (.arr { cells:=(km b t nl i).list.map vi,ty:=147 }):=by subst hH5; simp
   have hn5:H5.next=H4.next+1:=by subst hH5; simp
   clear hH5
   have hsl:slK T (some (TKind.arr 4 3)) (.pointer (some (ga H4.next 0 0))) none none H5=some (.val (.slice (some (ga H4.next 0 0)) 4 1) H5):=by
    simp [slK,slA,k5,ga]
   rw [hsl]
   simp
   have hmx:=ayg (km b t nl i).list (by simp) (by simp) (some (ga H4.next 0 0)) 1 H5 ⟨fun _=>rfl,fun c hc=>by cases hc; exact ⟨by show H4.next<_; omega,by simp [k5,GArr.rd,afk]⟩,fun hc=>by cases hc⟩
   simp only [M4.list,List.length_cons,List.length_nil] at hmx
   refine hmx.go ?_
   have elf:ayf [(km b t nl i).a,(km b t nl i).b,(km b t nl i).c,(km b t nl i).d]=afh b t i:=by unfold afh; rw [hL]; rfl
   rw [elf]
   simp (disch:=omega)
   have fs5:=fs.trans hs5
   obtain ⟨v',H6,happ,hown',hnx,hfr6,_⟩:=((fo.sub hs5).push (.arr { cells:= [vi i,vi (afh b t i)],ty:=151 })).app (by simp) (by simp) (by decide) ((i:Int),afh b t i) (by have:=fs5.1; simp; omega)
   have hlen':=fo.len
   simp only [List.length_map,List.length_range] at hlen'
   rw [if_pos (by omega)]
   simp only [aw3] at happ
   rw [happ]
   simp (disch:=omega) [f56,f57,f58,aj]
   have f1:=fs5.1
   refine ⟨⟨by simp at hnx; omega,fun g hg=>?_⟩,?_⟩
   ·rw [hfr6 g (by simp; omega) (fun hc=>by have:=fo.blk_lt hc; omega),GH.get_push_lt _ _ (by omega),fs5.2 g hg]
   ·rw [List.range_succ,List.map_append]; exact hown'
  ·have:i=t.length:=by omega
   subst this
   have hnil:t≠ []:=by
    rintro rfl
    have:(di b []).length≤1:=sw b [] (by simp) [] b.events
    omega
   have hpl:∃x l,oz b t=x::l:=by
    cases hc:oz b t with
    |nil=>have:=congrArg List.length hc; simp [oz] at this; exact absurd this hnil
    |cons x l=>exact ⟨x,l,rfl⟩
   obtain ⟨p0,pl,hpl⟩:=hpl
   have fo:bg H4 H'.next (ρ 12) 151 2 aw3 (p0::pl):=by rw [←hpl]; exact fo
   have hplen:pl.length≤1000:=by have:=congrArg List.length hpl; simp [oz] at this; omega
   obtain ⟨ab,fb,hv12,hEb⟩:=fo.elems (fun _=>rfl)
   have hfb:fb=2:=by
    rw [hv12] at fo
    rcases fo with ⟨h,_⟩|⟨g,ver,szs,pre,h0,_,_,h,_⟩
    ·cases h
    ·cases h; rfl
   subst hfb
   have gm4:=(fs.2 mk (by omega)).trans hgm
   have hs4:=hsub.trans fs
   have hn4:=fs.1
   simp (disch:=omega) [hv12]
   have hbest:=aqv p0 pl hplen ab 2 rfl H4 hEb
   refine hbest.go ?_
   have qm:¬mk=H4.next:=by omega
   have hle:uv b t=((aet (oz b t)).1,(aet (oz b t)).2,0):=by simp [uv,hB,hT,hL,y1,y2]
   simp (disch:=omega) [gm4,hle,hpl]
   refine Sub.put (Sub.put (Sub.push hs4 _) ?_ _) ?_ _<;>omega
end Go.Gm.Tryz
end
section
namespace Go.Proofs
open Go.Shelf
def Tryz.laysM171_ren:Go.Shelf.Ren:=⟨fun|171=>169|243=>199|246=>204|283=>208|284=>209|285=>210|286=>211|129=>217|317=>216|318=>218|319=>219|320=>220|337=>226|338=>227|n=>n,fun|3=>3|9=>9|2=>2|4=>4|171=>245|0=>0|53=>246|37=>108|5=>5|173=>249|212=>257|51=>258|20=>20|213=>259|46=>260|232=>269|233=>270|n=>n,fun|17=>0|18=>4|19=>5|n=>n⟩
theorem Tryz.laysM171:Go.Proofs.LaysM.n171 Tryz.prog Tryz.laysM171_ren:= {
 mixed:=by kernel_rfl
 f129:=Tryz.func217.trans (congrArg some (by kernel_rfl))
 f171:=Tryz.func169.trans (congrArg some (by kernel_rfl))
 f243:=Tryz.func199.trans (congrArg some (by kernel_rfl))
 f246:=Tryz.func204.trans (congrArg some (by kernel_rfl))
 f283:=Tryz.func208.trans (congrArg some (by kernel_rfl))
 f284:=Tryz.func209.trans (congrArg some (by kernel_rfl))
 f285:=Tryz.func210.trans (congrArg some (by kernel_rfl))
 f286:=Tryz.func211.trans (congrArg some (by kernel_rfl))
 f317:=Tryz.func216.trans (congrArg some (by kernel_rfl))
 f318:=Tryz.func218.trans (congrArg some (by kernel_rfl))
 f319:=Tryz.func219.trans (congrArg some (by kernel_rfl))
 f320:=Tryz.func220.trans (congrArg some (by kernel_rfl))
 f337:=Tryz.func226.trans (congrArg some (by kernel_rfl))
 f338:=Tryz.func227.trans (congrArg some (by kernel_rfl))
 t0:=Tryz.underlying0
 a0:=Tryz.isAgg0
 z0:=Tryz.sizeOf0
 v0:=Tryz.zeroValue0
 t2:=Tryz.underlying2
 a2:=Tryz.isAgg2
 z2:=Tryz.sizeOf2
 v2:=Tryz.zeroValue2
 t3:=Tryz.underlying3
 a3:=Tryz.isAgg3
 z3:=Tryz.sizeOf3
 v3:=Tryz.zeroValue3
 t4:=Tryz.underlying4
 a4:=Tryz.isAgg4
 z4:=Tryz.sizeOf4
 v4:=Tryz.zeroValue4
 t5:=Tryz.underlying5
 a5:=Tryz.isAgg5
 z5:=Tryz.sizeOf5
 v5:=Tryz.zeroValue5
 t9:=Tryz.underlying9
 a9:=Tryz.isAgg9
 z9:=Tryz.sizeOf9
 v9:=Tryz.zeroValue9
 t20:=Tryz.underlying20
 a20:=Tryz.isAgg20
 z20:=Tryz.sizeOf20
 v20:=Tryz.zeroValue20
 t37:=Tryz.underlying108
 a37:=Tryz.isAgg108
 z37:=Tryz.sizeOf108
 v37:=Tryz.zeroValue108
 t46:=Tryz.underlying260
 a46:=Tryz.isAgg260
 z46:=Tryz.sizeOf260
 v46:=Tryz.zeroValue260
 t51:=Tryz.underlying258
 a51:=Tryz.isAgg258
 z51:=Tryz.sizeOf258
 v51:=Tryz.zeroValue258
 t53:=Tryz.underlying246
 a53:=Tryz.isAgg246
 z53:=Tryz.sizeOf246
 v53:=Tryz.zeroValue246
 t171:=Tryz.underlying245
 a171:=Tryz.isAgg245
 z171:=Tryz.sizeOf245
 v171:=Tryz.zeroValue245
 t173:=Tryz.underlying249
 a173:=Tryz.isAgg249
 z173:=Tryz.sizeOf249
 v173:=Tryz.zeroValue249
 t212:=Tryz.underlying257
 a212:=Tryz.isAgg257
 z212:=Tryz.sizeOf257
 v212:=Tryz.zeroValue257
 t213:=Tryz.underlying259
 a213:=Tryz.isAgg259
 z213:=Tryz.sizeOf259
 t232:=Tryz.underlying269
 a232:=Tryz.isAgg269
 z232:=Tryz.sizeOf269
 v232:=Tryz.zeroValue269
 t233:=Tryz.underlying270
 a233:=Tryz.isAgg270
 z233:=Tryz.sizeOf270
 v233:=Tryz.zeroValue270
 g17:=by kernel_rfl
 g18:=by kernel_rfl
 g19:=by kernel_rfl
 i0:=by kernel_rfl
 i2:=by kernel_rfl
 i3:=by kernel_rfl
 i4:=by kernel_rfl
 i5:=by kernel_rfl
 i9:=by kernel_rfl
 i20:=by kernel_rfl
 i37:=by kernel_rfl
 i46:=by kernel_rfl
 i51:=by kernel_rfl
 i53:=by kernel_rfl
 i171:=by kernel_rfl
 i173:=by kernel_rfl
 i212:=by kernel_rfl
 i232:=by kernel_rfl
 i233:=by kernel_rfl
 m17:=by kernel_rfl
 m18:=by kernel_rfl
 m19:=by kernel_rfl }
open Go.RowKit Go.Sort Go.Lib in
theorem Tryz.strconv_Itoa (n:Int) (h0: -9223372036854775808≤n) (h1:n≤9223372036854775807) (w:World) (htab:Lib.TabIs Tryz.prog w "internal/strconv.uint64pow10" .u64 Lib.pow10Tab):
  Calls Tryz.prog 169 #[.int .i64 n] w fun e w'=>e=.returned (.string ⟨(Lib.itoa n).toArray⟩)∧∃k os,w'=grow (w.drewN k) os:=Any.strconv_Itoa Tryz.laysM171 n h0 h1 w htab
def Tryz.lays146_ren:Go.Shelf.Ren:=⟨fun|146=>170|221=>200|268=>205|138=>206|143=>207|195=>212|197=>213|218=>214|219=>215|260=>221|217=>222|225=>223|224=>224|267=>225|266=>228|314=>229|n=>n,fun|9=>9|31=>160|3=>3|4=>4|0=>0|105=>252|21=>21|5=>5|46=>260|119=>263|139=>266|138=>265|146=>267|51=>258|n=>n,fun|1=>1|3=>2|4=>3|n=>n⟩
theorem Tryz.lays146:Go.Proofs.Lays.n146 Tryz.prog Tryz.lays146_ren:= {
 mixed:=by kernel_rfl
 f138:=Tryz.func206.trans (congrArg some (by kernel_rfl))
 f143:=Tryz.func207.trans (congrArg some (by kernel_rfl))
 f146:=Tryz.func170.trans (congrArg some (by kernel_rfl))
 f195:=Tryz.func212.trans (congrArg some (by kernel_rfl))
 f197:=Tryz.func213.trans (congrArg some (by kernel_rfl))
 f217:=Tryz.func222.trans (congrArg some (by kernel_rfl))
 f218:=Tryz.func214.trans (congrArg some (by kernel_rfl))
 f219:=Tryz.func215.trans (congrArg some (by kernel_rfl))
 f221:=Tryz.func200.trans (congrArg some (by kernel_rfl))
 f224:=Tryz.func224.trans (congrArg some (by kernel_rfl))
 f225:=Tryz.func223.trans (congrArg some (by kernel_rfl))
 f260:=Tryz.func221.trans (congrArg some (by kernel_rfl))
 f266:=Tryz.func228.trans (congrArg some (by kernel_rfl))
 f267:=Tryz.func225.trans (congrArg some (by kernel_rfl))
 f268:=Tryz.func205.trans (congrArg some (by kernel_rfl))
 f314:=Tryz.func229.trans (congrArg some (by kernel_rfl))
 t0:=Tryz.underlying0
 a0:=Tryz.isAgg0
 z0:=Tryz.sizeOf0
 v0:=Tryz.zeroValue0
 t3:=Tryz.underlying3
 a3:=Tryz.isAgg3
 z3:=Tryz.sizeOf3
 v3:=Tryz.zeroValue3
 t4:=Tryz.underlying4
 a4:=Tryz.isAgg4
 z4:=Tryz.sizeOf4
 v4:=Tryz.zeroValue4
 t5:=Tryz.underlying5
 a5:=Tryz.isAgg5
 z5:=Tryz.sizeOf5
 v5:=Tryz.zeroValue5
 t9:=Tryz.underlying9
 a9:=Tryz.isAgg9
 z9:=Tryz.sizeOf9
 v9:=Tryz.zeroValue9
 t21:=Tryz.underlying21
 a21:=Tryz.isAgg21
 z21:=Tryz.sizeOf21
 v21:=Tryz.zeroValue21
 t31:=Tryz.underlying160
 a31:=Tryz.isAgg160
 z31:=Tryz.sizeOf160
 v31:=Tryz.zeroValue160
 t46:=Tryz.underlying260
 a46:=Tryz.isAgg260
 z46:=Tryz.sizeOf260
 v46:=Tryz.zeroValue260
 t51:=Tryz.underlying258
 a51:=Tryz.isAgg258
 z51:=Tryz.sizeOf258
 v51:=Tryz.zeroValue258
 t105:=Tryz.underlying252
 a105:=Tryz.isAgg252
 z105:=Tryz.sizeOf252
 v105:=Tryz.zeroValue252
 t119:=Tryz.underlying263
 a119:=Tryz.isAgg263
 z119:=Tryz.sizeOf263
 t138:=Tryz.underlying265
 a138:=Tryz.isAgg265
 z138:=Tryz.sizeOf265
 v138:=Tryz.zeroValue265
 t139:=Tryz.underlying266
 a139:=Tryz.isAgg266
 z139:=Tryz.sizeOf266
 v139:=Tryz.zeroValue266
 t146:=Tryz.underlying267
 a146:=Tryz.isAgg267
 z146:=Tryz.sizeOf267
 v146:=Tryz.zeroValue267
 g1:=by kernel_rfl
 g3:=by kernel_rfl
 g4:=by kernel_rfl }
open Go.RowKit Go.Lib in
theorem Tryz.strings_Split (s sep:ByteArray) (m:Int) (w:World) (hs:s.size<4294967281) (hm:w.cell? ⟨1,0,none⟩=some (.int .i64 m)) (h1:1≤sep.size):
  Calls Tryz.prog 170 #[.string s,.string sep] w fun e w'=>
   e=.returned (.slice (some ⟨w.heap.size,0,none⟩) (Lib.countB s sep+1) (Lib.countB s sep+1))∧w'=w.alloc (.cells ((Lib.splitB sep 0 (Lib.countB s sep) s).map Value.string).toArray 9):=Any.strings_Split Tryz.lays146 (by kernel_rfl) s sep m w hs hm h1
end Go.Proofs
end
section
namespace Go.Gm
theorem Rel.later {β:Bm} {H:GH} {w w':World} (h:Rel β H w) (hs:w.heap.size≤w'.heap.size) (hk:∀k,k<w.heap.size→w'.heap[k]?=w.heap[k]?) (ho:w'.os=w.os) (ht:w'.tape=w.tape) (hu:w'.output=w.output):Rel β H w'∧Ext β H w β H w':=by
 have hc:∀g v L,β g v=some L→w'.heap[L.blk]?=w.heap[L.blk]?:=fun g v L hb=>hk _ (h.lt g v L hb)
 refine ⟨⟨fun g v L hb=>Nat.lt_of_lt_of_le (h.lt g v L hb) hs,h.dom,h.top,h.ver,?_,?_,?_,h.inj,?_⟩,⟨Bm.le_refl β,Nat.le_refl _,fun _ _ _ hb=>.inl hb,fun _ o ho _=>⟨o,ho,rfl⟩,fun _ _ hu=>⟨rfl,hu⟩,hs,ho,ht,hu,fun k hk' _=>hk k hk',rfl⟩⟩
 ·intro g A v L i r hA hb hi hr
  obtain ⟨rv,h1,h2⟩:=h.cell g A v L i r hA hb hi hr
  exact ⟨rv,(gg (hc _ _ _ hb)).trans h1,h2⟩
 ·intro g A L hA hro hb
  obtain ⟨rc,fr,h1,h2⟩:=h.row g A L hA hro hb
  exact ⟨rc,fr,(hc _ _ _ hb).trans h1,h2⟩
 ·intro g o L ho hia hb
  obtain ⟨r,h1,h2⟩:=h.obj g o L ho hia hb
  exact ⟨r,(hc _ _ _ hb).trans h1,h2⟩
 ·intro k r hr
  obtain ⟨h1,h2⟩:=h.fix k r hr
  exact ⟨(hk k (pt h1)).trans h1,h2⟩
theorem abq {P:Program} {T:Tab} {f:FuncId} {F:GF} (hF:FnOk P T f F) {c:Code} (hb:F.fn.body=some c):Ent P f:=fun xs w=>by
 have h1:F.fn.name≠ "runtime.NumGoroutine":=by simpa using hF.name
 simp [callFunc,hF.fn,h1,hb]
end Go.Gm
namespace Go.Gm.Tryz
open Go.Proofs Go.Sort
structure FxOk (fx:List (Nat×Obj)):Prop where
 tab:∀w:World,(∀k r,(k,r)∈fx→w.heap[k]?=some r)→Lib.TabIs Tryz.prog w "internal/strconv.uint64pow10" .u64 Lib.pow10Tab
 max:∃m,∀w:World,(∀k r,(k,r)∈fx→w.heap[k]?=some r)→w.cell? ⟨1,0,none⟩=some (.int .i64 m)
def a05 (n:Int):ByteArray:=⟨(Lib.itoa n).toArray⟩
theorem auc {H:GH} (hfx:FxOk H.fx) (n:Int) (h0: -9223372036854775808≤n) (h1:n≤9223372036854775807):C 169 [vi n] H (.string (a05 n)) H:=by
 refine ⟨abq asl rfl,fun β w args' hR hA=>callsIn_wide.2 ?_⟩
 obtain ⟨rfl⟩:args'= [vi n]:=by
  cases hA with
  |cons h t=>cases t; cases h; rfl
 refine Calls.mono (Tryz.strconv_Itoa n h0 h1 w (hfx.tab w fun k r hk=>(hR.fix k r hk).1)) ?_
 rintro e w' ⟨rfl,k,os,rfl⟩
 obtain ⟨a,b⟩:=hR.later (w':=grow (w.drewN k) os) (by simp [grow,World.drewN]) (fun j hj=>by simp [grow,World.drewN,Array.getElem?_append_left hj]) rfl rfl rfl
 exact ⟨_,β,H,⟨rfl,rfl⟩,a,b,.ret (.string _)⟩
def nx (s sep:ByteArray):List ByteArray:=Lib.splitB sep 0 (Lib.countB s sep) s
theorem ap6 {H:GH} (hfx:FxOk H.fx) (s sep:ByteArray) (hs:s.size<4294967281) (h1:1≤sep.size):
  C 170 [.string s,.string sep] H (.slice (some (ga H.next 0 0)) (nx s sep).length 1) (H.push (.arr { cells:=(nx s sep).map Value.string,ty:=9 })):=by
 refine ⟨abq asm rfl,fun β w args' hR hA=>callsIn_wide.2 ?_⟩
 obtain ⟨rfl⟩:args'= [.string s,.string sep]:=by
  cases hA with
  |cons h t=>cases t with|cons h' t'=>cases t'; cases h; cases h'; rfl
 obtain ⟨m,hm⟩:=hfx.max
 refine Calls.mono (Tryz.strings_Split s sep m w hs (hm w fun k r hk=>(hR.fix k r hk).1) h1) ?_
 rintro e w' ⟨rfl,rfl⟩
 have hlen:(nx s sep).length=Lib.countB s sep+1:=Lib.splitB_all sep h1 0 _ s rfl
 have hVs:VRs β ((nx s sep).map Value.string) ((nx s sep).map Value.string):=by
  generalize nx s sep=l
  induction l with
  |nil=>exact .nil
  |cons x l ih=>exact .cons (.string x) ih
 obtain ⟨a,b⟩:=hR.push (.arr { cells:=(nx s sep).map Value.string,ty:=9 }) (.cells ((nx s sep).map Value.string).toArray 9) ⟨w.heap.size,0,(nx s sep).length⟩ rfl
  (fun A hA=>by cases hA; exact ⟨rfl,⟨rfl,by simp⟩,_,rfl,by simp,by simpa using hVs⟩) (fun h=>by cases h)
 refine ⟨_,_,_,⟨rfl,rfl⟩,a,b,.ret ?_⟩
 rw [←hlen]
 exact .slice (Bm.upd_same _ _ _ _) (by simp) (by decide) (by simp) (Nat.le_refl _)
end Go.Gm.Tryz
end
section
namespace Go.Gm.Tryz
open Go.Proofs
theorem bkt:F.AllP (fun f G=>FnOk Tryz.prog T f G) (fun k=>k):=
 ⟨trivial,⟨trivial,⟨bkx,⟨bk0,⟨a9q,⟨azn,⟨az8,⟨a2r,⟨atl,trivial,trivial⟩,trivial⟩,⟨as3,trivial,trivial⟩⟩,⟨a0w,⟨asf,trivial,trivial⟩,trivial⟩⟩,⟨az0,⟨a0h,⟨ar2,trivial,trivial⟩,⟨a3a,trivial,trivial⟩⟩,⟨arh,⟨a23,trivial,trivial⟩,trivial⟩⟩⟩,⟨a9x,⟨a91,⟨a0b,⟨arv,⟨atu,trivial,trivial⟩,trivial⟩,⟨a25,trivial,trivial⟩⟩,⟨a2e,⟨a2u,trivial,trivial⟩,trivial⟩⟩,⟨az4,⟨a0o,⟨ar8,trivial,trivial⟩,trivial⟩,⟨a2k,⟨asv,trivial,trivial⟩,⟨ate,trivial,trivial⟩⟩⟩⟩⟩,⟨a9m,⟨a9t,⟨azr,⟨a0a,⟨arq,⟨atp,trivial,trivial⟩,trivial⟩,⟨ak8,trivial,trivial⟩⟩,⟨a00,⟨ak6,trivial,trivial⟩,trivial⟩⟩,⟨a94,⟨trivial,⟨ar4,trivial,trivial⟩,⟨a3d,trivial,trivial⟩⟩,⟨ark,⟨asr,trivial,trivial⟩,trivial⟩⟩⟩,⟨azk,⟨azw,⟨a0d,⟨ary,trivial,trivial⟩,⟨atb,trivial,trivial⟩⟩,⟨are,⟨a2w,trivial,trivial⟩,trivial⟩⟩,⟨a98,⟨a0s,⟨asc,trivial,trivial⟩,⟨a3j,trivial,trivial⟩⟩,⟨a2o,⟨asz,trivial,trivial⟩,⟨ati,trivial,trivial⟩⟩⟩⟩⟩⟩,⟨bky,⟨bk2,⟨a9s,⟨azp,⟨az9,⟨aro,⟨atn,trivial,trivial⟩,trivial⟩,⟨as4,trivial,trivial⟩⟩,⟨a0y,⟨ash,trivial,trivial⟩,⟨a3n,trivial,trivial⟩⟩⟩,⟨az2,⟨a0j,⟨qg,trivial,trivial⟩,trivial⟩,⟨a2h,⟨aso,trivial,trivial⟩,trivial⟩⟩⟩,⟨azi,⟨azu,⟨a0c,⟨arw,trivial,trivial⟩,⟨as9,trivial,trivial⟩⟩,⟨ard,⟨asl,trivial,trivial⟩,trivial⟩⟩,⟨a97,⟨a0q,⟨asa,trivial,trivial⟩,⟨a3h,trivial,trivial⟩⟩,⟨a2m,⟨asx,trivial,trivial⟩,⟨atg,trivial,trivial⟩⟩⟩⟩⟩,⟨a9o,⟨a9v,⟨a9z,⟨baf,⟨art,⟨atr,trivial,trivial⟩,trivial⟩,⟨as7,trivial,trivial⟩⟩,⟨ara,⟨ask,trivial,trivial⟩,⟨a3o,trivial,trivial⟩⟩⟩,⟨a95,⟨a0m,⟨ar6,trivial,trivial⟩,⟨a3f,trivial,trivial⟩⟩,⟨a2i,⟨ast,trivial,trivial⟩,⟨atc,trivial,trivial⟩⟩⟩⟩,⟨azl,⟨azy,⟨a0f,⟨ar0,trivial,trivial⟩,⟨a28,trivial,trivial⟩⟩,⟨a2g,⟨a2y,trivial,trivial⟩,trivial⟩⟩,⟨baa,⟨a0u,⟨ase,trivial,trivial⟩,trivial⟩,⟨a2p,⟨as1,trivial,trivial⟩,⟨ak9,trivial,trivial⟩⟩⟩⟩⟩⟩⟩,⟨bkw,⟨a92,⟨baj,⟨a9r,⟨azo,⟨bab,⟨arn,⟨atm,trivial,trivial⟩,trivial⟩,⟨ak7,trivial,trivial⟩⟩,⟨a0x,⟨asg,trivial,trivial⟩,⟨a3m,trivial,trivial⟩⟩⟩,⟨az1,⟨a0i,⟨qf,trivial,trivial⟩,⟨a3b,trivial,trivial⟩⟩,⟨ari,⟨asn,trivial,trivial⟩,trivial⟩⟩⟩,⟨azh,⟨azt,⟨bah,⟨ak5,trivial,trivial⟩,⟨a26,trivial,trivial⟩⟩,⟨arc,⟨a2v,trivial,trivial⟩,trivial⟩⟩,⟨az5,⟨a0p,⟨ar9,trivial,trivial⟩,⟨a3g,trivial,trivial⟩⟩,⟨a2l,⟨asw,trivial,trivial⟩,⟨atf,trivial,trivial⟩⟩⟩⟩⟩,⟨a9n,⟨a9u,⟨azs,⟨bae,⟨ars,⟨atq,trivial,trivial⟩,trivial⟩,⟨as6,trivial,trivial⟩⟩,⟨aq9,⟨asj,trivial,trivial⟩,trivial⟩⟩,⟨az3,⟨a0l,⟨ar5,trivial,trivial⟩,⟨a3e,trivial,trivial⟩⟩,⟨arl,⟨ass,trivial,trivial⟩,trivial⟩⟩⟩,⟨a9y,⟨azx,⟨a0e,⟨arz,trivial,trivial⟩,⟨a27,trivial,trivial⟩⟩,⟨arf,⟨a2x,trivial,trivial⟩,trivial⟩⟩,⟨a99,⟨a0t,⟨asd,trivial,trivial⟩,⟨a3k,trivial,trivial⟩⟩,⟨arm,⟨as0,trivial,trivial⟩,⟨atj,trivial,trivial⟩⟩⟩⟩⟩⟩,⟨bkz,⟨azf,⟨azg,⟨azq,⟨bac,⟨arp,⟨ato,trivial,trivial⟩,trivial⟩,⟨as5,trivial,trivial⟩⟩,⟨a0z,⟨asi,trivial,trivial⟩,trivial⟩⟩,⟨a93,⟨a0k,⟨ar3,trivial,trivial⟩,⟨a3c,trivial,trivial⟩⟩,⟨arj,⟨asq,trivial,trivial⟩,trivial⟩⟩⟩,⟨azj,⟨azv,⟨bai,⟨arx,trivial,trivial⟩,⟨ata,trivial,trivial⟩⟩,⟨a2f,⟨asm,trivial,trivial⟩,trivial⟩⟩,⟨az6,⟨a0r,⟨asb,trivial,trivial⟩,⟨a3i,trivial,trivial⟩⟩,⟨a2n,⟨asy,trivial,trivial⟩,⟨ath,trivial,trivial⟩⟩⟩⟩⟩,⟨a9p,⟨a9w,⟨a90,⟨bag,⟨aru,⟨att,trivial,trivial⟩,trivial⟩,⟨as8,trivial,trivial⟩⟩,⟨arb,⟨a2t,trivial,trivial⟩,trivial⟩⟩,⟨a96,⟨a0n,⟨ar7,trivial,trivial⟩,trivial⟩,⟨a2j,⟨asu,trivial,trivial⟩,⟨atd,trivial,trivial⟩⟩⟩⟩,⟨azm,⟨azz,⟨a0g,⟨ar1,trivial,trivial⟩,⟨a29,trivial,trivial⟩⟩,⟨arg,⟨a2z,trivial,trivial⟩,trivial⟩⟩,⟨az7,⟨a0v,⟨a2s,trivial,trivial⟩,⟨a3l,trivial,trivial⟩⟩,⟨a2q,⟨as2,trivial,trivial⟩,⟨atk,trivial,trivial⟩⟩⟩⟩⟩⟩⟩⟩
theorem fnF:∀f G,F.get f=some G→FnOk Tryz.prog T f G:=fun f G h=>Tr.allP_spec bkt f G h
end Go.Gm.Tryz
end
section
namespace Go.Gm.Tryz
open Go.Proofs
noncomputable section
def af0 (ty:Nat):Option GObj→Bool
 |some (.arr ⟨[.int .i64 n],t,0,[],false⟩)=>decide (n=0)&&Nat.beq t ty
 |_=>false
theorem aey {ty:Nat} {o:Option GObj} (h:af0 ty o=true):o=some (.arr { cells:= [vi 0],ty:=ty }):=by
 unfold af0 at h
 split at h
 ·simp only [Bool.and_eq_true,decide_eq_true_eq] at h
  rw [h.1,Nat.eq_of_beq_eq_true h.2]
 ·cases h
def ans:n7→List Value→GH→FR
 |_,[.int .i64 n],H=>if -9223372036854775808≤n∧n≤9223372036854775807 then .val (.string (a05 n)) H else .bad
 |_,_,_=>.bad
def agz:n7→List Value→GH→FR
 |_,[.string s,.string sep],H=>if s.size<4294967281∧1≤sep.size then .val (.slice (some (ga H.next 0 0)) (nx s sep).length 1) (H.push (.arr { cells:=(nx s sep).map Value.string,ty:=9 })) else .bad
 |_,_,_=>.bad
def auo (H:GH):FR→FR
 | .val _ H1=>if af0 3 (H1.get H.next)&&af0 31 (H1.get (H.next+1))&&Nat.ble (H.next+2) H1.next then .val (.tuple #[vi 0,vi 0]) ((H1.put H.next aa0).put (H.next+1) q8) else .bad
 |_=>.bad
def ayi:n7→List Value→GH→FR
 |rec,[.func (.func g) a b],H=>auo H (rec (.call g (a.toList++b.toList)) ((H.push aa0).push q8))
 |_,_,_=>.bad
def env (fx:List (Nat×Obj)):FEnv:=⟨T,F,((Tr.nil.set 169 ans).set 170 agz).set 83 ayi,fx⟩
theorem apb {f:Nat} {o:n7→List Value→GH→FR} {fx:List (Nat×Obj)} (h:(env fx).O.get f=some o):(f=83∧o=ayi)∨(f=170∧o=agz)∨(f=169∧o=ans):=by
 unfold env at h
 simp only at h
 by_cases h1:f=83
 ·subst h1; rw [Tr.get_set_same] at h; cases h; exact .inl ⟨rfl,rfl⟩
 rw [Tr.get_set_ne _ _ h1] at h
 by_cases h2:f=170
 ·subst h2; rw [Tr.get_set_same] at h; cases h; exact .inr (.inl ⟨rfl,rfl⟩)
 rw [Tr.get_set_ne _ _ h2] at h
 by_cases h3:f=169
 ·subst h3; rw [Tr.get_set_same] at h; cases h; exact .inr (.inr ⟨rfl,rfl⟩)
 rw [Tr.get_set_ne _ _ h3,Tr.get_nil] at h; cases h
theorem aq6 {fx:List (Nat×Obj)} (hfx:FxOk fx):EnvOk Tryz.prog (env fx) where
 tab:=tok
 mix:=mix
 fn:=fnF
 orc:=by
  intro f o ho rec rk args H hL
  rcases apb ho with ⟨rfl,rfl⟩|⟨rfl,rfl⟩|⟨rfl,rfl⟩
  ·have key:∀res:FR,ayi rec args H=res→(∀v H',res=.val v H'→ay Tryz.prog 83 args H (fun x h=>x=.ret v∧h=H')∧cz (env fx) H')∧(∀v H',res=.pan v H'→ay Tryz.prog 83 args H (fun x h=>x=.pan v∧h=H')∧cz (env fx) H'):=by
    intro res hres
    unfold ayi at hres
    split at hres
    ·rename_i g a b
     have hL2:cz (env fx) ((H.push aa0).push q8):=(hL.push _ (fun _ _ hc=>by cases hc)).push _ (fun _ _ hc=>by cases hc)
     cases hc:rec (.call g (a.toList++b.toList)) ((H.push aa0).push q8) with
     |val v1 H1=>
      rw [hc] at hres
      unfold auo at hres
      simp only at hres
      split at hres
      ·rename_i hchk
       simp only [Bool.and_eq_true] at hchk
       subst hres
       obtain ⟨h1,h2⟩:=rk.callV _ _ _ _ _ hL2 hc
       refine ⟨fun v H' hv=>?_,fun v H' hv=>(by cases hv)⟩
       cases hv
       refine ⟨xh (h1.mono ?_),(h2.put _ _ (fun _ _ hc=>by cases hc)).put _ _ (fun _ _ hc=>by cases hc)⟩
       rintro x h ⟨rfl,rfl⟩
       exact ⟨Nat.le_of_ble_eq_true hchk.2,aey hchk.1.1,aey hchk.1.2,rfl,rfl⟩
      ·subst hres; exact ⟨fun _ _ h=>(by cases h),fun _ _ h=>(by cases h)⟩
     |_=>rw [hc] at hres; simp only [auo] at hres; subst hres; exact ⟨fun _ _ h=>(by cases h),fun _ _ h=>(by cases h)⟩
    ·subst hres; exact ⟨fun _ _ h=>(by cases h),fun _ _ h=>(by cases h)⟩
   exact key _ rfl
  ·have key:∀res:FR,agz rec args H=res→(∀v H',res=.val v H'→ay Tryz.prog 170 args H (fun x h=>x=.ret v∧h=H')∧cz (env fx) H')∧(∀v H',res=.pan v H'→ay Tryz.prog 170 args H (fun x h=>x=.pan v∧h=H')∧cz (env fx) H'):=by
    intro res hres
    unfold agz at hres
    split at hres
    ·split at hres
     ·rename_i hc
      subst hres
      refine ⟨fun v H' hv=>?_,fun v H' hv=>(by cases hv)⟩
      cases hv
      exact ⟨ap6 (by rw [hL.2]; exact hfx) _ _ hc.1 hc.2,hL.push _ (fun _ _ hc=>by cases hc)⟩
     ·subst hres; exact ⟨fun _ _ h=>(by cases h),fun _ _ h=>(by cases h)⟩
    ·subst hres; exact ⟨fun _ _ h=>(by cases h),fun _ _ h=>(by cases h)⟩
   exact key _ rfl
  ·have key:∀res:FR,ans rec args H=res→(∀v H',res=.val v H'→ay Tryz.prog 169 args H (fun x h=>x=.ret v∧h=H')∧cz (env fx) H')∧(∀v H',res=.pan v H'→ay Tryz.prog 169 args H (fun x h=>x=.pan v∧h=H')∧cz (env fx) H'):=by
    intro res hres
    unfold ans at hres
    split at hres
    ·split at hres
     ·rename_i hc
      subst hres
      refine ⟨fun v H' hv=>?_,fun v H' hv=>(by cases hv)⟩
      cases hv
      exact ⟨auc (by rw [hL.2]; exact hfx) _ hc.1 hc.2,hL⟩
     ·subst hres; exact ⟨fun _ _ h=>(by cases h),fun _ _ h=>(by cases h)⟩
    ·subst hres; exact ⟨fun _ _ h=>(by cases h),fun _ _ h=>(by cases h)⟩
   exact key _ rfl
end
end Go.Gm.Tryz
end
section
namespace Go.Gm
theorem aoh {β:Bm} {c r:Value} (h:VR β c r):cw c=true→r=c:=by
 induction h with
 |iface _ ih=>intro hc; rw [ih hc]
 |slice=>intro hc; simp [cw] at hc
 |slice0=>intro hc; simp [cw] at hc
 |_=>intro hc; first|rfl|(cases hc)
theorem aez {β β':Bm} {c r:Value} (h:VR β c r) (hc:cw c=true):VR β' c r:=by rw [aoh h hc]; exact tq hc
def als (fx:List (Nat×Obj)) (cs:List Value) (ty:TypeId):GH:=(GH.emp fx).push (.arr { cells:=cs,ty:=ty,ro:=true })
def ag0 (L:Loc):Bm:=fun g v=>if g=0∧v=0 then some L else none
section
variable {β β':Bm} {H Hc:GH} {cs:List Value} {ty:TypeId} {w w':World} {L:Loc}
theorem mf (fx:List (Nat×Obj)) (cs:List Value) (ty:TypeId) (g:Nat):(als fx cs ty).get g=if g=0 then some (.arr { cells:=cs,ty:=ty,ro:=true }) else none:=by
 unfold als
 by_cases h:g=0
 ·subst h; rw [if_pos rfl]; exact GH.get_push_same _ _
 ·rw [if_neg h,GH.get_push_ne _ _ (by exact h)]
  simp [GH.get,GH.emp]
theorem m9 {g v:Nat} {M:Loc} (h:ag0 L g v=some M):g=0∧v=0∧M=L:=by
 unfold ag0 at h
 split at h
 ·rename_i hg; cases h; exact ⟨hg.1,hg.2,rfl⟩
 ·cases h
theorem aam (hc:∀c∈cs,cw c=true) {i:Nat} (hi:i<cs.length):cw (cs.getD i undef)=true:=by
 rw [List.getD_eq_getElem?_getD,List.getElem?_eq_getElem hi]; exact hc _ (List.getElem_mem hi)
theorem ayl (hc:∀c∈cs,cw c=true) (hR:Rel β H w) {a:Addr} {len fl:Nat} {r:Value} (hv:VR β (.slice (some a) len fl) r) (_hfl:fl≠0) (hlen:0<len) (hr:H.read a cs.length=some cs):
  ∃L,Rel (ag0 L) (als H.fx cs ty) w∧VR (ag0 L) (.slice (some (ga 0 0 0)) len fl) r:=by
 cases hv with
 |slice0=>omega
 |@slice g off v r len c fl L e hoff h0 hcap hle=>
  refine ⟨⟨L.blk,r,L.cap⟩,⟨?_,?_,?_,?_,?_,?_,?_,?_,?_⟩,.slice (L:=⟨L.blk,r,L.cap⟩) (by simp [ag0]) (by simp) h0 hcap hle⟩
  ·intro g' v' M h; obtain ⟨_,_,rfl⟩:=m9 h; have:=hR.lt _ _ _ e; exact this
  ·intro g' v' M h; obtain ⟨rfl,_,_⟩:=m9 h; show 0<0+1; omega
  ·intro g' o h; rw [mf] at h; split at h
   ·rename_i hg; subst hg; show 0<0+1; omega
   ·cases h
  ·intro g' B v' M h hb; obtain ⟨_,rfl,_⟩:=m9 hb; exact Nat.zero_le _
  ·intro g' B v' M i r' h hb hi hri
   obtain ⟨rfl,rfl,rfl⟩:=m9 hb
   rw [mf,if_pos rfl] at h; cases h
   have hi:i<cs.length:=by simpa [GArr.rd] using hi
   unfold GH.read at hr
   simp only at hr
   split at hr
   ·rename_i s A hs hA
    cases hs
    split at hr
    ·rename_i hle2
     have hcs:=Option.some.inj hr
     obtain ⟨rv,h1,h2⟩:=hR.cell _ _ _ _ (off+i) r' hA e (by omega) (by simp at hri; omega)
     have hcell:cs.getD i undef=A.cells.getD (off+i) undef:=by
      have hcc:((A.cells.drop off).take cs.length)[i]?=A.cells[off+i]?:=by rw [List.getElem?_take,if_pos hi,List.getElem?_drop]
      rw [hcs] at hcc
      rw [List.getD_eq_getElem?_getD,List.getD_eq_getElem?_getD,hcc]
     refine ⟨rv,h1,?_⟩
     rw [hcell]
     refine aez h2 ?_
     rw [←hcell]
     exact aam hc hi
    ·cases hr
   ·cases hr
  ·intro g' B M h hro hb
   rw [mf] at h; split at h
   ·cases h; cases hro
   ·cases h
  ·intro g' o M h hna hb
   rw [mf] at h; split at h
   ·cases h; cases hna
   ·cases h
  ·intro g' v' M g2 v2 M' o hb hb' h hrw _
   rw [mf] at h; split at h
   ·cases h; cases hrw
   ·cases h
  ·intro k q hk
   obtain ⟨h1,h2⟩:=hR.fix k q hk
   refine ⟨h1,fun g' v' M o hb h hrw=>?_⟩
   rw [mf] at h; split at h
   ·cases h; cases hrw
   ·cases h
theorem auq (hE:Ext (ag0 L) (als H.fx cs ty) w β' Hc w'):∀k,k<w.heap.size→w'.heap[k]?=w.heap[k]?:=fun k hk=>hE.blk k hk fun g v M o hb _ ho=>by
 rw [mf] at ho
 split at ho
 ·cases ho; rfl
 ·cases ho
theorem ayj (hE:Ext (ag0 L) (als H.fx cs ty) w β' Hc w') {g v:Nat} {M:Loc} (hg:g≠0) (hb:β' g v=some M):w.heap.size≤M.blk:=by
 rcases hE.new g v M hb with h|h|⟨v',L',h,e⟩
 ·exact absurd (m9 h).1 hg
 ·exact h
 ·exact absurd (m9 h).1 hg
end
theorem av1 {β β':Bm} {H Hc:GH} {w0 w':World} (hR:Rel β H w') (hR':Rel β' Hc w') (hlow:∀g v L o,β g v=some L→H.get g=some o→o.rw=true→L.blk<w0.heap.size)
  {g ver off n:Nat} {B:GArr} {L:Loc} (hg:Hc.get g=some (.arr B)) (hb:β' g ver=some L) (hhi:w0.heap.size≤L.blk) (hn:off+n≤B.rd ver) (hc:∀c∈(B.cells.drop off).take n,cw c=true) (_hd:0≤(off:Int)+L.d):
  Rel (β.upd H.next 0 ⟨L.blk,(off:Int)+L.d,L.cap⟩) (H.push (.arr { cells:=(B.cells.drop off).take n,ty:=B.ty,ro:=true })) w':=by
 have hle:β.le (β.upd H.next 0 ⟨L.blk,(off:Int)+L.d,L.cap⟩):=Bm.le_upd (hR.fresh 0)
 have hrd:B.rd ver≤B.cells.length:=by
  unfold GArr.rd
  split
  ·exact Nat.le_refl _
  ·split
   ·generalize B.ver - 1 - ver=k
    have:∀(l:List Nat) (k b:Nat),rdL l k b≤b:=by
     intro l
     induction l with
     |nil=>intro k b; simp [rdL]
     |cons s ss ih=>
      intro k b
      cases k with
      |zero=>simp only [rdL]; omega
      |succ k=>simp only [rdL]; exact Nat.le_trans (ih k _) (by omega)
    exact this _ _ _
   ·omega
 have hlen:((B.cells.drop off).take n).length=n:=by rw [List.length_take,List.length_drop]; omega
 have split:∀g' v M,β.upd H.next 0 ⟨L.blk,(off:Int)+L.d,L.cap⟩ g' v=some M→(g'=H.next∧v=0∧M=⟨L.blk,(off:Int)+L.d,L.cap⟩)∨(g'<H.next∧β g' v=some M):=by
  intro g' v M e
  by_cases c:g'=H.next∧v=0
  ·obtain ⟨rfl,rfl⟩:=c; rw [Bm.upd_same] at e; cases e; exact .inl ⟨rfl,rfl,rfl⟩
  ·rw [Bm.upd_ne c] at e; exact .inr ⟨hR.dom _ _ _ e,e⟩
 have getN:∀g' o',(H.push (.arr { cells:=(B.cells.drop off).take n,ty:=B.ty,ro:=true })).get g'=some o'→(g'=H.next∧o'=.arr { cells:=(B.cells.drop off).take n,ty:=B.ty,ro:=true })∨(g'<H.next∧H.get g'=some o'):=by
  intro g' o' e
  by_cases c:g'=H.next
  ·subst c; rw [GH.get_push_same] at e; cases e; exact .inl ⟨rfl,rfl⟩
  ·rw [GH.get_push_ne _ _ c] at e; exact .inr ⟨hR.top _ _ e,e⟩
 refine ⟨?_,?_,?_,?_,?_,?_,?_,?_,?_⟩
 ·intro g' v M e
  rcases split _ _ _ e with ⟨_,_,rfl⟩|⟨_,e⟩
  ·have:=hR'.lt _ _ _ hb
   exact this
  ·exact hR.lt _ _ _ e
 ·intro g' v M e
  rcases split _ _ _ e with ⟨rfl,_,_⟩|⟨h,_⟩<;>simp<;>omega
 ·intro g' o e
  rcases getN _ _ e with ⟨rfl,_⟩|⟨h,_⟩<;>simp<;>omega
 ·intro g' A v M e e'
  rcases getN _ _ e with ⟨rfl,hA⟩|⟨h,e⟩
  ·rcases split _ _ _ e' with ⟨_,rfl,_⟩|⟨h,_⟩
   ·exact Nat.zero_le _
   ·omega
  ·rcases split _ _ _ e' with ⟨rfl,_,_⟩|⟨_,e'⟩
   ·omega
   ·exact hR.ver _ _ _ _ e e'
 ·intro g' A v M i r e e' hi hr
  rcases getN _ _ e with ⟨rfl,hA⟩|⟨h,e⟩
  ·rcases split _ _ _ e' with ⟨_,rfl,rfl⟩|⟨h,_⟩
   ·cases hA
    have hi:i<n:=by simpa [GArr.rd,hlen] using hi
    obtain ⟨rv,h1,h2⟩:=hR'.cell _ _ _ _ (off+i) r hg hb (by omega) (by simp at hr; omega)
    have hcell:((B.cells.drop off).take n).getD i undef=B.cells.getD (off+i) undef:=by
     rw [List.getD_eq_getElem?_getD,List.getD_eq_getElem?_getD,List.getElem?_take,if_pos hi,List.getElem?_drop]
    refine ⟨rv,h1,?_⟩
    rw [hcell]
    refine aez h2 ?_
    rw [←hcell]
    exact aam hc (by omega)
   ·omega
  ·rcases split _ _ _ e' with ⟨rfl,_,_⟩|⟨_,e'⟩
   ·omega
   ·obtain ⟨rv,h1,h2⟩:=hR.cell _ _ _ _ _ _ e e' hi hr
    exact ⟨rv,h1,h2.mono hle⟩
 ·intro g' A M e hro e'
  rcases getN _ _ e with ⟨rfl,hA⟩|⟨h,e⟩
  ·cases hA; cases hro
  ·rcases split _ _ _ e' with ⟨rfl,_,_⟩|⟨_,e'⟩
   ·omega
   ·exact hR.row _ _ _ e hro e'
 ·intro g' o M e hna e'
  rcases getN _ _ e with ⟨rfl,rfl⟩|⟨h,e⟩
  ·cases hna
  ·rcases split _ _ _ e' with ⟨rfl,_,_⟩|⟨_,e'⟩
   ·omega
   ·obtain ⟨r,h1,h2,h3⟩:=hR.obj _ _ _ e hna e'
    exact ⟨r,h1,h2.mono hle,h3⟩
 ·intro g1 v M g2 v' M' o e e' ho hrw hbk
  rcases getN _ _ ho with ⟨_,rfl⟩|⟨h,ho⟩
  ·cases hrw
  ·rcases split _ _ _ e with ⟨rfl,_,_⟩|⟨_,e⟩
   ·omega
   ·rcases split _ _ _ e' with ⟨_,_,rfl⟩|⟨_,e'⟩
    ·have:=hlow _ _ _ _ e ho hrw
     simp only at hbk
     omega
    ·exact hR.inj _ _ _ _ _ _ _ e e' ho hrw hbk
 ·intro k r hk
  obtain ⟨h1,h2⟩:=hR.fix k r hk
  refine ⟨h1,fun g' v M o e ho hrw=>?_⟩
  rcases getN _ _ ho with ⟨_,rfl⟩|⟨h,ho⟩
  ·cases hrw
  ·rcases split _ _ _ e with ⟨rfl,_,_⟩|⟨_,e⟩
   ·omega
   ·exact h2 _ _ _ _ e ho hrw
structure Imp (n0:Nat) (β0:Bm) (H0:GH) (β:Bm) (H:GH) (w':World):Prop where
 rel:Rel β H w'
 le:β0.le β
 sub:Sub H0 H
 low:∀g v L o,β g v=some L→H.get g=some o→o.rw=true→L.blk<n0
 new:∀g v L,β g v=some L→β0 g v=some L∨n0≤L.blk
 un:∀g,g<H0.next→(∀v,β0 g v=none)→∀v,β g v=none
 fx:H.fx=H0.fx
def iq (H:GH) (v:Value) (fl:Nat) (exp:List Value):Bool:=
 match v with
 | .slice (some ⟨g,off,some ver⟩) n fl'=>Nat.beq fl' fl&&(!Nat.beq g 0&&(Nat.beq (n*fl) exp.length&&(match H.get g with
  |some (.arr B)=>Nat.ble (off+n*fl) (B.rd ver)&&veq.veqs (veq 2) ((B.cells.drop off).take (n*fl)) exp
  |_=>false)))
 |_=>false
theorem Imp.slice {β0 β β':Bm} {H0 H Hc:GH} {w w':World} (h:Imp w.heap.size β0 H0 β H w') (hR':Rel β' Hc w') (hnew:∀g v L,g≠0→β' g v=some L→w.heap.size≤L.blk) {v r:Value} (hv:VR β' v r) {fl n:Nat} {exp:List Value} (hs:iq Hc v fl exp=true)
  (hfl:fl≠0) (hz:n≠0) (hexp:∀c∈exp,cw c=true) (hn:exp.length=n*fl):
  ∃β2 H2 b,Imp w.heap.size β0 H0 β2 H2 w'∧β.le β2∧Sub H H2∧VR β2 (.slice (some b) n fl) r∧b.block<H2.next∧H2.read b exp.length=some exp:=by
 unfold iq at hs
 split at hs
 ·rename_i g off ver n' fl'
  simp only [Bool.and_eq_true,Bool.not_eq_true'] at hs
  obtain ⟨h1,h2,h3,h4⟩:=hs
  have h1:=Nat.eq_of_beq_eq_true h1
  have h2:g≠0:=Nat.ne_of_beq_eq_false h2
  have h3:=Nat.eq_of_beq_eq_true h3
  subst h1
  have hnn:n'=n:=Nat.eq_of_mul_eq_mul_right (Nat.pos_of_ne_zero hfl) (h3.trans hn)
  subst hnn
  split at h4
  ·rename_i B hB
   simp only [Bool.and_eq_true] at h4
   have h5:=Nat.le_of_ble_eq_true h4.1
   have h6:=w5 (fun v w=>z1 2 v w) h4.2
   obtain ⟨L,hL,hreal⟩:∃L,β' g ver=some L∧((∃r0 c:Nat,r=.slice (some ⟨L.blk,r0,none⟩) n' c∧(r0:Int)=off+L.d∧r0+c*fl'≤L.cap∧n'≤c)∨(n'=0∧∃a0,r=.slice (some a0) 0 0)):=by
    cases hv with
    |slice e hr h0 hcap hle=>exact ⟨_,e,.inl ⟨_,_,rfl,hr,hcap,hle⟩⟩
    |slice0 a0 e=>exact ⟨_,e,.inr ⟨rfl,_,rfl⟩⟩
   have hd:0≤(off:Int)+L.d∨n'=0:=by
    rcases hreal with ⟨r0,c,_,hr,_⟩|⟨h,_⟩
    ·left; omega
    ·right; exact h
   have hd:0≤(off:Int)+L.d:=hd.resolve_right hz
   have hrel:=av1 (w0:=w) h.rel hR' h.low (n:=n'*fl') hB hL (hnew _ _ _ h2 hL) h5 (by rw [h6]; exact hexp) hd
   rw [h6] at hrel
   have hle:β.le (β.upd H.next 0 ⟨L.blk,(off:Int)+L.d,L.cap⟩):=Bm.le_upd (h.rel.fresh 0)
   have split:∀g' v M,β.upd H.next 0 ⟨L.blk,(off:Int)+L.d,L.cap⟩ g' v=some M→(g'=H.next∧v=0∧M=⟨L.blk,(off:Int)+L.d,L.cap⟩)∨(g'<H.next∧β g' v=some M):=by
    intro g' v M e
    by_cases c:g'=H.next∧v=0
    ·obtain ⟨rfl,rfl⟩:=c; rw [Bm.upd_same] at e; cases e; exact .inl ⟨rfl,rfl,rfl⟩
    ·rw [Bm.upd_ne c] at e; exact .inr ⟨h.rel.dom _ _ _ e,e⟩
   have hsub:=h.sub.1
   refine ⟨_,_,ga H.next 0 0,⟨hrel,Bm.le_trans h.le hle,h.sub.push _,?_,?_,?_,h.fx⟩,hle,Sub.push (.refl H) _,?_,by simp [ga],?_⟩
   ·intro g' v M o e ho hrw
    rcases split _ _ _ e with ⟨rfl,_,_⟩|⟨hlt,e⟩
    ·rw [GH.get_push_same] at ho; cases ho; cases hrw
    ·rw [GH.get_push_lt _ _ hlt] at ho; exact h.low _ _ _ _ e ho hrw
   ·intro g' v M e
    rcases split _ _ _ e with ⟨_,_,rfl⟩|⟨_,e⟩
    ·exact .inr (by have:=hnew _ _ _ h2 hL; exact this)
    ·exact h.new _ _ _ e
   ·intro g' hg' hu v
    rw [Bm.upd_ne (by rintro ⟨rfl,_⟩; omega)]
    exact h.un g' hg' hu v
   ·rcases hreal with ⟨r0,c,rfl,hr,hcap,hle'⟩|⟨h,_⟩
    ·exact .slice (L:=⟨L.blk,(off:Int)+L.d,L.cap⟩) (Bm.upd_same _ _ _ _) (by simp; omega) hfl hcap hle'
    ·exact absurd h hz
   ·simp only [GH.read,ga]
    rw [GH.get_push_same]
    simp [GArr.rd]
  ·cases h4
 ·cases hs
theorem Imp.start {β:Bm} {H:GH} {w w':World} (hR:Rel β H w) (hR':Rel β H w'):Imp w.heap.size β H β H w':=
 ⟨hR',Bm.le_refl β,.refl H,fun g v L _o hb _ _=>hR.lt g v L hb,fun _ _ _ h=>.inl h,fun _ _ h=>h,rfl⟩
theorem Imp.ext {β0 β:Bm} {H0 H:GH} {w w':World} (h:Imp w.heap.size β0 H0 β H w') (hs:w.heap.size≤w'.heap.size) (hk:∀k,k<w.heap.size→w'.heap[k]?=w.heap[k]?) (ho:w'.os=w.os) (ht:w'.tape=w.tape) (hu:w'.output=w.output):Ext β0 H0 w β H w':=
 ⟨h.le,h.sub.1,fun g v L hb=>(h.new g v L hb).imp id .inl,fun g o hg hlt=>⟨o,by rw [←h.sub.2 g hlt]; exact hg,rfl⟩,fun g hlt hu=>⟨h.sub.2 g hlt,h.un g hlt hu⟩,hs,ho,ht,hu,fun k hk' _=>hk k hk',h.fx⟩
end Go.Gm
end
end
