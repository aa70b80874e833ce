/- The function GrantLess, called with any register, any torn places, any place, any option, any number of a grant, any person and any day, returns true, and never panics: by the model of the language, for every input that the card fits, and under the card's conditions alone. -/
import Derived.Test.YtmnfgajihkfahaaGreatDoorBb6
import Derived.Test.YtmnfgajihkfahaaGreatDoorTie
noncomputable section
section
namespace Go.Gm.Tryz
open Go.Proofs
@[simp] theorem bla:ah 5 g17.plans=some [(0,[]),(1,[]),(2,[]),(3,[]),(4,[]),(5,[]),(6,[]),(7,[]),(8,[]),(9,[]),(10,[]),(11,[]),(12,[]),(13,[]),(14,[]),(15,[]),(16,[6]),(17,[]),(18,[]),(19,[])]:=ai rfl
@[simp] theorem bli:ah 4 g53.plans=some [(0,[]),(1,[]),(2,[]),(3,[]),(4,[]),(5,[]),(6,[]),(7,[]),(8,[]),(9,[]),(10,[]),(11,[]),(12,[]),(13,[]),(14,[]),(15,[]),(16,[]),(17,[]),(18,[]),(19,[]),(20,[]),(21,[]),(22,[]),(23,[]),(24,[]),(25,[]),(26,[]),(27,[]),(28,[]),(29,[]),(30,[]),(31,[]),(32,[]),(33,[]),(34,[]),(35,[]),(36,[]),(37,[]),(38,[])]:=ai rfl
@[simp] theorem blj:ah 9 g53.plans=some [(0,[]),(1,[]),(2,[]),(3,[]),(4,[]),(5,[]),(6,[]),(7,[]),(8,[]),(9,[]),(10,[])]:=ai rfl
end Go.Gm.Tryz
end
section
namespace Go.Gm.Tryz
open Go.Proofs
theorem qv {b:Book} (h:nw b=true):b.tbl.rows.length≤15∧b.events.length≤14∧b.owners.length≤8∧(aq b=true→b.tbl.rows.length≤4):=by
 have h':=h
 simp [nw] at h'
 refine ⟨by omega,by omega,by omega,fun hB=>?_⟩
 have ht:=xj hB
 simp [ht] at h'
 omega
end Go.Gm.Tryz
end
section
namespace Go.Gm
end Go.Gm
namespace Go.Gm.Tryz
open Go.Proofs
def choicesL:List Torn→List (List Int)
 | []=> [[]]
 |t::ts=>(List.range t.options.length).flatMap fun (k:Nat)=>(choicesL ts).map fun c=>(k:Int)::c
def setEv (ev:List Ev) (p:Torn×Int):List Ev:=ev.set p.1.event.toNat (p.1.options.getD p.2.toNat default)
def chosenEv (ts:List Torn) (c:List Int) (ev:List Ev):List Ev:=(ts.zip c).foldl setEv ev
def chosenB (b:Book) (t:List Torn) (c:List Int):Book:= { b with events:=chosenEv t c b.events }
theorem chosenEv_cons (t:Torn) (ts:List Torn) (k:Int) (c:List Int) (ev:List Ev):chosenEv (t::ts) (k::c) ev=chosenEv ts c (setEv ev (t,k)):=rfl
theorem truthsFrom_eq (b:Book):∀(ts:List Torn) (now:List Int) (ev:List Ev),
  bz b ts now ev=((choicesL ts).filter fun c=>yv { b with events:=chosenEv ts c ev }).map fun c=>(now++c,{ b with events:=chosenEv ts c ev }):=by
 intro ts
 induction ts with
 |nil=>
  intro now ev
  have e:chosenEv [] [] ev=ev:=rfl
  simp only [bz,choicesL,List.filter_cons,List.filter_nil,e]
  split<;>simp [e]
 |cons t ts ih=>
  intro now ev
  simp only [bz,choicesL]
  rw [List.filter_flatMap,List.map_flatMap]
  congr 1
  funext k
  rw [ih,List.filter_map,List.map_map]
  have e:∀c,chosenEv (t::ts) ((k:Int)::c) ev=chosenEv ts c (ev.set t.event.toNat (t.options.getD k default)):=fun c=>by
   rw [chosenEv_cons]
   simp [setEv]
  simp only [Function.comp_def,e,List.append_assoc,List.singleton_append]
def okC (b:Book) (t:List Torn) (c:List Int):Bool:=yv (chosenB b t c)
def goodL (b:Book) (t:List Torn):List (List Int):=(choicesL t).filter (okC b t)
theorem truthsL_eq (b:Book) (t:List Torn):di b t=(goodL b t).map fun c=>(c,chosenB b t c):=by
 unfold di
 rw [truthsFrom_eq]
 rfl
theorem truths_good (b:Book) (t:List Torn):(di b t).length=(goodL b t).length:=by rw [truthsL_eq,List.length_map]
theorem choices_len:∀ {t:List Torn},(∀x∈t,x.options.length≤4)→(choicesL t).length≤4^t.length:=by
 intro t
 induction t with
 |nil=>intro _; simp [choicesL]
 |cons t ts ih=>
  intro h
  have h1:=ih fun x hx=>h x (List.mem_cons_of_mem _ hx)
  have h2:=h t (by simp)
  simp only [choicesL,List.length_flatMap,List.length_map,List.map_const',List.length_range,List.sum_replicate_nat,List.length_cons,Nat.pow_succ]
  rw [Nat.mul_comm]
  exact Nat.mul_le_mul h1 h2
theorem choices_le {t:List Torn} (hl:t.length≤3) (h:∀x∈t,x.options.length≤4):(choicesL t).length≤64:=
 Nat.le_trans (choices_len h) (Nat.le_trans (Nat.pow_le_pow_right (by decide) hl) (by decide))
theorem has_count (b:Book) (t:List Torn) (g p d:Int):((di b t).countP fun x=>ald x.2 g p d)=(goodL b t).countP fun c=>ald (chosenB b t c) g p d:=by
 rw [truthsL_eq,List.countP_map]
 rfl
theorem torn_oks {b:Book} {t:List Torn} (h:iw b t=true) (hE:b.events.length≤12):TornOk b t∧∀x∈t,1≤x.options.length:=by
 simp only [iw,Bool.and_eq_true,List.all_eq_true,List.mem_range,Bool.not_eq_true',decide_eq_true_eq] at h
 have key:∀x∈t,(0≤x.event∧x.event<b.events.length)∧x.options.length≤4∧1≤x.options.length:=fun x hx=>by
  obtain ⟨i,hi,rfl⟩:=List.mem_iff_getElem.1 hx
  have:=h.1 i hi
  unfold pa at this
  rw [tAt,bc hi] at this
  simp only [Bool.or_eq_false_iff,Bool.not_eq_false',inI,decide_eq_true_eq] at this
  rw [aj ((b.events.length:Int) - 1) (by omega) (by omega)] at this
  omega
 exact ⟨⟨h.2,fun x hx=>(key x hx).1,fun x hx=>(key x hx).2.1⟩,fun x hx=>(key x hx).2.2⟩
end Go.Gm.Tryz
end
section
namespace Go.Gm.Tryz
open Go.Proofs
def briefB (t:List Torn):Bool:=(t.take 5).all (fun x=>decide (x.options.length≤6))&&decide (t.length≤5)
theorem brief_con (t:List Torn) (a:Option Addr) (fl:Nat) (H:GH) (hT:TornIn H a t):C 51 [.slice a t.length fl] H (.bool (briefB t)) H:=by
 refine au tok mix a94 (F:=g51) (c:=_) rfl (n:=24) rfl (rs:= [.tmp 2]) rfl (ac rfl) ?_
 simp
 refine cv tok mix (by kernel_rfl) 5 (fun i ρ m H'=>ρ 0=.slice a t.length fl∧ρ 3=vi i∧m= []∧H'=H∧∀j (h:j<t.length),j<i→t[j].options.length≤6) (i0:=0) (by omega) (by simp) ?_
 rintro i ρ m H hi ⟨e0,e3,rfl,rfl,hj⟩
 have yes:(∀j (h:j<t.length),j<5→t[j].options.length≤6)→briefB t=decide (t.length≤5):=fun h=>by
  have:((t.take 5).all fun x=>decide (x.options.length≤6))=true:=by
   rw [List.all_eq_true]
   intro x hx
   obtain ⟨j,hjl,rfl⟩:=List.mem_iff_getElem.1 hx
   rw [List.length_take] at hjl
   rw [List.getElem_take]
   exact decide_eq_true (h j (by omega) (by omega))
  rw [briefB,this,Bool.true_and]
 by_cases h1:i<t.length
 ·by_cases h2:i<5
  ·obtain ⟨b,rfl,hb,hrd⟩:=hT.e.at i h1
   have h1I:(i:Int)<t.length:=by omega
   have h2I:(i:Int)<5:=by omega
   simp (disch:=omega) [e0,e3,h1,h2,h1I,h2I,hrd]
   by_cases h3:t[i].options.length≤6
   ·have h4:¬6<t[i].options.length:=by omega
    have h4I:¬(6:Int)<t[i].options.length:=by omega
    simp (disch:=omega) [e0,e3,h4,h4I,aj,h1,h2]
    refine fun j h hji=>?_
    by_cases hc:j=i
    ·subst hc; exact h3
    ·exact hj j h (by omega)
   ·have h4:6<t[i].options.length:=by omega
    have h4I:(6:Int)<t[i].options.length:=by omega
    have hbad:briefB t=false:=by
     have:((t.take 5).all fun x=>decide (x.options.length≤6))=false:=by
      rw [List.all_eq_false]
      exact ⟨t[i],List.mem_take_iff_getElem.2 ⟨i,by omega,rfl⟩,by simpa using h4⟩
     rw [briefB,this,Bool.false_and]
    simp (disch:=omega) [h4,h4I,hbad]
  ·have:i=5:=by omega
   subst this
   have h1I:(5:Int)<t.length:=by omega
   have hn:¬t.length≤5:=by omega
   have hnI:¬(t.length:Int)≤5:=by omega
   simp (disch:=omega) [e0,e3,h1,h1I,yes fun j h hj5=>hj j h hj5,hn,hnI]
 ·have hn:t.length≤5:=by omega
  have hnI:(t.length:Int)≤5:=by omega
  have h1I:¬(i:Int)<t.length:=by omega
  simp (disch:=omega) [e0,e3,h1,h1I,yes fun j h _=>hj j h (by omega),hn,hnI]
theorem brief_le {t:List Torn} (h:briefB t=true):t.length≤5:=by
 simp only [briefB,Bool.and_eq_true,decide_eq_true_eq] at h
 exact h.2
theorem rTorn_con (l:BLoc) (b:Book) (t:List Torn) (ht:t.length≤1000) (a:Option Addr) (fl:Nat) (H:GH) (hT:TornIn H a t):C 53 [dl l b,.slice a t.length fl] H (.bool (iw b t)) H:=by
 rcases l with ⟨⟨⟨ra,rf⟩⟩,⟨oa,of'⟩,⟨va,vf⟩⟩
 refine au tok mix a95 (F:=g53) (c:=_) rfl (n:=76) rfl (rs:= [.tmp 4]) rfl (ac rfl) ?_
 simp
 generalize hH1:GH.push H _=H1
 have hs1:Sub H H1:=by subst hH1; exact Sub.push (.refl H) _
 have hg1:H1.get H.next=some (.arr { cells:=bq ⟨⟨⟨ra,rf⟩⟩,⟨oa,of'⟩,⟨va,vf⟩⟩ b,ty:=28 }):=by subst hH1; simp
 have hn1:H.next<H1.next:=by subst hH1; simp
 have hT1:=hT.mono hs1
 clear hH1
 refine cv tok mix (by kernel_rfl) t.length (fun i ρ m H'=>ρ 1=.slice a t.length fl∧ρ 2=.pointer (some (ga H.next 0 0))∧ρ 5=vi i∧m= []∧H'=H1∧∀j,j<i→pa b t j=false) (i0:=0) (by omega) (by simp) ?_
 rintro i ρ m H1 hi ⟨e1,e2,e5,rfl,rfl,hj⟩
 simp [e1,e5]
 refine ba (fun hlt=>?_) (fun hge=>?_)
 case refine_2=>
  simp [e1]
  have h8:(List.range t.length).all (fun i=> !pa b t i)=true:=by
   rw [List.all_eq_true]
   intro j hjm
   rw [hj j (by have:=List.mem_range.1 hjm; omega)]; rfl
  simp [iw,h8]
  refine ⟨by omega,hs1⟩
 obtain ⟨c,rfl,hcl,hrd⟩:=hT1.e.at i hlt
 have ea:tAt t i=t[i]:=bc hlt
 have hop:=hT1.o _ (List.getElem_mem hlt)
 have hltI:(i:Int)<t.length:=by omega
 have hfalse:pa b t i=true→iw b t=false:=fun h=>by
  have:(List.range t.length).all (fun i=> !pa b t i)=false:=by
   rw [List.all_eq_false]
   exact ⟨i,List.mem_range.2 hlt,by simp [h]⟩
  simp [iw,this]
 have hbad:pa b t i=(!inI t[i].event 0 (IntKind.i64.wrap (b.events.length - 1))||(decide (0<i)&&decide (t[i].event≤(tAt t (i - 1)).event))|| !inI t[i].options.length 1 4||t[i].options.any (fun e=> !bv b e)):=by
  unfold pa; rw [ea]
 simp (disch:=omega) [e1,e2,e5,hlt,hrd,hg1]
 with_reducible refine (o6 _ _ _ _).go ?_
 cases c1:inI t[i].event 0 (IntKind.i64.wrap (b.events.length - 1)) with
 |false=>
  simp (disch:=omega) [hfalse (by rw [hbad,c1]; simp),hs1]
 |true=>
  by_cases h6:0<i
  ·obtain ⟨c',hc',_,hrd'⟩:=hT1.e.at (i - 1) (by omega)
   cases hc'
   have e5':((i:Int) - 1).toNat=i - 1:=by omega
   have ep:tAt t (i - 1)=t[i - 1]:=bc (by omega)
   have h6I:(0:Int)<i:=by omega
   by_cases h5:t[i].event≤t[i - 1].event
   ·simp (disch:=omega) [e1,e5,h6,h6I,aj,e5',hrd',hrd,h5,hfalse (by rw [hbad,c1,ep]; simp [h6,h5]),hs1]
   ·have h7:(decide (0<i)&&decide (t[i].event≤(tAt t (i - 1)).event))=false:=by rw [ep]; simp; omega
    simp (disch:=omega) [e1,e5,h6,h6I,aj,e5',hrd',hrd,h5]
    with_reducible refine (o6 _ _ _ _).go ?_
    cases c2:inI t[i].options.length 1 4 with
    |false=>simp (disch:=omega) [hfalse (by rw [hbad,c1,c2]; simp),hs1]
    |true=>
     have hol:t[i].options.length≤4:=by simp [inI] at c2; omega
     simp (disch:=omega)
     refine cv tok mix (by kernel_rfl) t[i].options.length (fun k ρ m H'=>ρ 1=.slice (some c) t.length fl∧ρ 2=.pointer (some (ga H.next 0 0))∧ρ 5=vi i∧ρ 6=vi k∧m= []∧H'=H1∧∀j (h:j<t[i].options.length),j<k→bv b t[i].options[j]=true) (i0:=0) (by omega) (by simp [e1,e2,e5]) ?_
     rintro k ρ m H1 hk ⟨d1,d2,d5,d6,rfl,rfl,hev⟩
     simp (disch:=omega) [d1,d5,d6,hrd]
     refine ba (fun hkl=>?_) (fun hkg=>?_)
     ·obtain ⟨co,hco,_,hro⟩:=hop.at k hkl
      have hkI:(k:Int)<t[i].options.length:=by omega
      simp (disch:=omega) [d1,d2,d5,d6,hrd,hg1,hco,hro]
      with_reducible refine (al5 ⟨⟨⟨_,_⟩⟩,⟨_,_⟩,⟨_,_⟩⟩ b t[i].options[k] _).go ?_
      rw [aq7]
      simp
      cases hex:bv b t[i].options[k]
      ·have hany:t[i].options.any (fun e=> !bv b e)=true:=List.any_eq_true.2 ⟨_,List.getElem_mem hkl,by simp [hex]⟩
       simp (disch:=omega) [hfalse (by rw [hbad,c1,c2,hany]; simp),hs1]
      ·simp (disch:=omega) [d1,d2,d5,d6,aj,hkI]
       refine ⟨by omega,fun j h hjk=>?_⟩
       by_cases hc:j=k
       ·subst hc; exact hex
       ·exact hev j h (by omega)
     ·have c3:t[i].options.any (fun e=> !bv b e)=false:=by
       rw [List.any_eq_false]
       intro e he
       obtain ⟨j,hjl,rfl⟩:=List.mem_iff_getElem.1 he
       simp [hev j hjl (by omega)]
      simp (disch:=omega) [d1,d2,d5,aj,hltI]
      refine fun j hji=>?_
      by_cases hc:j=i
      ·subst hc; rw [hbad,c1,c2,c3,h7]; rfl
      ·exact hj j (by omega)
  ·have h7:(decide (0<i)&&decide (t[i].event≤(tAt t (i - 1)).event))=false:=by simp; omega
   have h6I:¬(0:Int)<i:=by omega
   simp (disch:=omega) [e1,e5,h6,h6I,hrd]
   with_reducible refine (o6 _ _ _ _).go ?_
   cases c2:inI t[i].options.length 1 4 with
   |false=>simp (disch:=omega) [hfalse (by rw [hbad,c1,c2]; simp),hs1]
   |true=>
    have hol:t[i].options.length≤4:=by simp [inI] at c2; omega
    simp (disch:=omega)
    refine cv tok mix (by kernel_rfl) t[i].options.length (fun k ρ m H'=>ρ 1=.slice (some c) t.length fl∧ρ 2=.pointer (some (ga H.next 0 0))∧ρ 5=vi i∧ρ 6=vi k∧m= []∧H'=H1∧∀j (h:j<t[i].options.length),j<k→bv b t[i].options[j]=true) (i0:=0) (by omega) (by simp [e1,e2,e5]) ?_
    rintro k ρ m H1 hk ⟨d1,d2,d5,d6,rfl,rfl,hev⟩
    simp (disch:=omega) [d1,d5,d6,hrd]
    refine ba (fun hkl=>?_) (fun hkg=>?_)
    ·obtain ⟨co,hco,_,hro⟩:=hop.at k hkl
     have hkI:(k:Int)<t[i].options.length:=by omega
     simp (disch:=omega) [d1,d2,d5,d6,hrd,hg1,hco,hro]
     with_reducible refine (al5 ⟨⟨⟨_,_⟩⟩,⟨_,_⟩,⟨_,_⟩⟩ b t[i].options[k] _).go ?_
     rw [aq7]
     simp
     cases hex:bv b t[i].options[k]
     ·have hany:t[i].options.any (fun e=> !bv b e)=true:=List.any_eq_true.2 ⟨_,List.getElem_mem hkl,by simp [hex]⟩
      simp (disch:=omega) [hfalse (by rw [hbad,c1,c2,hany]; simp),hs1]
     ·simp (disch:=omega) [d1,d2,d5,d6,aj,hkI]
      refine ⟨by omega,fun j h hjk=>?_⟩
      by_cases hc:j=k
      ·subst hc; exact hex
      ·exact hev j h (by omega)
    ·have c3:t[i].options.any (fun e=> !bv b e)=false:=by
      rw [List.any_eq_false]
      intro e he
      obtain ⟨j,hjl,rfl⟩:=List.mem_iff_getElem.1 he
      simp [hev j hjl (by omega)]
     simp (disch:=omega) [d1,d2,d5,aj,hltI]
     refine fun j hji=>?_
     by_cases hc:j=i
     ·subst hc; rw [hbad,c1,c2,c3,h7]; rfl
     ·exact hj j (by omega)
end Go.Gm.Tryz
end
section
namespace Go.Gm.Tryz
open Go.Proofs
def partCh (rest:List (List Int)) (k j:Nat):List (List Int):=((List.range k).flatMap fun (n:Nat)=>rest.map fun c=>(n:Int)::c)++(rest.take j).map fun c=>(k:Int)::c
end Go.Gm.Tryz
end
section
namespace Go.Gm.Tryz
open Go.Proofs
def chosenTo (t:List Torn) (c:List Int) (ev:List Ev) (i:Nat):List Ev:=((t.zip c).take i).foldl setEv ev
end Go.Gm.Tryz
end
section
namespace Go.Gm.Tryz
open Go.Proofs
def goodTo (b:Book) (t:List Torn) (i:Nat):List (List Int):=((choicesL t).take i).filter (okC b t)
end Go.Gm.Tryz
end
section
namespace Go.Gm.Tryz
open Go.Proofs
def hasTo (b:Book) (t:List Torn) (g p d:Int) (i:Nat):Nat:=((goodL b t).take i).countP fun c=>ald (chosenB b t c) g p d
theorem hasTo_all {b:Book} {t:List Torn} {g p d:Int}:hasTo b t g p d (goodL b t).length=(goodL b t).countP fun c=>ald (chosenB b t c) g p d:=by rw [hasTo,List.take_length]
theorem good_len {b:Book} {t:List Torn} (h:(choicesL t).length≤64):(goodL b t).length≤64:=Nat.le_trans (List.length_filter_le _ _) h
end Go.Gm.Tryz
end
section
namespace Go.Gm.Tryz
open Go.Proofs
def cntK (cs:List (List Int)) (p:Nat) (k:Int) (n:Nat):Nat:=(cs.take n).countP fun c=>decide (c.getD p 0=k)
def outK (cs:List (List Int)) (p:Nat):Nat→Int
 |0=>0
 |k+1=>if outK cs p k<(cntK cs p k cs.length:Nat) then (cntK cs p k cs.length:Nat) else outK cs p k
def lookN (L:Nat→Int):Nat→Nat
 |0=>0
 |i+1=>if L i<L (lookN L i) then i else lookN L i
end Go.Gm.Tryz
end
section
namespace Go.Gm.Tryz
open Go.Proofs
def choiceB (t:List Torn) (c:List Int):Bool:=decide (c∈choicesL t)
end Go.Gm.Tryz
end
section
namespace Go.Gm.Tryz
open Go.Proofs
theorem bool_neq (a b:Bool):dx T .neq 4 (.bool a) (.bool b)=some (.bool (a != b)):=by cases a<;>cases b<;>exact ai rfl
end Go.Gm.Tryz
end
section
namespace Go.Gm.Tryz
open Go.Proofs
def Narrow (x:Torn) (k:Nat) (y:Torn):Prop:=y.event=x.event∧y.options= [x.options.getD k default]
def allEv:List Torn→List Ev→List (List Ev)
 | [],ev=> [ev]
 |t::ts,ev=>t.options.flatMap fun o=>allEv ts (ev.set t.event.toNat o)
theorem range_options {α:Type} [Inhabited α] (l:List α):(List.range l.length).map (fun k=>l.getD k default)=l:=by
 apply List.ext_getElem
 ·simp
 ·intro i h1 h2
  rw [List.getElem_map,List.getElem_range,List.getD_eq_getElem?_getD,List.getElem?_eq_getElem h2]
  rfl
theorem choices_all:∀(l:List Torn) (ev:List Ev),((choicesL l).map fun c=>chosenEv l c ev)=allEv l ev:=by
 intro l
 induction l with
 |nil=>intro ev; rfl
 |cons t ts ih=>
  intro ev
  simp only [choicesL,allEv]
  rw [List.map_flatMap]
  have e:(fun k:Nat=>List.map (fun c=>chosenEv (t::ts) c ev) (List.map (fun c=>(k:Int)::c) (choicesL ts)))=fun k:Nat=>allEv ts (ev.set t.event.toNat (t.options.getD k default)):=by
   funext k
   rw [List.map_map,←ih]
   congr 1
  rw [e]
  conv=>rhs; rw [←range_options t.options]
  rw [List.flatMap_map]
def okE (b:Book) (ev:List Ev):Bool:=yv { b with events:=ev }
def hasE (b:Book) (g p d:Int) (ev:List Ev):Bool:=ald { b with events:=ev } g p d
def goodE (b:Book) (l:List Torn):List (List Ev):=(allEv l b.events).filter (okE b)
theorem goodE_eq (b:Book) (l:List Torn):goodE b l=(goodL b l).map fun c=>chosenEv l c b.events:=by
 unfold goodE goodL
 rw [←choices_all,List.filter_map]
 rfl
theorem goodE_len (b:Book) (l:List Torn):(goodE b l).length=(goodL b l).length:=by rw [goodE_eq,List.length_map]
theorem goodE_has (b:Book) (l:List Torn) (g p d:Int):hasTo b l g p d (goodL b l).length=(goodE b l).countP (hasE b g p d):=by
 rw [hasTo_all,goodE_eq,List.countP_map]
 rfl
def Less (x:Torn) (k:Nat) (y:Torn):Prop:=y.event=x.event∧y.options=x.options.eraseIdx k
theorem sub_flatMap {α β:Type} {f g:α→List β} (h:∀x,List.Sublist (f x) (g x)):∀ {l m:List α},List.Sublist l m→List.Sublist (l.flatMap f) (m.flatMap g):=by
 intro l m hs
 induction hs with
 |slnil=>exact List.Sublist.slnil
 |cons a _ ih=>
  rw [List.flatMap_cons]
  exact ih.trans (List.sublist_append_right _ _)
 |cons_cons a _ ih=>
  rw [List.flatMap_cons,List.flatMap_cons]
  exact List.Sublist.append (h a) ih
theorem all_less {x y:Torn} {k:Nat} (hy:Less x k y):∀ {l:List Torn} {p:Nat} (hp:p<l.length),l[p]=x→∀ev,List.Sublist (allEv (l.set p y) ev) (allEv l ev):=by
 intro l
 induction l with
 |nil=>intro p hp; simp at hp
 |cons t ts ih=>
  intro p hp hx ev
  cases p with
  |zero=>
   simp only [List.getElem_cons_zero] at hx
   subst hx
   simp only [List.set_cons_zero,allEv,hy.1,hy.2]
   exact sub_flatMap (fun o=>List.Sublist.refl _) (List.eraseIdx_sublist _ _)
  |succ p=>
   simp only [List.getElem_cons_succ] at hx
   simp only [List.set_cons_succ,allEv]
   exact sub_flatMap (fun o=>ih (by simpa using hp) hx _) (List.Sublist.refl _)
theorem good_less {b:Book} {l:List Torn} {p k:Nat} (hp:p<l.length) {y:Torn} (hy:Less l[p] k y):List.Sublist (goodE b (l.set p y)) (goodE b l):=(all_less hy hp rfl b.events).filter _
theorem may_less {b:Book} {l m:List Torn} (h:List.Sublist (goodE b m) (goodE b l)) (g p d:Int):(goodL b m).length≤(goodL b l).length∧
  ((goodL b m).length≠0→(aum (goodL b l).length (hasTo b l g p d (goodL b l).length)).1≠2→(aum (goodL b m).length (hasTo b m g p d (goodL b m).length)).1=(aum (goodL b l).length (hasTo b l g p d (goodL b l).length)).1):=by
 rw [←goodE_len,←goodE_len b l]
 have hl:=h.length_le
 refine ⟨hl,fun hm hne=>?_⟩
 rw [goodE_len,goodE_len,goodE_has,goodE_has,←goodE_len,←goodE_len b l] at*
 have hc:=h.countP_le (p:=hasE b g p d)
 have hlm:=List.countP_le_length (p:=hasE b g p d) (l:=goodE b m)
 have hll:=List.countP_le_length (p:=hasE b g p d) (l:=goodE b l)
 unfold aum at hne ⊢
 rw [if_neg (by omega)] at hne
 rw [if_neg hm,if_neg (show ¬(goodE b l).length=0 by omega)]
 by_cases c1:(goodE b l).countP (hasE b g p d)=(goodE b l).length
 ·have hall:=List.countP_eq_length.1 c1
  have:(goodE b m).countP (hasE b g p d)=(goodE b m).length:=List.countP_eq_length.2 fun x hx=>hall x (h.subset hx)
  rw [if_pos c1,if_pos this]
 ·rw [if_neg c1] at hne ⊢
  by_cases c2:0<(goodE b l).countP (hasE b g p d)
  ·rw [if_pos c2] at hne; simp at hne
  ·have c3:(goodE b l).countP (hasE b g p d)=0:=by omega
   have c4:(goodE b m).countP (hasE b g p d)=0:=by omega
   rw [if_neg c2,c4,if_neg (by omega),if_neg (by omega)]
end Go.Gm.Tryz
end
section
namespace Go.Gm
theorem Elems.drop {α:Type} {H:GH} {sz:Nat} {enc:α→List Value} {l:List α} {a:Addr} (h:Elems H (some a) sz enc l) (i:Nat) (hi:i≤l.length):Elems H (some (ku a (i*sz))) sz enc (l.drop i):=by
 refine ⟨h.len,fun b hb=>?_,fun hn=>by cases hn⟩
 cases hb
 obtain ⟨h1,h2⟩:=h.ok a rfl
 refine ⟨h1,?_⟩
 have:=zr h2 (k:=i*sz) (m:=(l.drop i).length*sz) (by rw [List.length_drop,←Nat.add_mul]; exact Nat.mul_le_mul_right _ (by omega))
 rw [agd h.len,List.take_of_length_le (by rw [jc h.len]; exact Nat.le_refl _)] at this
 exact this
end Go.Gm
namespace Go.Gm.Tryz
open Go.Proofs
theorem tAt_set {l:List Torn} {p:Nat} {y:Torn} (hp:p<l.length) (i:Nat):tAt (l.set p y) i=if i=p then y else tAt l i:=by
 unfold tAt
 rw [List.getD_eq_getElem?_getD,List.getD_eq_getElem?_getD,List.getElem?_set]
 by_cases h:p=i
 ·subst h; simp [hp]
 ·rw [if_neg h,if_neg (fun hc=>h hc.symm)]
theorem torn_event {b:Book} {l:List Torn} (h:iw b l=true) {x:Torn} (hx:x∈l) {e:Ev} (he:e∈x.options):bv b e=true:=by
 simp only [iw,Bool.and_eq_true,List.all_eq_true,List.mem_range,Bool.not_eq_true'] at h
 obtain ⟨i,hi,rfl⟩:=List.mem_iff_getElem.1 hx
 have:=h.1 i hi
 unfold pa at this
 rw [tAt,bc hi] at this
 simp only [Bool.or_eq_false_iff,List.any_eq_false,Bool.not_eq_true',Bool.not_eq_true,Bool.not_eq_false] at this
 have:=this.2 e he
 simpa using this
theorem areTorn_set {b:Book} {l:List Torn} {p:Nat} {y:Torn} (h:iw b l=true) (hp:p<l.length) (he:y.event=l[p].event) (hl:1≤y.options.length∧y.options.length≤4) (ho:∀e∈y.options,bv b e=true):iw b (l.set p y)=true:=by
 simp only [iw,Bool.and_eq_true,List.all_eq_true,List.mem_range,Bool.not_eq_true',decide_eq_true_eq] at h ⊢
 have hev:∀i,(tAt (l.set p y) i).event=(tAt l i).event:=fun i=>by
  rw [tAt_set hp]
  by_cases hi:i=p
  ·subst hi; rw [if_pos rfl,he,tAt,bc hp]
  ·rw [if_neg hi]
 refine ⟨fun i hi=>?_,by rw [List.length_set]; exact h.2⟩
 rw [List.length_set] at hi
 have hb:=h.1 i hi
 unfold pa at hb ⊢
 rw [hev,hev]
 simp only [Bool.or_eq_false_iff] at hb ⊢
 refine ⟨⟨hb.1.1,?_⟩,?_⟩
 ·rw [tAt_set hp]
  by_cases hi:i=p
  ·subst hi; rw [if_pos rfl]; simp [inI]; omega
  ·rw [if_neg hi]; exact hb.1.2
 ·rw [tAt_set hp]
  by_cases hi:i=p
  ·subst hi
   rw [if_pos rfl,List.any_eq_false]
   intro e hem
   simp [ho e hem]
  ·rw [if_neg hi]; exact hb.2
end Go.Gm.Tryz
end
section
namespace Go.Gm
theorem Elems.takeN {α:Type} {H:GH} {sz:Nat} {enc:α→List Value} {l:List α} {a:Addr} (h:Elems H (some a) sz enc l) (m:Nat) (hm:m≤l.length):Elems H (some a) sz enc (l.take m):=by
 refine ⟨h.len,fun b hb=>?_,fun hn=>by cases hn⟩
 cases hb
 obtain ⟨h1,h2⟩:=h.ok a rfl
 refine ⟨h1,?_⟩
 have hl:=jc h.len
 have e:(l.take m).length=m:=by rw [List.length_take]; omega
 have:=zr h2 (k:=0) (m:=(l.take m).length*sz) (by rw [e,Nat.zero_add]; exact Nat.mul_le_mul_right _ hm)
 rw [List.drop_zero] at this
 refine this.trans (congrArg some ?_)
 have e2:l.flatMap enc=(l.take m).flatMap enc++(l.drop m).flatMap enc:=by rw [←List.flatMap_append,List.take_append_drop]
 rw [e2,←hl,List.take_left' rfl]
end Go.Gm
namespace Go.Gm.Tryz
open Go.Proofs
end Go.Gm.Tryz
end
section
namespace Go.Gm.Tryz
open Go.Proofs
theorem fx_app2 {H H':GH} {ety:TypeId} {es n:Nat} {s v:Value} {new:List Value} (h:gv H ety es s n new=some (v,H')):H'.fx=H.fx:=by
 unfold gv at h
 repeat' split at h
 all_goals first|(cases h; rfl)|cases h
theorem fx_wr2 {H H':GH} {a:Addr} {new:List Value} (h:H.write a new=some H'):H'.fx=H.fx:=by
 unfold GH.write at h
 repeat' split at h
 all_goals first|(cases h; rfl)|cases h
theorem less_law {H:GH} {l:BLoc} {b:Book} (hb:BookIn H l b) (hfx:FxOk H.fx) {s:SLoc} {t:List Torn} (hT:TornIn H s.a t) (hs:awp s 2) (hO8:∀x∈t,awp x.loc 8) (place option grant person day:Int):C 17 [dl l b,.slice s.a t.length s.fl,vi place,vi option,vi grant,vi person,vi day] H (.bool true) H:=by
 refine au tok mix a9s (F:=g17) (c:=_) rfl (n:=205) rfl (rs:= [.tmp 14]) rfl (ac rfl) ?_
 rcases l with ⟨⟨⟨ra,rf⟩⟩,⟨oa,of'⟩,⟨va,vf⟩⟩
 simp
 generalize hH1:GH.push H _=H1
 have hs1:Sub H H1:=by subst hH1; exact Sub.push (.refl H) _
 have k0:H1.get H.next=some (.arr { cells:=bq ⟨⟨⟨ra,rf⟩⟩,⟨oa,of'⟩,⟨va,vf⟩⟩ b,ty:=28 }):=by subst hH1; simp
 have hn1:H1.next=H.next+1:=by subst hH1; simp
 have hf1:FxOk H1.fx:=by subst hH1; exact hfx
 have hb1:=hb.mono hs1
 have hT1:=hT.mono hs1
 clear hH1
 with_reducible refine (uc ⟨⟨⟨_,_⟩⟩,⟨_,_⟩,⟨_,_⟩⟩ b _ hb1).go ?_
 simp
 cases hsh:nw b
 ·simp
  refine (cx hf1).go ?_
  simp
  exact hs1
 obtain ⟨h15,h14,h8,h4⟩:=qv hsh
 simp
 refine (brief_con t s.a s.fl _ hT1).go ?_
 simp
 cases hbr:briefB t
 ·simp
  refine (cx hf1).go ?_
  simp
  exact hs1
 have hl5:=brief_le hbr
 simp [k0]
 with_reducible refine (py ⟨⟨⟨_,_⟩⟩,⟨_,_⟩,⟨_,_⟩⟩ b _ hb1 (by omega)).go ?_
 simp
 cases hB:aq b
 ·simp
  refine (cx hf1).go ?_
  simp
  exact hs1
 simp [k0]
 with_reducible refine (rTorn_con ⟨⟨⟨_,_⟩⟩,⟨_,_⟩,⟨_,_⟩⟩ b t (by omega) s.a s.fl _ hT1).go ?_
 simp
 cases ht:iw b t
 ·simp
  refine (cx hf1).go ?_
  simp
  exact hs1
 have hbo:=l8 hB
 obtain ⟨hO,hge1⟩:=torn_oks ht hbo.events
 have hop:∀x∈t,1≤x.options.length∧x.options.length≤4:=fun x hx=>⟨hge1 x hx,hO.op x hx⟩
 have hl3:=hO.len
 by_cases hp0:place<0
 ·simp [hp0]
  refine (cx hf1).go ?_
  simp
  exact hs1
 obtain ⟨p,rfl⟩:∃p:Nat,place=p:=⟨place.toNat,by omega⟩
 by_cases hpl:t.length≤p
 ·have hplI:(t.length:Int)≤p:=by omega
  simp [hp0,hpl,hplI]
  refine (cx hf1).go ?_
  simp
  exact hs1
 have hplI:¬(t.length:Int)≤p:=by omega
 have hp:p<t.length:=by omega
 have hpI:(p:Int)<t.length:=by omega
 by_cases ho0:option<0
 ·simp [hp0,hpl,hplI,ho0]
  refine (cx hf1).go ?_
  simp
  exact hs1
 obtain ⟨o,rfl⟩:∃o:Nat,option=o:=⟨option.toNat,by omega⟩
 have hm:=List.getElem_mem hp
 have h14o:=hop _ hm
 obtain ⟨a1,ha1,_,hrd1⟩:=hT1.e.at p hp
 by_cases hol:t[p].options.length≤o
 ·have holI:(t[p].options.length:Int)≤o:=by omega
  simp (disch:=omega) [hp0,hpl,hplI,ho0,ha1,hrd1,hol,holI]
  refine (cx hf1).go ?_
  simp
  exact hs1
 have holI:¬(t[p].options.length:Int)≤o:=by omega
 by_cases ho2:t[p].options.length<2
 ·have ho2I:(t[p].options.length:Int)<2:=by omega
  simp (disch:=omega) [hp0,hpl,hplI,ho0,ha1,hrd1,hol,holI,ho2,ho2I]
  refine (cx hf1).go ?_
  simp
  exact hs1
 have ho2I:¬(t[p].options.length:Int)<2:=by omega
 simp (disch:=omega) [hp0,hpl,hplI,ho0,ha1,hrd1,hol,holI,ho2,ho2I]
 refine (lu _ _).go ?_
 simp
 cases hg:dv grant
 ·simp
  refine (cx hf1).go ?_
  simp
  exact hs1
 simp [k0]
 with_reducible refine (ji ⟨⟨⟨_,_⟩⟩,⟨_,_⟩,⟨_,_⟩⟩ b _ _).go ?_
 simp
 cases hpr:az b person
 ·simp
  refine (cx hf1).go ?_
  simp
  exact hs1
 simp
 refine (sq _ _).go ?_
 simp
 cases hd:fu day
 ·simp
  refine (cx hf1).go ?_
  simp
  exact hs1
 obtain ⟨v2,H2,happ2,o2,n2,f2,_⟩:=(bg.nil (H:=H1) (N:=H1.next) (ty:=88) (sz:=2) (enc:=bkv)).apps (fun _=>rfl) (fun _=>rfl) (by decide) t (Nat.le_refl _)
 simp only [List.nil_append] at o2
 have s2:Sub H1 H2:=⟨n2,fun g hg=>f2 g hg (by simp)⟩
 have x2:=fx_app2 happ2
 have hrs:=hT1.e.readS
 have q1:32*t.length≤1000000:=by omega
 have q2:t.length≤1000000:=by omega
 obtain ⟨a2,cf2,rfl⟩:=o2.slice
 have hT2:=hT1.mono s2
 obtain ⟨b2,hb2,_,hrd2⟩:=hT2.e.at p hp
 rw [ha1] at hb2
 cases hb2
 obtain ⟨bo,hbo,hbol,hro⟩:=(hT2.o _ hm).at o (by omega)
 have hfl:t[p].loc.fl=8:=by
  rcases hO8 _ hm with ⟨h,_⟩|⟨a,_,h⟩
  ·rw [hbo] at h; cases h
  ·exact h
 have hEo:=hT2.o _ hm
 rw [hbo] at hEo
 have hrA:=((hEo.drop 0 (by omega)).takeN o (by rw [List.length_drop]; omega)).readS
 have hlo:((t[p].options.drop 0).take o).length=o:=by rw [List.length_take,List.length_drop]; omega
 obtain ⟨v3,H3,happ3,o3,n3,f3,_⟩:=(bg.nil (H:=H2) (N:=H2.next) (ty:=57) (sz:=8) (enc:=jb)).apps (fun _=>rfl) (fun _=>rfl) (by decide) ((t[p].options.drop 0).take o) (Nat.le_refl _)
 simp only [List.nil_append] at o3
 have s3:Sub H2 H3:=⟨n3,fun g hg=>f3 g hg (by simp)⟩
 have x3:=fx_app2 happ3
 obtain ⟨a3,c3,rfl⟩:=o3.slice
 have hrB:=((hEo.mono s3).drop (o+1) (by omega)).readS
 have hldr:(t[p].options.drop (o+1)).length=t[p].options.length - (o+1):=List.length_drop ..
 obtain ⟨v4,H4,happ4,o4,n4,f4,_⟩:=o3.apps (fun _=>rfl) (fun _=>rfl) (by decide) (t[p].options.drop (o+1)) n3
 have s4:Sub H2 H4:=⟨by omega,fun g hg=>by rw [f4 g (by omega) (fun hc=>by have:=(o3.blk_lt hc).1; omega),s3.2 g hg]⟩
 have x4:=fx_app2 happ4
 have o24:=o2.sub s4
 obtain ⟨a4,c4,rfl,hE4⟩:=o4.elems (fun _=>rfl)
 have hopts:(t[p].options.drop 0).take o++t[p].options.drop (o+1)=t[p].options.eraseIdx o:=by rw [List.drop_zero,List.eraseIdx_eq_take_drop_succ]
 have hlen4:(t[p].options.eraseIdx o).length=t[p].options.length - 1:=List.length_eraseIdx_of_lt (by omega)
 rw [hopts] at o4 hE4 happ4
 rw [hlo] at happ3 hrA happ4
 rw [hldr] at happ4 hrB
 rw [List.drop_zero] at happ3
 cases a2 with
 |none=>
  have:=(o2.elems' (fun _=>rfl)).nil rfl
  rw [this] at hp
  simp at hp
 |some a2=>
  obtain ⟨y,hy⟩:∃y:Torn,y=⟨⟨a4,c4⟩,t[p].event,t[p].options.eraseIdx o⟩:=⟨_,rfl⟩
  obtain ⟨H5,hw,o5,n5,f5⟩:=o24.wr (fun _=>rfl) (i:=p) (k:=0) hp (c:=vi t[p].event) (new:= [.slice a4 (t[p].options.eraseIdx o).length c4]) (by simp) (y:=y) (by simp [splice,hy])
  have hbk:=(o24.blk_lt o24.blk_some).1
  have x5:=fx_wr2 hw
  have s5:Sub H1 H5:=⟨by omega,fun g hg=>by rw [f5 g (by omega),s4.2 g (by omega),s2.2 g hg]⟩
  have hf5:FxOk H5.fx:=by rw [x5,x4,x3,x2]; exact hf1
  have k5:=(s5.2 H.next (by omega)).trans k0
  have hs15:=hs1.trans s5
  rw [ha1,a7i] at hrs
  rw [a7i,Nat.zero_mul] at hrA
  rw [a7i] at hrB
  obtain ⟨b3,hb3,_,hrd3⟩:=(hT2.mono s3).e.at p hp
  rw [ha1] at hb3
  cases hb3
  obtain ⟨b4,hb4,_,hrd4⟩:=(hT2.mono s4).e.at p hp
  rw [ha1] at hb4
  cases hb4
  have r1:o≤t[p].options.length:=by omega
  have r2:64*o≤1000000:=by omega
  have r3:o≤1000000:=by omega
  have r4:(0:Int)≤(o:Int)+1:=by omega
  have r5:(o:Int)+1≤t[p].options.length:=by omega
  have r6:((o:Int)+1).toNat=o+1:=by omega
  have r7:64*(t[p].options.length - (o+1)+o)≤1000000:=by omega
  have r8:t[p].options.length - (o+1)+o≤1000000:=by omega
  simp (disch:=omega) [ha1,hrs,happ2,q1,q2,hrd2,hbo,hfl,hrA,happ3,aj,r1,r2,r3,r4,r5,r6,r7,r8,hrB,happ4,hw,k5,hrd3,hrd4]
  have hT5:=hT.mono hs15
  have hLess:Less t[p] o y:=by rw [hy]; exact ⟨rfl,rfl⟩
  have hyl:y.options.length=t[p].options.length - 1:=by rw [hLess.2,hlen4]
  have hT5y:TornIn H5 (some a2) (t.set p y):=by
   refine ⟨o5.elems' (fun _=>rfl),fun x hx=>?_⟩
   rcases List.mem_or_eq_of_mem_set hx with hx|rfl
   ·exact hT5.o x hx
   ·rw [hy]
    exact (o4.frame (by omega) fun g hg=>f5 g (fun hc=>by have:=(o4.blk_lt hg).1; have:=(o2.blk_lt o2.blk_some).2; omega)).elems' (fun _=>rfl)
  have hlen:(t.set p y).length=t.length:=List.length_set ..
  have hset:iw b (t.set p y)=true:=areTorn_set ht hp hLess.1 (by omega) (fun e he=>torn_event ht hm (List.mem_of_mem_eraseIdx (by rw [hLess.2] at he; exact he)))
  have hsub:=good_less (b:=b) hp hLess
  obtain ⟨g1,g2⟩:=may_less hsub grant person day
  have c1:ab0 b t=(((goodL b t).length:Int),0):=by simp [ab0,hB,ht,truths_good]
  have c2:ab0 b (t.set p y)=(((goodL b (t.set p y)).length:Int),0):=by simp [ab0,hB,hset,truths_good]
  have c3:abd b t grant person day=aum (goodL b t).length (hasTo b t grant person day (goodL b t).length):=by
   simp only [abd,ox,hB,ht,hg,hpr,hd,Bool.and_self,if_true,truths_good,has_count,hasTo_all]
  have c4:abd b (t.set p y) grant person day=aum (goodL b (t.set p y)).length (hasTo b (t.set p y) grant person day (goodL b (t.set p y)).length):=by
   simp only [abd,ox,hB,hset,hg,hpr,hd,Bool.and_self,if_true,truths_good,has_count,hasTo_all]
  have m7_:∀n h,(aum n h).2=if n=0 then 7 else 0:=fun n h=>by
   unfold aum
   by_cases h0:n=0
   ·rw [if_pos h0,if_pos h0]
   ·rw [if_neg h0,if_neg h0]
    split
    ·rfl
    ·split<;>rfl
  have tc_:=akc ⟨⟨⟨ra,rf⟩⟩,⟨oa,of'⟩,⟨va,vf⟩⟩ b (t.set p y) (by omega) (some a2) cf2 H5 (hb.mono hs15) hT5y
  have mc_:=awn ⟨⟨⟨ra,rf⟩⟩,⟨oa,of'⟩,⟨va,vf⟩⟩ b (t.set p y) (by omega) (some a2) cf2 grant person day H5 (hb.mono hs15) hT5y
  have tc0:=akc ⟨⟨⟨ra,rf⟩⟩,⟨oa,of'⟩,⟨va,vf⟩⟩ b t (by omega) s.a s.fl H5 (hb.mono hs15) hT5
  have mc0:=awn ⟨⟨⟨ra,rf⟩⟩,⟨oa,of'⟩,⟨va,vf⟩⟩ b t (by omega) s.a s.fl grant person day H5 (hb.mono hs15) hT5
  rw [c2,hlen] at tc_
  rw [c4,hlen] at mc_
  rw [c1,ha1] at tc0
  rw [c3,ha1] at mc0
  have m1:=m7_ (goodL b t).length (hasTo b t grant person day (goodL b t).length)
  have m2:=m7_ (goodL b (t.set p y)).length (hasTo b (t.set p y) grant person day (goodL b (t.set p y)).length)
  generalize aum (goodL b t).length (hasTo b t grant person day (goodL b t).length)=x1 at*
  generalize aum (goodL b (t.set p y)).length (hasTo b (t.set p y) grant person day (goodL b (t.set p y)).length)=x2 at*
  have hcl5:=good_len (b:=b) (choices_le hO.len hO.op)
  generalize (goodL b t).length=u1 at*
  generalize (goodL b (t.set p y)).length=u2 at*
  refine tc0.go ?_
  simp (disch:=omega) [k5]
  refine tc_.go ?_
  simp (disch:=omega) [k5]
  refine mc0.go ?_
  simp (disch:=omega) [k5]
  refine mc_.go ?_
  by_cases z2:u2=0
  ·rw [if_pos z2] at m2
   by_cases z1_:u1=0
   ·rw [if_pos z1_] at m1
    simp (disch:=omega) [z1_,z2,m1,m2,bool_neq]
    refine (cx hf5).go ?_
    simp
    exact hs15
   ·rw [if_neg z1_] at m1
    have z1I:¬(u1:Int)<0:=by omega
    simp (disch:=omega) [z1_,z1I,z2,m1,m2,bool_neq]
    refine (cx hf5).go ?_
    simp
    exact hs15
  ·have z1_:u1≠0:=by omega
   rw [if_neg z2] at m2
   rw [if_neg z1_] at m1
   have z3:¬u1<u2:=by omega
   have z3I:¬(u1:Int)<u2:=by omega
   have z4I:¬(u2:Int)<0:=by omega
   by_cases z5:x1.1=2
   ·simp (disch:=omega) [z1_,z2,z3,z3I,z4I,z5,m1,m2,bool_neq]
    refine (cx hf5).go ?_
    simp
    exact hs15
   ·have z6_:=g2 z2 z5
    simp (disch:=omega) [z1_,z2,z3,z3I,z4I,z5,z6_,m1,m2,bool_neq]
    refine (cx hf5).go ?_
    simp
    exact hs15
end Go.Gm.Tryz
end
section
namespace Go.Gm.Tryz
open Go.Proofs
theorem fitTorn:Fit Tryz.prog bnc 88:=.struct Tryz.underlying88 (by kernel_rfl) (.cons rfl (by kernel_rfl) rz (.cons rfl (by kernel_rfl) (.slice Tryz.underlying26 (by kernel_rfl) (by decide) a9k) .nil))
theorem fitTorns:Fit Tryz.prog (.slice bnc) 72:=.slice Tryz.underlying72 (by kernel_rfl) (by decide) fitTorn
theorem lie_torn (H:GH) (cs:List Value) (h:Lie H bnc cs):∃x:Torn,cs=bkv x∧(Elems H x.loc.a 8 jb x.options∧awp x.loc 8):=by
 obtain ⟨_,_,rfl,h1,h⟩:=ec h
 obtain ⟨_,_,rfl,h2,h⟩:=ec h
 obtain rfl:_= []:=h
 obtain ⟨n,rfl⟩:=ew h1
 obtain ⟨s,l,rfl,e,k⟩:=zm (sz:=8) rfl (fun _=>rfl) (a5v H) h2
 exact ⟨⟨s,n,l⟩,rfl,e,k⟩
theorem lie_elemsP {α:Type} {H:GH} {e:DT} {enc:α→List Value} {sz:Nat} {P:α→Prop} (hsz:e.sz=sz) (hl:∀x,(enc x).length=sz) (hdec:∀cs,Lie H e cs→∃x,cs=enc x∧P x) {cs:List Value} (h:Lie H (.slice e) cs):
  ∃(s:SLoc) (l:List α),cs= [.slice s.a l.length s.fl]∧Elems H s.a sz enc l∧awp s sz∧∀x∈l,P x:=by
 subst hsz
 rcases h with rfl|⟨a,ls,rfl,hb,hr,hx⟩
 ·exact ⟨⟨none,0⟩,[],rfl,⟨hl,fun c hc=>(by cases hc),fun _=>rfl⟩,.inl ⟨rfl,rfl⟩,fun x hx=>by cases hx⟩
 ·have hex:∃l:List α,ls=l.map enc∧∀x∈l,P x:=by
   clear hr
   induction ls with
   |nil=>exact ⟨[],rfl,fun x hx=>by cases hx⟩
   |cons c ls ih=>
    obtain ⟨l,rfl,hp⟩:=ih fun x hxm=>hx x (List.mem_cons_of_mem _ hxm)
    obtain ⟨x,rfl,hq⟩:=hdec c (hx c (List.mem_cons_self ..)).2
    refine ⟨x::l,rfl,fun y hy=>?_⟩
    rcases List.mem_cons.1 hy with rfl|hy
    ·exact hq
    ·exact hp y hy
  obtain ⟨l,rfl,hP⟩:=hex
  refine ⟨⟨some a,e.sz⟩,l,by simp,⟨hl,fun c hc=>?_,fun hc=>by cases hc⟩,.inr ⟨a,rfl,rfl⟩,hP⟩
  cases hc
  rw [List.length_map] at hr
  exact ⟨hb,by rw [hr,List.flatMap_def]⟩
theorem lie_torns {H:GH} {cs:List Value} (h:Lie H (.slice bnc) cs):∃(s:SLoc) (t:List Torn),ahz (.slice bnc) cs=.slice s.a t.length s.fl∧TornIn H s.a t∧awp s 2∧∀x∈t,awp x.loc 8:=by
 obtain ⟨s,l,rfl,e,k,hp⟩:=lie_elemsP (sz:=2) (P:=fun x:Torn=>Elems H x.loc.a 8 jb x.options∧awp x.loc 8) rfl (fun _=>rfl) (lie_torn H) h
 exact ⟨s,l,rfl,⟨e,fun x hx=>(hp x hx).1⟩,k,fun x hx=>(hp x hx).2⟩
end Go.Gm.Tryz
end
section
namespace Go.Gm.Tryz
open Go.Proofs Go.Proofs.YtmnfgajihkfahaaGreatDoor Go.RowKit
theorem grantLess_spec:LawSpec Rows.grantLessSpec 7:=⟨rfl,fun H xs h=>by
 match xs,h with
 | [_,_,_,_,_,_,_],_=>rfl⟩
set_option maxRecDepth 100000 in
theorem grantLess_lifted (os:Os) (started:os.Started) (H:Type) (enc:TypeId×Value→H):
  ReturnsInHanded {} Tryz.checked os 17 .any (fun w args=>(Rows.grantLessSpec.pre enc Tryz.prog Tryz.f17 [] false w args∧laidMetH Tryz.prog li w)∧sizedMet enc Tryz.prog Tryz.f17 (OpenSpec.ofChange Rows.grantLessSpec) false w args)
   (Rows.grantLessSpec.post enc Tryz.prog Tryz.f17 false true false false):=by
 refine fk (C:=Tryz.checked) (X:=fun w _=>laidMetH Tryz.prog li w) (fun _ _ _ hh h=>h.of_heap hh) own started (by kernel_rfl) Tryz.func17
  (ChangeSpec.witness_shaped (enc:=enc) (C:=Tryz.checked) (os:=os) (X:=fun w _=>laidMetH Tryz.prog li w) false (World.laidAll Tryz.prog os li) #[.agg #[.slice none 0 0,.int .i64 0,.int .i64 0,.int .i64 0,.int .i64 0,.slice none 0 0,.slice none 0 0],.slice none 0 0,.int .i64 0,.int .i64 0,.int .i64 0,.int .i64 0,.int .i64 0] 9 (World.laidAll_os _ _ _)
   (World.shaped_of_ZipB (by kernel_rfl) (by kernel_rfl)) (by kernel_rfl) (by kernel_rfl) (by kernel_rfl)
   (by rw [MakeChecks.laidMetH_plain _ _ _ (by kernel_rfl)]; exact laidMet_laidAll _ (by kernel_rfl) (by kernel_rfl))) ?_
 intro W base args ds gs before hsh hval _ hw hL
 obtain ⟨fx,hfx,hok,hW⟩:=anh hL hsh
 refine tw (P:=Tryz.prog) (fn:=Tryz.f17) (ds:= [sh,.slice bnc,dI,dI,dI,dI,dI]) abw (by rw [Tryz.params17]; exact .cons abt (.cons fitTorns (.cons rz (.cons rz (.cons rz (.cons rz (.cons rz .nil))))))) (by kernel_rfl) Tryz.underlying4 (by
  rw [Tryz.params17]
  intro t ht
  have hall:([28,72,3,3,3,3,3].all fun t=>Tryz.prog.readableRec t&&decide (t<Tryz.prog.types.size))=true:=by kernel_rfl
  have:=List.all_eq_true.1 hall t (by simpa using ht)
  simpa using this) grantLess_spec hW hfx ?_ hval hw
 intro G gss hG hLie
 have hfG:FxOk G.fx:=by rw [hG]; exact hok
 cases hLie with
 |cons h1 h2=>
 cases h2 with
 |cons h2 h3=>
 cases h3 with
 |cons h3 h4=>
 cases h4 with
 |cons h4 h5=>
 cases h5 with
 |cons h5 h6=>
 cases h6 with
 |cons h6 h7=>
 cases h7 with
 |cons h7 h8=>
 cases h8
 obtain ⟨l,b,e,hb,_,_,k3⟩:=yb h1
 obtain ⟨s,t,e2,ht,k,k8⟩:=lie_torns h2
 obtain ⟨n,rfl⟩:=ew h3
 obtain ⟨m,rfl⟩:=ew h4
 obtain ⟨o,rfl⟩:=ew h5
 obtain ⟨p,rfl⟩:=ew h6
 obtain ⟨q,rfl⟩:=ew h7
 show ay Tryz.prog 17 [ahz sh _,ahz (.slice bnc) _,vi n,vi m,vi o,vi p,vi q] G _
 rw [e,e2]
 exact (less_law hb hfG ht k k8 n m o p q).mono fun x _ h=>h.1
theorem grantLess_inPlace:(Rows.grantLessRow.inPlace==Tryz.prog.inPlace 17)=true:=by kernel_rfl
theorem grantLess_unf:(Rows.grantLessRow.unfollowed==Tryz.prog.unfollowed 17)=true:=by kernel_rfl
theorem grantLess_rec:(Rows.grantLessRow.recurses==Tryz.prog.recurses 17)=true:=by kernel_rfl
theorem grantLess_named:(Rows.grantLessRow.named==Tryz.prog.varsNamed 17)=true:=by kernel_rfl
theorem grantLess_joined:joinedFacts Tryz.prog 17 Tryz.f17 Rows.grantLessSpec Rows.grantLessRow=true:=by
 unfold joinedFacts
 exact am (am (am (am (am (am (am (am (am (am (am (am (am (am (am (am (am (am (am (am (am (am (am (am (am (am (am (am (am (am (am (by kernel_rfl) (by kernel_rfl)) (by kernel_rfl)) (by kernel_rfl)) (by kernel_rfl)) (by kernel_rfl)) (by kernel_rfl)) (by kernel_rfl)) (by kernel_rfl)) grantLess_inPlace) grantLess_unf) grantLess_rec) grantLess_named) (by kernel_rfl)) (by kernel_rfl)) (by kernel_rfl)) (by kernel_rfl)) (by kernel_rfl)) (by kernel_rfl)) (by kernel_rfl)) (by kernel_rfl)) (by kernel_rfl)) (by kernel_rfl)) (by kernel_rfl)) (by kernel_rfl)) af9) (by rw [agc]; exact beq_self_eq_true _)) (by rw [anr]; exact beq_self_eq_true _)) (by kernel_rfl)) (by kernel_rfl)) (by kernel_rfl)) (by kernel_rfl)
theorem grantLess_holds:Rows.GrantLessSaid:=
 OpenClaim.holds_of_wide 17 Tryz.f17 rfl rfl rfl rfl rfl rfl rfl ⟨rfl,rfl,rfl,rfl,rfl⟩ rfl rfl rfl rfl rfl (by kernel_rfl) Tryz.func17 grantLess_joined
  (of_decide_eq_true (by kernel_rfl)) (by unfold Func.isWrapper; first|(rw [if_pos (by decide+kernel)]; kernel_rfl)|(rw [if_neg (by decide+kernel)]; exact ⟨rfl,rfl⟩))
  (fun os started H enc _=>grantLess_lifted os started H enc)
end Go.Gm.Tryz
namespace Go.Proofs.YtmnfgajihkfahaaGreatDoor
open Go.Gm.Tryz
set_option maxRecDepth 100000 in
theorem grantLess_card_holds:Rows.GrantLessCardSaid:=
 Claim7.holds_tied_plain_at .later [] [.data,.data,.data,.data,.pinned] true (true, "c50a2473247fd563652536c5189614d6c43fc7c925362f406516d21693885498") true
  grantLess_holds (fun _ h=>by cases h) (by kernel_rfl) (fun _ h=>by cases h) grantLess_row_tie rfl ⟨rfl,rfl⟩ anq rfl
  (fun f fn hf hfn=>by
   obtain rfl:f=17:=Option.some.inj ((show Tryz.prog.funcNamed "quinaria/quinarialaw06.GrantLess"=some 17 by kernel_rfl).symm.trans hf)|>.symm
   obtain rfl:fn=Tryz.f17:=(Option.some.inj (Tryz.func17.symm.trans hfn)).symm
   exact ⟨agv,fun j t ht=>by
    rw [Tryz.params17] at ht
    have hm:t∈ [28,72,3,3,3,3,3]:=by simpa using Array.mem_of_getElem? ht
    have hall:([28,72,3,3,3,3,3].all fun u=> !Tryz.prog.wantsStandIn u)=true:=by kernel_rfl
    exact (show Tryz.prog.wantsStandIn t=false by simpa using List.all_eq_true.1 hall t hm)⟩)
  (by kernel_rfl)
end Go.Proofs.YtmnfgajihkfahaaGreatDoor
end
end
