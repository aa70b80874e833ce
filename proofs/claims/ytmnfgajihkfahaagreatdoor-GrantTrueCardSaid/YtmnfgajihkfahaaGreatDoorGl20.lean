/- The function GrantTrue, called with any register, any torn places, any choice, any number of a grant, any person and any day, returns true, and never panics: by the model of the language, for every input that the card fits, and under the card's conditions alone. -/
import Derived.Test.YtmnfgajihkfahaaGreatDoorBb6
import Derived.Test.YtmnfgajihkfahaaGreatDoorTie
noncomputable section
section
namespace Go.Gm.Tryz
open Go.Proofs
@[simp] theorem bli:ah 4 g53.plans=some [(0,[]),(1,[]),(2,[]),(3,[]),(4,[]),(5,[]),(6,[]),(7,[]),(8,[]),(9,[]),(10,[]),(11,[]),(12,[]),(13,[]),(14,[]),(15,[]),(16,[]),(17,[]),(18,[]),(19,[]),(20,[]),(21,[]),(22,[]),(23,[]),(24,[]),(25,[]),(26,[]),(27,[]),(28,[]),(29,[]),(30,[]),(31,[]),(32,[]),(33,[]),(34,[]),(35,[]),(36,[]),(37,[]),(38,[])]:=ai rfl
@[simp] theorem blj:ah 9 g53.plans=some [(0,[]),(1,[]),(2,[]),(3,[]),(4,[]),(5,[]),(6,[]),(7,[]),(8,[]),(9,[]),(10,[])]:=ai rfl
@[simp] theorem blt:ah 4 g68.plans=some [(0,[]),(1,[]),(2,[]),(3,[]),(4,[]),(5,[]),(6,[]),(7,[]),(8,[]),(9,[]),(10,[]),(11,[]),(12,[])]:=ai rfl
@[simp] theorem blu:ah 5 g69.plans=some [(0,[]),(1,[]),(2,[]),(3,[]),(4,[]),(5,[]),(6,[]),(7,[]),(8,[]),(9,[]),(10,[]),(11,[]),(12,[]),(13,[]),(14,[]),(15,[]),(16,[]),(17,[]),(18,[]),(19,[])]:=ai rfl
end Go.Gm.Tryz
end
section
namespace Go.Gm.Tryz
open Go.Proofs
theorem qv {b:Book} (h:nw b=true):b.tbl.rows.length≤15∧b.events.length≤14∧b.owners.length≤8∧(aq b=true→b.tbl.rows.length≤4):=by
 have h':=h
 simp [nw] at h'
 refine ⟨by omega,by omega,by omega,fun hB=>?_⟩
 have ht:=xj hB
 simp [ht] at h'
 omega
end Go.Gm.Tryz
end
section
namespace Go.Gm
end Go.Gm
namespace Go.Gm.Tryz
open Go.Proofs
def choicesL:List Torn→List (List Int)
 | []=> [[]]
 |t::ts=>(List.range t.options.length).flatMap fun (k:Nat)=>(choicesL ts).map fun c=>(k:Int)::c
def setEv (ev:List Ev) (p:Torn×Int):List Ev:=ev.set p.1.event.toNat (p.1.options.getD p.2.toNat default)
def chosenEv (ts:List Torn) (c:List Int) (ev:List Ev):List Ev:=(ts.zip c).foldl setEv ev
def chosenB (b:Book) (t:List Torn) (c:List Int):Book:= { b with events:=chosenEv t c b.events }
theorem setEv_len (ev:List Ev) (p:Torn×Int):(setEv ev p).length=ev.length:=by simp [setEv]
theorem chosenEv_len:∀(l:List (Torn×Int)) (ev:List Ev),(l.foldl setEv ev).length=ev.length:=by
 intro l
 induction l with
 |nil=>intro ev; rfl
 |cons p l ih=>intro ev; rw [List.foldl_cons,ih,setEv_len]
theorem chosenEv_cons (t:Torn) (ts:List Torn) (k:Int) (c:List Int) (ev:List Ev):chosenEv (t::ts) (k::c) ev=chosenEv ts c (setEv ev (t,k)):=rfl
theorem truthsFrom_eq (b:Book):∀(ts:List Torn) (now:List Int) (ev:List Ev),
  bz b ts now ev=((choicesL ts).filter fun c=>yv { b with events:=chosenEv ts c ev }).map fun c=>(now++c,{ b with events:=chosenEv ts c ev }):=by
 intro ts
 induction ts with
 |nil=>
  intro now ev
  have e:chosenEv [] [] ev=ev:=rfl
  simp only [bz,choicesL,List.filter_cons,List.filter_nil,e]
  split<;>simp [e]
 |cons t ts ih=>
  intro now ev
  simp only [bz,choicesL]
  rw [List.filter_flatMap,List.map_flatMap]
  congr 1
  funext k
  rw [ih,List.filter_map,List.map_map]
  have e:∀c,chosenEv (t::ts) ((k:Int)::c) ev=chosenEv ts c (ev.set t.event.toNat (t.options.getD k default)):=fun c=>by
   rw [chosenEv_cons]
   simp [setEv]
  simp only [Function.comp_def,e,List.append_assoc,List.singleton_append]
def okC (b:Book) (t:List Torn) (c:List Int):Bool:=yv (chosenB b t c)
def goodL (b:Book) (t:List Torn):List (List Int):=(choicesL t).filter (okC b t)
theorem truthsL_eq (b:Book) (t:List Torn):di b t=(goodL b t).map fun c=>(c,chosenB b t c):=by
 unfold di
 rw [truthsFrom_eq]
 rfl
theorem truths_good (b:Book) (t:List Torn):(di b t).length=(goodL b t).length:=by rw [truthsL_eq,List.length_map]
theorem choices_mem:∀ {t:List Torn} {c:List Int},c∈choicesL t→c.length=t.length∧∀i (h:i<t.length) (h':i<c.length),0≤c[i]∧c[i]<t[i].options.length:=by
 intro t
 induction t with
 |nil=>intro c hc; simp [choicesL] at hc; subst hc; exact ⟨rfl,fun i h=>by simp at h⟩
 |cons t ts ih=>
  intro c hc
  simp only [choicesL,List.mem_flatMap,List.mem_range,List.mem_map] at hc
  obtain ⟨k,hk,d,hd,rfl⟩:=hc
  obtain ⟨h1,h2⟩:=ih hd
  refine ⟨by simp [h1],fun i h h'=>?_⟩
  cases i with
  |zero=>simp; omega
  |succ i=>simpa using h2 i (by simpa using h) (by simpa using h')
theorem good_mem {b:Book} {t:List Torn} {c:List Int} (h:c∈goodL b t):c∈choicesL t∧okC b t c=true:=List.mem_filter.1 h
theorem has_count (b:Book) (t:List Torn) (g p d:Int):((di b t).countP fun x=>ald x.2 g p d)=(goodL b t).countP fun c=>ald (chosenB b t c) g p d:=by
 rw [truthsL_eq,List.countP_map]
 rfl
theorem torn_oks {b:Book} {t:List Torn} (h:iw b t=true) (hE:b.events.length≤12):TornOk b t∧∀x∈t,1≤x.options.length:=by
 simp only [iw,Bool.and_eq_true,List.all_eq_true,List.mem_range,Bool.not_eq_true',decide_eq_true_eq] at h
 have key:∀x∈t,(0≤x.event∧x.event<b.events.length)∧x.options.length≤4∧1≤x.options.length:=fun x hx=>by
  obtain ⟨i,hi,rfl⟩:=List.mem_iff_getElem.1 hx
  have:=h.1 i hi
  unfold pa at this
  rw [tAt,bc hi] at this
  simp only [Bool.or_eq_false_iff,Bool.not_eq_false',inI,decide_eq_true_eq] at this
  rw [aj ((b.events.length:Int) - 1) (by omega) (by omega)] at this
  omega
 exact ⟨⟨h.2,fun x hx=>(key x hx).1,fun x hx=>(key x hx).2.1⟩,fun x hx=>(key x hx).2.2⟩
end Go.Gm.Tryz
end
section
namespace Go.Gm.Tryz
open Go.Proofs
def briefB (t:List Torn):Bool:=(t.take 5).all (fun x=>decide (x.options.length≤6))&&decide (t.length≤5)
theorem brief_con (t:List Torn) (a:Option Addr) (fl:Nat) (H:GH) (hT:TornIn H a t):C 51 [.slice a t.length fl] H (.bool (briefB t)) H:=by
 refine au tok mix a94 (F:=g51) (c:=_) rfl (n:=24) rfl (rs:= [.tmp 2]) rfl (ac rfl) ?_
 simp
 refine cv tok mix (by kernel_rfl) 5 (fun i ρ m H'=>ρ 0=.slice a t.length fl∧ρ 3=vi i∧m= []∧H'=H∧∀j (h:j<t.length),j<i→t[j].options.length≤6) (i0:=0) (by omega) (by simp) ?_
 rintro i ρ m H hi ⟨e0,e3,rfl,rfl,hj⟩
 have yes:(∀j (h:j<t.length),j<5→t[j].options.length≤6)→briefB t=decide (t.length≤5):=fun h=>by
  have:((t.take 5).all fun x=>decide (x.options.length≤6))=true:=by
   rw [List.all_eq_true]
   intro x hx
   obtain ⟨j,hjl,rfl⟩:=List.mem_iff_getElem.1 hx
   rw [List.length_take] at hjl
   rw [List.getElem_take]
   exact decide_eq_true (h j (by omega) (by omega))
  rw [briefB,this,Bool.true_and]
 by_cases h1:i<t.length
 ·by_cases h2:i<5
  ·obtain ⟨b,rfl,hb,hrd⟩:=hT.e.at i h1
   have h1I:(i:Int)<t.length:=by omega
   have h2I:(i:Int)<5:=by omega
   simp (disch:=omega) [e0,e3,h1,h2,h1I,h2I,hrd]
   by_cases h3:t[i].options.length≤6
   ·have h4:¬6<t[i].options.length:=by omega
    have h4I:¬(6:Int)<t[i].options.length:=by omega
    simp (disch:=omega) [e0,e3,h4,h4I,aj,h1,h2]
    refine fun j h hji=>?_
    by_cases hc:j=i
    ·subst hc; exact h3
    ·exact hj j h (by omega)
   ·have h4:6<t[i].options.length:=by omega
    have h4I:(6:Int)<t[i].options.length:=by omega
    have hbad:briefB t=false:=by
     have:((t.take 5).all fun x=>decide (x.options.length≤6))=false:=by
      rw [List.all_eq_false]
      exact ⟨t[i],List.mem_take_iff_getElem.2 ⟨i,by omega,rfl⟩,by simpa using h4⟩
     rw [briefB,this,Bool.false_and]
    simp (disch:=omega) [h4,h4I,hbad]
  ·have:i=5:=by omega
   subst this
   have h1I:(5:Int)<t.length:=by omega
   have hn:¬t.length≤5:=by omega
   have hnI:¬(t.length:Int)≤5:=by omega
   simp (disch:=omega) [e0,e3,h1,h1I,yes fun j h hj5=>hj j h hj5,hn,hnI]
 ·have hn:t.length≤5:=by omega
  have hnI:(t.length:Int)≤5:=by omega
  have h1I:¬(i:Int)<t.length:=by omega
  simp (disch:=omega) [e0,e3,h1,h1I,yes fun j h _=>hj j h (by omega),hn,hnI]
theorem brief_le {t:List Torn} (h:briefB t=true):t.length≤5:=by
 simp only [briefB,Bool.and_eq_true,decide_eq_true_eq] at h
 exact h.2
theorem rTorn_con (l:BLoc) (b:Book) (t:List Torn) (ht:t.length≤1000) (a:Option Addr) (fl:Nat) (H:GH) (hT:TornIn H a t):C 53 [dl l b,.slice a t.length fl] H (.bool (iw b t)) H:=by
 rcases l with ⟨⟨⟨ra,rf⟩⟩,⟨oa,of'⟩,⟨va,vf⟩⟩
 refine au tok mix a95 (F:=g53) (c:=_) rfl (n:=76) rfl (rs:= [.tmp 4]) rfl (ac rfl) ?_
 simp
 generalize hH1:GH.push H _=H1
 have hs1:Sub H H1:=by subst hH1; exact Sub.push (.refl H) _
 have hg1:H1.get H.next=some (.arr { cells:=bq ⟨⟨⟨ra,rf⟩⟩,⟨oa,of'⟩,⟨va,vf⟩⟩ b,ty:=28 }):=by subst hH1; simp
 have hn1:H.next<H1.next:=by subst hH1; simp
 have hT1:=hT.mono hs1
 clear hH1
 refine cv tok mix (by kernel_rfl) t.length (fun i ρ m H'=>ρ 1=.slice a t.length fl∧ρ 2=.pointer (some (ga H.next 0 0))∧ρ 5=vi i∧m= []∧H'=H1∧∀j,j<i→pa b t j=false) (i0:=0) (by omega) (by simp) ?_
 rintro i ρ m H1 hi ⟨e1,e2,e5,rfl,rfl,hj⟩
 simp [e1,e5]
 refine ba (fun hlt=>?_) (fun hge=>?_)
 case refine_2=>
  simp [e1]
  have h8:(List.range t.length).all (fun i=> !pa b t i)=true:=by
   rw [List.all_eq_true]
   intro j hjm
   rw [hj j (by have:=List.mem_range.1 hjm; omega)]; rfl
  simp [iw,h8]
  refine ⟨by omega,hs1⟩
 obtain ⟨c,rfl,hcl,hrd⟩:=hT1.e.at i hlt
 have ea:tAt t i=t[i]:=bc hlt
 have hop:=hT1.o _ (List.getElem_mem hlt)
 have hltI:(i:Int)<t.length:=by omega
 have hfalse:pa b t i=true→iw b t=false:=fun h=>by
  have:(List.range t.length).all (fun i=> !pa b t i)=false:=by
   rw [List.all_eq_false]
   exact ⟨i,List.mem_range.2 hlt,by simp [h]⟩
  simp [iw,this]
 have hbad:pa b t i=(!inI t[i].event 0 (IntKind.i64.wrap (b.events.length - 1))||(decide (0<i)&&decide (t[i].event≤(tAt t (i - 1)).event))|| !inI t[i].options.length 1 4||t[i].options.any (fun e=> !bv b e)):=by
  unfold pa; rw [ea]
 simp (disch:=omega) [e1,e2,e5,hlt,hrd,hg1]
 with_reducible refine (o6 _ _ _ _).go ?_
 cases c1:inI t[i].event 0 (IntKind.i64.wrap (b.events.length - 1)) with
 |false=>
  simp (disch:=omega) [hfalse (by rw [hbad,c1]; simp),hs1]
 |true=>
  by_cases h6:0<i
  ·obtain ⟨c',hc',_,hrd'⟩:=hT1.e.at (i - 1) (by omega)
   cases hc'
   have e5':((i:Int) - 1).toNat=i - 1:=by omega
   have ep:tAt t (i - 1)=t[i - 1]:=bc (by omega)
   have h6I:(0:Int)<i:=by omega
   by_cases h5:t[i].event≤t[i - 1].event
   ·simp (disch:=omega) [e1,e5,h6,h6I,aj,e5',hrd',hrd,h5,hfalse (by rw [hbad,c1,ep]; simp [h6,h5]),hs1]
   ·have h7:(decide (0<i)&&decide (t[i].event≤(tAt t (i - 1)).event))=false:=by rw [ep]; simp; omega
    simp (disch:=omega) [e1,e5,h6,h6I,aj,e5',hrd',hrd,h5]
    with_reducible refine (o6 _ _ _ _).go ?_
    cases c2:inI t[i].options.length 1 4 with
    |false=>simp (disch:=omega) [hfalse (by rw [hbad,c1,c2]; simp),hs1]
    |true=>
     have hol:t[i].options.length≤4:=by simp [inI] at c2; omega
     simp (disch:=omega)
     refine cv tok mix (by kernel_rfl) t[i].options.length (fun k ρ m H'=>ρ 1=.slice (some c) t.length fl∧ρ 2=.pointer (some (ga H.next 0 0))∧ρ 5=vi i∧ρ 6=vi k∧m= []∧H'=H1∧∀j (h:j<t[i].options.length),j<k→bv b t[i].options[j]=true) (i0:=0) (by omega) (by simp [e1,e2,e5]) ?_
     rintro k ρ m H1 hk ⟨d1,d2,d5,d6,rfl,rfl,hev⟩
     simp (disch:=omega) [d1,d5,d6,hrd]
     refine ba (fun hkl=>?_) (fun hkg=>?_)
     ·obtain ⟨co,hco,_,hro⟩:=hop.at k hkl
      have hkI:(k:Int)<t[i].options.length:=by omega
      simp (disch:=omega) [d1,d2,d5,d6,hrd,hg1,hco,hro]
      with_reducible refine (al5 ⟨⟨⟨_,_⟩⟩,⟨_,_⟩,⟨_,_⟩⟩ b t[i].options[k] _).go ?_
      rw [aq7]
      simp
      cases hex:bv b t[i].options[k]
      ·have hany:t[i].options.any (fun e=> !bv b e)=true:=List.any_eq_true.2 ⟨_,List.getElem_mem hkl,by simp [hex]⟩
       simp (disch:=omega) [hfalse (by rw [hbad,c1,c2,hany]; simp),hs1]
      ·simp (disch:=omega) [d1,d2,d5,d6,aj,hkI]
       refine ⟨by omega,fun j h hjk=>?_⟩
       by_cases hc:j=k
       ·subst hc; exact hex
       ·exact hev j h (by omega)
     ·have c3:t[i].options.any (fun e=> !bv b e)=false:=by
       rw [List.any_eq_false]
       intro e he
       obtain ⟨j,hjl,rfl⟩:=List.mem_iff_getElem.1 he
       simp [hev j hjl (by omega)]
      simp (disch:=omega) [d1,d2,d5,aj,hltI]
      refine fun j hji=>?_
      by_cases hc:j=i
      ·subst hc; rw [hbad,c1,c2,c3,h7]; rfl
      ·exact hj j (by omega)
  ·have h7:(decide (0<i)&&decide (t[i].event≤(tAt t (i - 1)).event))=false:=by simp; omega
   have h6I:¬(0:Int)<i:=by omega
   simp (disch:=omega) [e1,e5,h6,h6I,hrd]
   with_reducible refine (o6 _ _ _ _).go ?_
   cases c2:inI t[i].options.length 1 4 with
   |false=>simp (disch:=omega) [hfalse (by rw [hbad,c1,c2]; simp),hs1]
   |true=>
    have hol:t[i].options.length≤4:=by simp [inI] at c2; omega
    simp (disch:=omega)
    refine cv tok mix (by kernel_rfl) t[i].options.length (fun k ρ m H'=>ρ 1=.slice (some c) t.length fl∧ρ 2=.pointer (some (ga H.next 0 0))∧ρ 5=vi i∧ρ 6=vi k∧m= []∧H'=H1∧∀j (h:j<t[i].options.length),j<k→bv b t[i].options[j]=true) (i0:=0) (by omega) (by simp [e1,e2,e5]) ?_
    rintro k ρ m H1 hk ⟨d1,d2,d5,d6,rfl,rfl,hev⟩
    simp (disch:=omega) [d1,d5,d6,hrd]
    refine ba (fun hkl=>?_) (fun hkg=>?_)
    ·obtain ⟨co,hco,_,hro⟩:=hop.at k hkl
     have hkI:(k:Int)<t[i].options.length:=by omega
     simp (disch:=omega) [d1,d2,d5,d6,hrd,hg1,hco,hro]
     with_reducible refine (al5 ⟨⟨⟨_,_⟩⟩,⟨_,_⟩,⟨_,_⟩⟩ b t[i].options[k] _).go ?_
     rw [aq7]
     simp
     cases hex:bv b t[i].options[k]
     ·have hany:t[i].options.any (fun e=> !bv b e)=true:=List.any_eq_true.2 ⟨_,List.getElem_mem hkl,by simp [hex]⟩
      simp (disch:=omega) [hfalse (by rw [hbad,c1,c2,hany]; simp),hs1]
     ·simp (disch:=omega) [d1,d2,d5,d6,aj,hkI]
      refine ⟨by omega,fun j h hjk=>?_⟩
      by_cases hc:j=k
      ·subst hc; exact hex
      ·exact hev j h (by omega)
    ·have c3:t[i].options.any (fun e=> !bv b e)=false:=by
      rw [List.any_eq_false]
      intro e he
      obtain ⟨j,hjl,rfl⟩:=List.mem_iff_getElem.1 he
      simp [hev j hjl (by omega)]
     simp (disch:=omega) [d1,d2,d5,aj,hltI]
     refine fun j hji=>?_
     by_cases hc:j=i
     ·subst hc; rw [hbad,c1,c2,c3,h7]; rfl
     ·exact hj j (by omega)
end Go.Gm.Tryz
end
section
namespace Go.Gm.Tryz
open Go.Proofs
def partCh (rest:List (List Int)) (k j:Nat):List (List Int):=((List.range k).flatMap fun (n:Nat)=>rest.map fun c=>(n:Int)::c)++(rest.take j).map fun c=>(k:Int)::c
end Go.Gm.Tryz
end
section
namespace Go.Gm.Tryz
open Go.Proofs
def chosenTo (t:List Torn) (c:List Int) (ev:List Ev) (i:Nat):List Ev:=((t.zip c).take i).foldl setEv ev
theorem chosenTo_zero {t:List Torn} {c:List Int} {ev:List Ev}:chosenTo t c ev 0=ev:=rfl
theorem chosenTo_len {t:List Torn} {c:List Int} {ev:List Ev} {i:Nat}:(chosenTo t c ev i).length=ev.length:=chosenEv_len _ _
theorem chosenTo_all {t:List Torn} {c:List Int} {ev:List Ev} (h:c.length=t.length):chosenTo t c ev t.length=chosenEv t c ev:=by
 unfold chosenTo chosenEv
 rw [List.take_of_length_le (by simp [List.length_zip]; omega)]
theorem chosenTo_succ {t:List Torn} {c:List Int} {ev:List Ev} {i:Nat} (h1:i<t.length) (h2:i<c.length):chosenTo t c ev (i+1)=(chosenTo t c ev i).set t[i].event.toNat (t[i].options.getD c[i].toNat default):=by
 unfold chosenTo
 have h:i<(t.zip c).length:=by simp [List.length_zip]; omega
 rw [List.take_succ_eq_append_getElem h,List.foldl_append,List.getElem_zip]
 rfl
theorem chosenB_len {b:Book} {t:List Torn} {c:List Int}:(chosenB b t c).events.length=b.events.length:=chosenEv_len _ _
theorem rChosen_con {H:GH} {l:BLoc} {b:Book} (hb:BookIn H l b) (hE:b.events.length≤12) {t:List Torn} {s:SLoc} (hT:TornIn H s.a t) (hO:TornOk b t) {c:List Int} {ca_:Option Addr} {cf_:Nat} (hC:Elems H ca_ 1 ca c) (hc:c∈choicesL t):
  ay Tryz.prog 69 [dl l b,.slice s.a t.length s.fl,.slice ca_ c.length cf_] H fun x H'=>Sub H H'∧∃ae ef,x=.ret (dl (aaj l ae ef) (chosenB b t c))∧BookIn H' (aaj l ae ef) (chosenB b t c):=by
 rcases l with ⟨⟨⟨ra,rf⟩⟩,⟨oa,of'⟩,⟨va,vf⟩⟩
 rcases s with ⟨sa_,sf⟩
 obtain ⟨hcl,hcr⟩:=choices_mem hc
 have hl3:=hO.len
 refine an tok mix baf (F:=g69) (c:=_) rfl (n:=38) rfl (rs:= [.cell 6 28]) rfl ?_
 simp
 generalize hH1:GH.push (GH.push H _) _=H1
 have hs1:Sub H H1:=by subst hH1; exact Sub.push (Sub.push (.refl H) _) _
 have k1:H1.get H.next=some (.arr { cells:=bq ⟨⟨⟨ra,rf⟩⟩,⟨oa,of'⟩,⟨va,vf⟩⟩ b,ty:=28 }):=by subst hH1; simp (disch:=omega)
 have k6:H1.get (H.next+1)=some (.arr { cells:= [.slice none 0 0,vi 0,vi 0,vi 0,vi 0,.slice none 0 0,.slice none 0 0],ty:=28 }):=by subst hH1; simp
 have hn1:H1.next=H.next+2:=by subst hH1; simp
 clear hH1
 have hb1:=hb.mono hs1
 obtain ⟨v2,H2,happ,o2,n2,f2,b2⟩:=(bg.nil (H:=H1) (N:=H1.next) (ty:=57) (sz:=8) (enc:=jb)).apps (fun _=>rfl) (fun _=>rfl) (by decide) b.events (Nat.le_refl _)
 simp only [List.nil_append] at o2
 have s2:Sub H1 H2:=⟨n2,fun g hg=>f2 g hg (by simp)⟩
 have hrs:=hb1.events.readS
 have k12:=(s2.2 H.next (by omega)).trans k1
 have k62:=(s2.2 (H.next+1) (by omega)).trans k6
 obtain ⟨a2,c2,rfl⟩:=o2.slice
 have q1:64*b.events.length≤1000000:=by omega
 have q2:b.events.length≤1000000:=by omega
 simp (disch:=omega) [k1,hrs,happ,q1,q2,k12]
 generalize hH3:GH.put _ _ _=H3
 have n3:H3.next=H2.next:=by subst hH3; simp
 have f3:∀g,g≠H.next→H3.get g=H2.get g:=fun g hg=>by subst hH3; simp (disch:=omega) [hg]
 have kb3:H3.get H.next=some (.arr { cells:= [.slice ra b.tbl.rows.length rf,vi b.tbl.draw,vi b.supply,vi b.term,vi b.persons,.slice oa b.owners.length of',.slice a2 b.events.length c2],ty:=28 }):=by subst hH3; simp
 clear hH3
 have hs3:Sub H H3:=⟨by omega,fun g hg=>by rw [f3 g (by omega),s2.2 g (by omega),hs1.2 g hg]⟩
 have k63:=(f3 (H.next+1) (by omega)).trans k62
 have o3:bg H3 H1.next (.slice a2 b.events.length c2) 57 8 jb (chosenTo t c b.events 0):=by
  rw [chosenTo_zero]
  exact o2.frame (by omega) (fun k hk=>f3 k (by have:=(o2.blk_lt hk).1; omega))
 have hT3:=hT.mono hs3
 have hC3:=hC.mono hs3
 clear o2 happ
 refine cv tok mix (by kernel_rfl) t.length (fun i ρ m H'=>ρ 1=.slice sa_ t.length sf∧ρ 2=.slice ca_ c.length cf_∧ρ 3=.pointer (some (ga H.next 0 0))∧ρ 6=.pointer (some (ga (H.next+1) 0 0))∧ρ 7=vi i∧m= []∧H'.next=H3.next∧(∀g,g<H1.next→H'.get g=H3.get g)∧bg H' H1.next (.slice a2 b.events.length c2) 57 8 jb (chosenTo t c b.events i)) (i0:=0) (by omega) ⟨by simp,by simp,by simp,by simp,by simp,rfl,rfl,fun _ _=>rfl,o3⟩ ?_
 rintro i ρ m H4 hi ⟨e1,e2,e3,e6,e7,rfl,n4,f4,o4⟩
 have kb4:=(f4 H.next (by omega)).trans kb3
 have k64:=(f4 (H.next+1) (by omega)).trans k63
 have hs4:Sub H H4:=⟨by omega,fun g hg=>by rw [f4 g (by omega),hs3.2 g hg]⟩
 simp (disch:=omega) [e1,e7]
 refine ba (fun hlt=>?_) (fun hge=>?_)
 ·have hlc:i<c.length:=by omega
  obtain ⟨at_,hat,_,hrt⟩:=(hT.mono hs4).e.at i hlt
  simp only at hat
  subst hat
  obtain ⟨ac_,hac,_,hrc⟩:=(hC.mono hs4).at i hlc
  subst hac
  have hm:=List.getElem_mem hlt
  have hcr:=hcr i hlt hlc
  obtain ⟨k,hk⟩:∃k:Nat,c[i]=k:=⟨c[i].toNat,by omega⟩
  have hko:k<t[i].options.length:=by omega
  obtain ⟨ao,hao,_,hro⟩:=((hT.mono hs4).o _ hm).at k hko
  have hev:=hO.ev _ hm
  obtain ⟨e,he⟩:∃e:Nat,t[i].event=e:=⟨t[i].event.toNat,by omega⟩
  have hel:e<b.events.length:=by omega
  have hel':e<(chosenTo t c b.events i).length:=by rw [chosenTo_len]; exact hel
  cases a2 with
  |none=>
   have:=(o4.elems' (fun _=>rfl)).nil rfl
   rw [this] at hel'
   simp at hel'
  |some a2=>
   have hs:=chosenTo_succ (ev:=b.events) hlt hlc
   have hgd:t[i].options.getD k default=t[i].options[k]:=by rw [List.getD_eq_getElem?_getD,List.getElem?_eq_getElem hko]; rfl
   rw [hk,he,Int.toNat_natCast,Int.toNat_natCast,hgd] at hs
   obtain ⟨H5,hw5,o5,n5,f5⟩:=o4.wr (fun _=>rfl) (i:=e) (k:=0) hel' (c:=vi t[i].options[k].kind) (new:=(jb t[i].options[k]).tail) (by simp) (y:=t[i].options[k]) (by simp [splice])
   rw [←hs] at o5
   have hb2:H1.next≤a2.block:=(o4.blk_lt o4.blk_some).1
   have hltI:(i:Int)<t.length:=by omega
   have hlcI:(i:Int)<c.length:=by omega
   have hkI:(k:Int)<t[i].options.length:=by omega
   have heI:(e:Int)<b.events.length:=by omega
   simp [jb] at hw5
   simp (disch:=omega) [e1,e2,e3,e6,e7,kb4,hrt,hrc,hk,he,hao,hro,hltI,hlcI,hkI,heI,hw5,aj]
   exact ⟨hlt,n5.trans n4,fun g hg=>by rw [f5 g (by omega),f4 g hg],o5⟩
 ·have:i=t.length:=by omega
  subst this
  rw [chosenTo_all hcl] at o4
  have hlen:(chosenEv t c b.events).length=b.events.length:=chosenEv_len _ _
  obtain ⟨a9,f9,h9,hE9⟩:=o4.elems (fun _=>rfl)
  rw [hlen] at h9
  cases h9
  simp (disch:=omega) [e3,e6,kb4,k64]
  have hsp:∀o,Sub H (H4.put (H.next+1) o):=fun o=>Sub.put hs4 (by omega) o
  have hev:∀o,Elems (H4.put (H.next+1) o) a2 8 jb (chosenEv t c b.events):=fun o=>by
   have:=o4.frame (H':=H4.put (H.next+1) o) (by simp) (fun k hk=>by have:=(o4.blk_lt hk).1; simp (disch:=omega))
   exact this.elems' (fun _=>rfl)
  exact ⟨a2,c2,⟨rfl,rfl,rfl,rfl,rfl,rfl,rfl,chosenB_len.symm,rfl⟩,⟨(hb.mono (hsp _)).t,(hb.mono (hsp _)).owners,hev _⟩⟩
end Go.Gm.Tryz
end
section
namespace Go.Gm.Tryz
open Go.Proofs
def goodTo (b:Book) (t:List Torn) (i:Nat):List (List Int):=((choicesL t).take i).filter (okC b t)
end Go.Gm.Tryz
end
section
namespace Go.Gm.Tryz
open Go.Proofs
def hasTo (b:Book) (t:List Torn) (g p d:Int) (i:Nat):Nat:=((goodL b t).take i).countP fun c=>ald (chosenB b t c) g p d
theorem hasTo_all {b:Book} {t:List Torn} {g p d:Int}:hasTo b t g p d (goodL b t).length=(goodL b t).countP fun c=>ald (chosenB b t c) g p d:=by rw [hasTo,List.take_length]
end Go.Gm.Tryz
end
section
namespace Go.Gm.Tryz
open Go.Proofs
def cntK (cs:List (List Int)) (p:Nat) (k:Int) (n:Nat):Nat:=(cs.take n).countP fun c=>decide (c.getD p 0=k)
def outK (cs:List (List Int)) (p:Nat):Nat→Int
 |0=>0
 |k+1=>if outK cs p k<(cntK cs p k cs.length:Nat) then (cntK cs p k cs.length:Nat) else outK cs p k
def lookN (L:Nat→Int):Nat→Nat
 |0=>0
 |i+1=>if L i<L (lookN L i) then i else lookN L i
end Go.Gm.Tryz
end
section
namespace Go.Gm.Tryz
open Go.Proofs
theorem choice_mem:∀ {t:List Torn} {c:List Int},c.length=t.length→(∀i (h:i<t.length) (h':i<c.length),0≤c[i]∧c[i]<t[i].options.length)→c∈choicesL t:=by
 intro t
 induction t with
 |nil=>intro c hl _; simp at hl; subst hl; simp [choicesL]
 |cons t ts ih=>
  intro c hl h
  cases c with
  |nil=>simp at hl
  |cons k c=>
   have h0:=h 0 (by simp) (by simp)
   simp only [List.getElem_cons_zero] at h0
   have hc:=ih (c:=c) (by simpa using hl) (fun i hi hi'=>by have:=h (i+1) (by simpa using hi) (by simpa using hi'); simp only [List.getElem_cons_succ] at this; exact this)
   simp only [choicesL,List.mem_flatMap,List.mem_range,List.mem_map]
   exact ⟨k.toNat,by omega,c,hc,by rw [Int.toNat_of_nonneg h0.1]⟩
def choiceB (t:List Torn) (c:List Int):Bool:=decide (c∈choicesL t)
theorem choice_bad {t:List Torn} {c:List Int} {i:Nat} (h:i<t.length) (h':i<c.length) (hc:¬(0≤c[i]∧c[i]<t[i].options.length)):choiceB t c=false:=by
 unfold choiceB
 rw [decide_eq_false_iff_not]
 exact fun hm=>hc ((choices_mem hm).2 i h h')
theorem choice_len {t:List Torn} {c:List Int} (hc:¬c.length=t.length):choiceB t c=false:=by
 unfold choiceB
 rw [decide_eq_false_iff_not]
 exact fun hm=>hc (choices_mem hm).1
theorem rChoice_con {b:Book} {t:List Torn} (hO:TornOk b t) {a:Option Addr} {fl:Nat} {c:List Int} (hcl:c.length≤1000) {ca_:Option Addr} {cf_:Nat} {H:GH} (hT:TornIn H a t) (hC:Elems H ca_ 1 ca c):C 68 [.slice a t.length fl,.slice ca_ c.length cf_] H (.bool (choiceB t c)) H:=by
 refine au tok mix bae (F:=g68) (c:=_) rfl (n:=36) rfl (rs:= [.tmp 4]) rfl (ac rfl) ?_
 have hl3:=hO.len
 simp
 refine cv tok mix (by kernel_rfl) (min c.length t.length) (fun i ρ m H'=>ρ 0=.slice a t.length fl∧ρ 1=.slice ca_ c.length cf_∧ρ 5=vi i∧m= []∧H'=H∧∀j (h:j<t.length) (h':j<c.length),j<i→0≤c[j]∧c[j]<t[j].options.length) (i0:=0) (by omega) (by simp) ?_
 rintro i ρ m H hi ⟨e0,e1,e5,rfl,rfl,hj⟩
 by_cases h1:i<c.length
 ·have h1I:(i:Int)<c.length:=by omega
  by_cases h2:i<t.length
  ·have h2I:(i:Int)<t.length:=by omega
   obtain ⟨ac_,hac,_,hrc⟩:=hC.at i h1
   subst hac
   obtain ⟨at_,hat,_,hrt⟩:=hT.e.at i h2
   subst hat
   have hop:=hO.op _ (List.getElem_mem h2)
   simp (disch:=omega) [e0,e1,e5,h1,h1I,h2,h2I,hrc,hrt,aj]
   with_reducible refine (o6 _ _ _ _).go ?_
   by_cases h3:0≤c[i]∧c[i]<t[i].options.length
   ·have h4:inI c[i] 0 ((t[i].options.length:Int) - 1)=true:=by simp [inI]; omega
    rw [h4]
    simp (disch:=omega) [e0,e1,e5,aj,h1,h2]
    refine ⟨by omega,fun j h h' hji=>?_⟩
    by_cases hc:j=i
    ·subst hc; exact h3
    ·exact hj j h h' (by omega)
   ·have h4:inI c[i] 0 ((t[i].options.length:Int) - 1)=false:=by simp [inI]; omega
    rw [h4]
    simp (disch:=omega) [choice_bad h2 h1 h3]
  ·have h2I:¬(i:Int)<t.length:=by omega
   have hne:¬c.length=t.length:=by omega
   have hneI:¬(c.length:Int)=t.length:=by omega
   simp (disch:=omega) [e0,e1,e5,h1,h1I,h2,h2I,hne,hneI,choice_len hne]
 ·have h1I:¬(i:Int)<c.length:=by omega
  by_cases he:c.length=t.length
  ·have heI:(c.length:Int)=t.length:=by omega
   have h1t:¬i<t.length:=by omega
   have h1tI:¬(i:Int)<t.length:=by omega
   have hy:choiceB t c=true:=decide_eq_true (choice_mem he fun j h h'=>hj j h h' (by omega))
   simp (disch:=omega) [e0,e1,e5,h1,h1I,h1t,h1tI,he,heI,hy]
  ·have heI:¬(c.length:Int)=t.length:=by omega
   simp (disch:=omega) [e0,e1,e5,h1,h1I,he,heI,choice_len he]
theorem may_all {b:Book} {t:List Torn} {g p d:Int} {c:List Int} (hc:c∈goodL b t):
  1≤(goodL b t).length∧(aum (goodL b t).length (hasTo b t g p d (goodL b t).length)).2=0∧
  ((aum (goodL b t).length (hasTo b t g p d (goodL b t).length)).1=3→ald (chosenB b t c) g p d=true)∧
  ((aum (goodL b t).length (hasTo b t g p d (goodL b t).length)).1=1→ald (chosenB b t c) g p d=false):=by
 have hlen:1≤(goodL b t).length:=List.length_pos_of_mem hc
 rw [hasTo_all]
 have h0:¬(goodL b t).length=0:=by omega
 refine ⟨hlen,?_,?_,?_⟩
 ·unfold aum
  rw [if_neg h0]
  split
  ·rfl
  ·split<;>rfl
 ·intro h
  have he:(goodL b t).countP (fun c=>ald (chosenB b t c) g p d)=(goodL b t).length:=by
   unfold aum at h
   rw [if_neg h0] at h
   split at h
   ·assumption
   ·split at h<;>simp at h
  exact List.countP_eq_length.1 he c hc
 ·intro h
  have he:(goodL b t).countP (fun c=>ald (chosenB b t c) g p d)=0:=by
   unfold aum at h
   rw [if_neg h0] at h
   split at h
   ·simp at h
   ·split at h
    ·simp at h
    ·omega
  have:=List.countP_eq_zero.1 he c hc
  simpa using this
end Go.Gm.Tryz
end
section
namespace Go.Gm.Tryz
open Go.Proofs
theorem bool_neq (a b:Bool):dx T .neq 4 (.bool a) (.bool b)=some (.bool (a != b)):=by cases a<;>cases b<;>exact ai rfl
theorem bool_eql (a b:Bool):dx T .eql 4 (.bool a) (.bool b)=some (.bool (a==b)):=by cases a<;>cases b<;>exact ai rfl
theorem true_law {H:GH} {l:BLoc} {b:Book} (hb:BookIn H l b) (hfx:FxOk H.fx) {s:SLoc} {t:List Torn} (hT:TornIn H s.a t) (hs:awp s 2) {c:List Int} {ca_:Option Addr} {cf_:Nat} (hC:Elems H ca_ 1 ca c) (grant person day:Int):C 20 [dl l b,.slice s.a t.length s.fl,.slice ca_ c.length cf_,vi grant,vi person,vi day] H (.bool true) H:=by
 refine au tok mix a9u (F:=g20) (c:=_) rfl (n:=181) rfl (rs:= [.tmp 12]) rfl (ac rfl) ?_
 rcases l with ⟨⟨⟨ra,rf⟩⟩,⟨oa,of'⟩,⟨va,vf⟩⟩
 simp
 generalize hH1:GH.push H _=H1
 have hs1:Sub H H1:=by subst hH1; exact Sub.push (.refl H) _
 have k0:H1.get H.next=some (.arr { cells:=bq ⟨⟨⟨ra,rf⟩⟩,⟨oa,of'⟩,⟨va,vf⟩⟩ b,ty:=28 }):=by subst hH1; simp
 have hn1:H1.next=H.next+1:=by subst hH1; simp
 have hf1:FxOk H1.fx:=by subst hH1; exact hfx
 have hb1:=hb.mono hs1
 have hT1:=hT.mono hs1
 have hC1:=hC.mono hs1
 clear hH1
 with_reducible refine (uc ⟨⟨⟨_,_⟩⟩,⟨_,_⟩,⟨_,_⟩⟩ b _ hb1).go ?_
 simp
 cases hsh:nw b
 ·simp
  refine (cx hf1).go ?_
  simp
  exact hs1
 obtain ⟨h15,h14,h8,h4⟩:=qv hsh
 simp
 refine (brief_con t s.a s.fl _ hT1).go ?_
 simp
 cases hbr:briefB t
 ·simp
  refine (cx hf1).go ?_
  simp
  exact hs1
 have hl5:=brief_le hbr
 by_cases hc5:5<c.length
 ·have hc5I:(5:Int)<c.length:=by omega
  simp [hc5,hc5I]
  refine (cx hf1).go ?_
  simp
  exact hs1
 have hc5I:¬(5:Int)<c.length:=by omega
 simp [hc5,hc5I,k0]
 with_reducible refine (py ⟨⟨⟨_,_⟩⟩,⟨_,_⟩,⟨_,_⟩⟩ b _ hb1 (by omega)).go ?_
 simp
 cases hB:aq b
 ·simp
  refine (cx hf1).go ?_
  simp
  exact hs1
 simp [k0]
 with_reducible refine (rTorn_con ⟨⟨⟨_,_⟩⟩,⟨_,_⟩,⟨_,_⟩⟩ b t (by omega) s.a s.fl _ hT1).go ?_
 simp
 cases ht:iw b t
 ·simp
  refine (cx hf1).go ?_
  simp
  exact hs1
 have hbo:=l8 hB
 obtain ⟨hO,_⟩:=torn_oks ht hbo.events
 simp
 refine (rChoice_con hO (by omega) hT1 hC1).go ?_
 simp
 cases hch:choiceB t c
 ·simp
  refine (cx hf1).go ?_
  simp
  exact hs1
 have hmem:c∈choicesL t:=of_decide_eq_true hch
 simp
 refine (lu _ _).go ?_
 simp
 cases hg:dv grant
 ·simp
  refine (cx hf1).go ?_
  simp
  exact hs1
 simp [k0]
 with_reducible refine (ji ⟨⟨⟨_,_⟩⟩,⟨_,_⟩,⟨_,_⟩⟩ b _ _).go ?_
 simp
 cases hp:az b person
 ·simp
  refine (cx hf1).go ?_
  simp
  exact hs1
 simp
 refine (sq _ _).go ?_
 simp
 cases hd:fu day
 ·simp
  refine (cx hf1).go ?_
  simp
  exact hs1
 have hg0:0≤grant:=by simp [dv,inI] at hg; omega
 simp [k0]
 refine (rChosen_con hb1 hbo.events hT1 hO hC1 hmem).fx.mono ?_
 rintro x H2 ⟨⟨s2,ae,ef,rfl,hb2⟩,f2⟩
 have k2:=(s2.2 H.next (by omega)).trans k0
 have hn2:=s2.1
 have hf2:FxOk H2.fx:=by rw [f2]; exact hf1
 simp (disch:=omega)
 generalize hX:chosenB b t c=X at*
 generalize hH3:GH.put _ _ _=H3
 have s3:Sub H2 H3:=by subst hH3; exact ⟨by simp,fun g hg=>by simp (disch:=omega)⟩
 have k13:H3.get H2.next=some (.arr { cells:=bq (aaj ⟨⟨⟨ra,rf⟩⟩,⟨oa,of'⟩,⟨va,vf⟩⟩ ae ef) X,ty:=28 }):=by subst hH3; simp
 have hf3:FxOk H3.fx:=by subst hH3; exact hf2
 have hn3:H3.next=H2.next+1:=by subst hH3; simp
 clear hH3
 have k3:=(s3.2 H.next (by omega)).trans k2
 have hs3:=hs1.trans (s2.trans s3)
 have hb3:=hb.mono hs3
 have hT3:=hT.mono hs3
 have hx3:=hb2.mono s3
 with_reducible refine (an7 (l:=⟨⟨⟨_,_⟩⟩,⟨_,_⟩,⟨_,_⟩⟩) (b:=X) hx3).go ?_
 simp (disch:=omega) [k13]
 with_reducible refine (aeo (l:=⟨⟨⟨_,_⟩⟩,⟨_,_⟩,⟨_,_⟩⟩) (b:=X) hx3).go ?_
 simp (disch:=omega) [k3]
 with_reducible refine (akc ⟨⟨⟨_,_⟩⟩,⟨_,_⟩,⟨_,_⟩⟩ b t (by omega) s.a s.fl _ hb3 hT3).go ?_
 simp (disch:=omega) [k3]
 with_reducible refine (awn ⟨⟨⟨_,_⟩⟩,⟨_,_⟩,⟨_,_⟩⟩ b t (by omega) s.a s.fl grant person day _ hb3 hT3).go ?_
 have hr:ab0 b t=(((goodL b t).length:Int),0):=by simp [ab0,hB,ht,truths_good]
 have hm:abd b t grant person day=aum (goodL b t).length (hasTo b t grant person day (goodL b t).length):=by
  simp only [abd,ox,hB,ht,hg,hp,hd,Bool.and_self,if_true,truths_good,has_count,hasTo_all]
 have hm7:((aum (goodL b t).length (hasTo b t grant person day (goodL b t).length)).2=7∧(goodL b t).length=0)∨((aum (goodL b t).length (hasTo b t grant person day (goodL b t).length)).2=0∧(goodL b t).length≠0):=by
  unfold aum
  by_cases h0:(goodL b t).length=0
  ·rw [if_pos h0]; exact .inl ⟨rfl,h0⟩
  ·rw [if_neg h0]
   refine .inr ⟨?_,h0⟩
   split
   ·rfl
   ·split<;>rfl
 rw [hr,hm]
 by_cases hgo:c∈goodL b t
 ·obtain ⟨m1,m2,m3,m4⟩:=may_all (g:=grant) (p:=person) (d:=day) hgo
  have hok:=(good_mem hgo).2
  rw [hX] at m3 m4
  have hxB:aq X=true:=by rw [←hX]; simp only [okC,yv,Bool.and_eq_true] at hok; exact hok.1
  have hxW:dw X=none:=by rw [←hX]; simp only [okC,yv,Bool.and_eq_true,Option.isNone_iff_eq_none] at hok; exact hok.2
  generalize aum (goodL b t).length (hasTo b t grant person day (goodL b t).length)=mm at*
  obtain ⟨st,hst⟩:=yr hxB hxW day
  have ho:=zo hxB hxW hst hd (ok:=true) rfl
  have hhas:ald X grant person day=aix st grant person:=by unfold ald; rw [hst]
  rw [hhas] at m3 m4
  have hw:tk X=(0,5):=by simp [tk,hxB,hxW]
  have c0:¬(goodL b t).length=0:=by omega
  have c0I:¬((goodL b t).length:Int)=0:=by omega
  have c1I:¬((goodL b t).length:Int)<0:=by omega
  have c2I:¬((goodL b t).length:Int)<1:=by omega
  simp (disch:=omega) [hxB,hw,m2,bool_neq,bool_eql,c0,c0I,c1I,k13]
  with_reducible refine (ab5 (l:=aaj ⟨⟨⟨ra,rf⟩⟩,⟨oa,of'⟩,⟨va,vf⟩⟩ ae ef) hx3 day).fx.mono ?_
  rintro x H4 ⟨⟨s4,v4,rfl,w4⟩,f4⟩
  have hf4:FxOk H4.fx:=by rw [f4]; exact hf3
  rw [ho] at w4 ⊢
  simp only [o8] at w4 ⊢
  obtain ⟨a4,q4,rfl,E4⟩:=w4
  simp (disch:=omega) [c0,c2I]
  have hs4:=hs3.trans s4
  have w1:aix st grant person=true→¬mm.1=1:=fun h hc=>by rw [m4 hc] at h; cases h
  have w3:aix st grant person=false→¬mm.1=3:=fun h hc=>by rw [m3 hc] at h; cases h
  obtain ⟨g,rfl⟩:∃g:Nat,grant=g:=⟨grant.toNat,by omega⟩
  by_cases h1:g<st.grants.length
  ·obtain ⟨a,rfl,hal,hrd⟩:=E4.at g h1
   have hgI:(g:Int)<st.grants.length:=by omega
   have hga:gAt st g=st.grants[g]:=bc h1
   have hh:aix st g person=(decide (st.grants[g].is=1)&&decide (st.grants[g].person=person)):=by simp [aix,h1,hga]
   rw [hh] at w1 w3
   by_cases h2:st.grants[g].is=1
   ·by_cases h3:st.grants[g].person=person
    ·have n1:=w1 (by simp [h2,h3])
     by_cases c3:mm.1=3<;>simp (disch:=omega) [h1,hgI,hrd,h2,h3,n1,c3]
     all_goals refine (cx hf4).go ?_; simp; exact hs4
    ·have n3:=w3 (by simp [h2,h3])
     by_cases c3:mm.1=1<;>simp (disch:=omega) [h1,hgI,hrd,h2,h3,n3,c3]
     all_goals refine (cx hf4).go ?_; simp; exact hs4
   ·have n3:=w3 (by simp [h2])
    by_cases c3:mm.1=1<;>simp (disch:=omega) [h1,hgI,hrd,h2,n3,c3]
    all_goals refine (cx hf4).go ?_; simp; exact hs4
  ·have hgI:¬(g:Int)<st.grants.length:=by omega
   have hh:aix st g person=false:=by simp [aix,h1]
   have n3:=w3 hh
   by_cases c3:mm.1=1<;>simp (disch:=omega) [h1,hgI,n3,c3]
   all_goals refine (cx hf4).go ?_; simp; exact hs4
 ·have c1I:¬((goodL b t).length:Int)<0:=by omega
  have hnok:okC b t c=false:=by
   cases h:okC b t c
   ·rfl
   ·exact absurd (List.mem_filter.2 ⟨hmem,h⟩) hgo
  generalize aum (goodL b t).length (hasTo b t grant person day (goodL b t).length)=mm at*
  have key:∀(P:Prop),(aq X=false→tk X=(0,2)→P)→(aq X=true→∀n,tk X=(n,0)→P)→P:=fun P h1 h2=>by
   cases hxB:aq X with
   |false=>exact h1 hxB (by simp [tk,hxB])
   |true=>
    cases hxW:dw X with
    |none=>rw [←hX] at hxB hxW; simp [okC,yv,hxB,hxW] at hnok
    |some n=>exact h2 hxB n (by simp [tk,hxB,hxW])
  have hs3':=hs3
  refine key _ (fun hxB hw=>?_) (fun hxB n hw=>?_)
  ·rcases hm7 with ⟨m2,c0⟩|⟨m2,c0⟩
   ·simp (disch:=omega) [hxB,hw,m2,bool_neq,bool_eql,c0]
    refine (cx hf3).go ?_
    simp
    exact hs3
   ·have c0I:¬((goodL b t).length:Int)=0:=by omega
    simp (disch:=omega) [hxB,hw,m2,bool_neq,bool_eql,c0,c0I,c1I]
    refine (cx hf3).go ?_
    simp
    exact hs3
  ·rcases hm7 with ⟨m2,c0⟩|⟨m2,c0⟩
   ·simp (disch:=omega) [hxB,hw,m2,bool_neq,bool_eql,c0]
    refine (cx hf3).go ?_
    simp
    exact hs3
   ·have c0I:¬((goodL b t).length:Int)=0:=by omega
    simp (disch:=omega) [hxB,hw,m2,bool_neq,bool_eql,c0,c0I,c1I]
    refine (cx hf3).go ?_
    simp
    exact hs3
end Go.Gm.Tryz
end
section
namespace Go.Gm.Tryz
open Go.Proofs
theorem fitTorn:Fit Tryz.prog bnc 88:=.struct Tryz.underlying88 (by kernel_rfl) (.cons rfl (by kernel_rfl) rz (.cons rfl (by kernel_rfl) (.slice Tryz.underlying26 (by kernel_rfl) (by decide) a9k) .nil))
theorem fitTorns:Fit Tryz.prog (.slice bnc) 72:=.slice Tryz.underlying72 (by kernel_rfl) (by decide) fitTorn
theorem lie_torn (H:GH) (cs:List Value) (h:Lie H bnc cs):∃x:Torn,cs=bkv x∧(Elems H x.loc.a 8 jb x.options∧awp x.loc 8):=by
 obtain ⟨_,_,rfl,h1,h⟩:=ec h
 obtain ⟨_,_,rfl,h2,h⟩:=ec h
 obtain rfl:_= []:=h
 obtain ⟨n,rfl⟩:=ew h1
 obtain ⟨s,l,rfl,e,k⟩:=zm (sz:=8) rfl (fun _=>rfl) (a5v H) h2
 exact ⟨⟨s,n,l⟩,rfl,e,k⟩
theorem lie_elemsP {α:Type} {H:GH} {e:DT} {enc:α→List Value} {sz:Nat} {P:α→Prop} (hsz:e.sz=sz) (hl:∀x,(enc x).length=sz) (hdec:∀cs,Lie H e cs→∃x,cs=enc x∧P x) {cs:List Value} (h:Lie H (.slice e) cs):
  ∃(s:SLoc) (l:List α),cs= [.slice s.a l.length s.fl]∧Elems H s.a sz enc l∧awp s sz∧∀x∈l,P x:=by
 subst hsz
 rcases h with rfl|⟨a,ls,rfl,hb,hr,hx⟩
 ·exact ⟨⟨none,0⟩,[],rfl,⟨hl,fun c hc=>(by cases hc),fun _=>rfl⟩,.inl ⟨rfl,rfl⟩,fun x hx=>by cases hx⟩
 ·have hex:∃l:List α,ls=l.map enc∧∀x∈l,P x:=by
   clear hr
   induction ls with
   |nil=>exact ⟨[],rfl,fun x hx=>by cases hx⟩
   |cons c ls ih=>
    obtain ⟨l,rfl,hp⟩:=ih fun x hxm=>hx x (List.mem_cons_of_mem _ hxm)
    obtain ⟨x,rfl,hq⟩:=hdec c (hx c (List.mem_cons_self ..)).2
    refine ⟨x::l,rfl,fun y hy=>?_⟩
    rcases List.mem_cons.1 hy with rfl|hy
    ·exact hq
    ·exact hp y hy
  obtain ⟨l,rfl,hP⟩:=hex
  refine ⟨⟨some a,e.sz⟩,l,by simp,⟨hl,fun c hc=>?_,fun hc=>by cases hc⟩,.inr ⟨a,rfl,rfl⟩,hP⟩
  cases hc
  rw [List.length_map] at hr
  exact ⟨hb,by rw [hr,List.flatMap_def]⟩
theorem lie_torns {H:GH} {cs:List Value} (h:Lie H (.slice bnc) cs):∃(s:SLoc) (t:List Torn),ahz (.slice bnc) cs=.slice s.a t.length s.fl∧TornIn H s.a t∧awp s 2∧∀x∈t,awp x.loc 8:=by
 obtain ⟨s,l,rfl,e,k,hp⟩:=lie_elemsP (sz:=2) (P:=fun x:Torn=>Elems H x.loc.a 8 jb x.options∧awp x.loc 8) rfl (fun _=>rfl) (lie_torn H) h
 exact ⟨s,l,rfl,⟨e,fun x hx=>(hp x hx).1⟩,k,fun x hx=>(hp x hx).2⟩
theorem fitInts:Fit Tryz.prog (.slice dI) 25:=.slice Tryz.underlying25 (by kernel_rfl) (by decide) rz
theorem lie_ints {H:GH} {cs:List Value} (h:Lie H (.slice dI) cs):∃(s:SLoc) (c:List Int),ahz (.slice dI) cs=.slice s.a c.length s.fl∧Elems H s.a 1 ca c∧awp s 1:=by
 obtain ⟨s,l,rfl,e,k⟩:=zm (sz:=1) rfl (fun _=>rfl) (bb5 H) h
 exact ⟨s,l,rfl,e,k⟩
end Go.Gm.Tryz
end
section
namespace Go.Gm.Tryz
open Go.Proofs Go.Proofs.YtmnfgajihkfahaaGreatDoor Go.RowKit
theorem grantTrue_spec:LawSpec Rows.grantTrueSpec 6:=⟨rfl,fun H xs h=>by
 match xs,h with
 | [_,_,_,_,_,_],_=>rfl⟩
set_option maxRecDepth 100000 in
theorem grantTrue_lifted (os:Os) (started:os.Started) (H:Type) (enc:TypeId×Value→H):
  ReturnsInHanded {} Tryz.checked os 20 .any (fun w args=>(Rows.grantTrueSpec.pre enc Tryz.prog Tryz.f20 [] false w args∧laidMetH Tryz.prog li w)∧sizedMet enc Tryz.prog Tryz.f20 (OpenSpec.ofChange Rows.grantTrueSpec) false w args)
   (Rows.grantTrueSpec.post enc Tryz.prog Tryz.f20 false true false false):=by
 refine fk (C:=Tryz.checked) (X:=fun w _=>laidMetH Tryz.prog li w) (fun _ _ _ hh h=>h.of_heap hh) own started (by kernel_rfl) Tryz.func20
  (ChangeSpec.witness_shaped (enc:=enc) (C:=Tryz.checked) (os:=os) (X:=fun w _=>laidMetH Tryz.prog li w) false (World.laidAll Tryz.prog os li) #[.agg #[.slice none 0 0,.int .i64 0,.int .i64 0,.int .i64 0,.int .i64 0,.slice none 0 0,.slice none 0 0],.slice none 0 0,.slice none 0 0,.int .i64 0,.int .i64 0,.int .i64 0] 9 (World.laidAll_os _ _ _)
   (World.shaped_of_ZipB (by kernel_rfl) (by kernel_rfl)) (by kernel_rfl) (by kernel_rfl) (by kernel_rfl)
   (by rw [MakeChecks.laidMetH_plain _ _ _ (by kernel_rfl)]; exact laidMet_laidAll _ (by kernel_rfl) (by kernel_rfl))) ?_
 intro W base args ds gs before hsh hval _ hw hL
 obtain ⟨fx,hfx,hok,hW⟩:=anh hL hsh
 refine tw (P:=Tryz.prog) (fn:=Tryz.f20) (ds:= [sh,.slice bnc,.slice dI,dI,dI,dI]) abw (by rw [Tryz.params20]; exact .cons abt (.cons fitTorns (.cons fitInts (.cons rz (.cons rz (.cons rz .nil)))))) (by kernel_rfl) Tryz.underlying4 (by
  rw [Tryz.params20]
  intro t ht
  have hall:([28,72,25,3,3,3].all fun t=>Tryz.prog.readableRec t&&decide (t<Tryz.prog.types.size))=true:=by kernel_rfl
  have:=List.all_eq_true.1 hall t (by simpa using ht)
  simpa using this) grantTrue_spec hW hfx ?_ hval hw
 intro G gss hG hLie
 have hfG:FxOk G.fx:=by rw [hG]; exact hok
 cases hLie with
 |cons h1 h2=>
 cases h2 with
 |cons h2 h3=>
 cases h3 with
 |cons h3 h4=>
 cases h4 with
 |cons h4 h5=>
 cases h5 with
 |cons h5 h6=>
 cases h6 with
 |cons h6 h7=>
 cases h7
 obtain ⟨l,b,e,hb,_,_,k3⟩:=yb h1
 obtain ⟨s,t,e2,ht,k,_⟩:=lie_torns h2
 obtain ⟨r,c,e3,hc,_⟩:=lie_ints h3
 obtain ⟨n,rfl⟩:=ew h4
 obtain ⟨m,rfl⟩:=ew h5
 obtain ⟨o,rfl⟩:=ew h6
 show ay Tryz.prog 20 [ahz sh _,ahz (.slice bnc) _,ahz (.slice dI) _,vi n,vi m,vi o] G _
 rw [e,e2,e3]
 exact (true_law hb hfG ht k hc n m o).mono fun x _ h=>h.1
theorem grantTrue_inPlace:(Rows.grantTrueRow.inPlace==Tryz.prog.inPlace 20)=true:=by kernel_rfl
theorem grantTrue_unf:(Rows.grantTrueRow.unfollowed==Tryz.prog.unfollowed 20)=true:=by kernel_rfl
theorem grantTrue_rec:(Rows.grantTrueRow.recurses==Tryz.prog.recurses 20)=true:=by kernel_rfl
theorem grantTrue_named:(Rows.grantTrueRow.named==Tryz.prog.varsNamed 20)=true:=by kernel_rfl
theorem grantTrue_joined:joinedFacts Tryz.prog 20 Tryz.f20 Rows.grantTrueSpec Rows.grantTrueRow=true:=by
 unfold joinedFacts
 exact am (am (am (am (am (am (am (am (am (am (am (am (am (am (am (am (am (am (am (am (am (am (am (am (am (am (am (am (am (am (am (by kernel_rfl) (by kernel_rfl)) (by kernel_rfl)) (by kernel_rfl)) (by kernel_rfl)) (by kernel_rfl)) (by kernel_rfl)) (by kernel_rfl)) (by kernel_rfl)) grantTrue_inPlace) grantTrue_unf) grantTrue_rec) grantTrue_named) (by kernel_rfl)) (by kernel_rfl)) (by kernel_rfl)) (by kernel_rfl)) (by kernel_rfl)) (by kernel_rfl)) (by kernel_rfl)) (by kernel_rfl)) (by kernel_rfl)) (by kernel_rfl)) (by kernel_rfl)) (by kernel_rfl)) af9) (by rw [agc]; exact beq_self_eq_true _)) (by rw [anr]; exact beq_self_eq_true _)) (by kernel_rfl)) (by kernel_rfl)) (by kernel_rfl)) (by kernel_rfl)
theorem grantTrue_holds:Rows.GrantTrueSaid:=
 OpenClaim.holds_of_wide 20 Tryz.f20 rfl rfl rfl rfl rfl rfl rfl ⟨rfl,rfl,rfl,rfl,rfl⟩ rfl rfl rfl rfl rfl (by kernel_rfl) Tryz.func20 grantTrue_joined
  (of_decide_eq_true (by kernel_rfl)) (by unfold Func.isWrapper; first|(rw [if_pos (by decide+kernel)]; kernel_rfl)|(rw [if_neg (by decide+kernel)]; exact ⟨rfl,rfl⟩))
  (fun os started H enc _=>grantTrue_lifted os started H enc)
end Go.Gm.Tryz
namespace Go.Proofs.YtmnfgajihkfahaaGreatDoor
open Go.Gm.Tryz
set_option maxRecDepth 100000 in
theorem grantTrue_card_holds:Rows.GrantTrueCardSaid:=
 Claim7.holds_tied_plain_at .later [] [.data,.data,.data,.data,.pinned] true (true, "c50a2473247fd563652536c5189614d6c43fc7c925362f406516d21693885498") true
  grantTrue_holds (fun _ h=>by cases h) (by kernel_rfl) (fun _ h=>by cases h) grantTrue_row_tie rfl ⟨rfl,rfl⟩ anq rfl
  (fun f fn hf hfn=>by
   obtain rfl:f=20:=Option.some.inj ((show Tryz.prog.funcNamed "quinaria/quinarialaw06.GrantTrue"=some 20 by kernel_rfl).symm.trans hf)|>.symm
   obtain rfl:fn=Tryz.f20:=(Option.some.inj (Tryz.func20.symm.trans hfn)).symm
   exact ⟨agv,fun j t ht=>by
    rw [Tryz.params20] at ht
    have hm:t∈ [28,72,25,3,3,3]:=by simpa using Array.mem_of_getElem? ht
    have hall:([28,72,25,3,3,3].all fun u=> !Tryz.prog.wantsStandIn u)=true:=by kernel_rfl
    exact (show Tryz.prog.wantsStandIn t=false by simpa using List.all_eq_true.1 hall t hm)⟩)
  (by kernel_rfl)
end Go.Proofs.YtmnfgajihkfahaaGreatDoor
end
end
