/- The function GrantLooks, called with any register and any torn places, returns true, and never panics: by the model of the language, for every input that the card fits, and under the card's conditions alone. -/
import Derived.Test.YtmnfgajihkfahaaGreatDoorBc6
import Derived.Test.YtmnfgajihkfahaaGreatDoorTie
noncomputable section
section
namespace Go.Gm.Tryz
open Go.Proofs
@[simp] theorem bli:ah 4 g53.plans=some [(0,[]),(1,[]),(2,[]),(3,[]),(4,[]),(5,[]),(6,[]),(7,[]),(8,[]),(9,[]),(10,[]),(11,[]),(12,[]),(13,[]),(14,[]),(15,[]),(16,[]),(17,[]),(18,[]),(19,[]),(20,[]),(21,[]),(22,[]),(23,[]),(24,[]),(25,[]),(26,[]),(27,[]),(28,[]),(29,[]),(30,[]),(31,[]),(32,[]),(33,[]),(34,[]),(35,[]),(36,[]),(37,[]),(38,[])]:=ai rfl
@[simp] theorem blj:ah 9 g53.plans=some [(0,[]),(1,[]),(2,[]),(3,[]),(4,[]),(5,[]),(6,[]),(7,[]),(8,[]),(9,[]),(10,[])]:=ai rfl
@[simp] theorem bll:ah 6 g54.plans=some [(0,[]),(1,[]),(2,[]),(3,[]),(4,[]),(5,[]),(6,[]),(7,[])]:=ai rfl
@[simp] theorem blu:ah 5 g69.plans=some [(0,[]),(1,[]),(2,[]),(3,[]),(4,[]),(5,[]),(6,[]),(7,[]),(8,[]),(9,[]),(10,[]),(11,[]),(12,[]),(13,[]),(14,[]),(15,[]),(16,[]),(17,[]),(18,[]),(19,[])]:=ai rfl
end Go.Gm.Tryz
end
section
namespace Go.Gm.Tryz
open Go.Proofs
theorem qv {b:Book} (h:nw b=true):b.tbl.rows.length≤15∧b.events.length≤14∧b.owners.length≤8∧(aq b=true→b.tbl.rows.length≤4):=by
 have h':=h
 simp [nw] at h'
 refine ⟨by omega,by omega,by omega,fun hB=>?_⟩
 have ht:=xj hB
 simp [ht] at h'
 omega
end Go.Gm.Tryz
end
section
namespace Go.Gm
theorem Elems.tail {α:Type} {H:GH} {sz:Nat} {enc:α→List Value} {l:List α} {a:Addr} {x:α} (h:Elems H (some a) sz enc (x::l)):Elems H (some (ku a sz)) sz enc l:=by
 refine ⟨h.len,fun b hb=>?_,fun hn=>by cases hn⟩
 cases hb
 obtain ⟨h1,h2⟩:=h.ok a rfl
 refine ⟨h1,?_⟩
 have:=zr h2 (k:=sz) (m:=l.length*sz) (by simp only [List.length_cons,Nat.add_mul]; omega)
 rw [List.flatMap_cons,List.drop_left' (h.len x),List.take_of_length_le (by rw [jc h.len]; exact Nat.le_refl _)] at this
 exact this
end Go.Gm
namespace Go.Gm.Tryz
open Go.Proofs
theorem TornIn.tail {H:GH} {a:Addr} {x:Torn} {l:List Torn} (h:TornIn H (some a) (x::l)):TornIn H (some (ku a 2)) l:=⟨h.e.tail,fun t ht=>h.o t (List.mem_cons_of_mem _ ht)⟩
def choicesL:List Torn→List (List Int)
 | []=> [[]]
 |t::ts=>(List.range t.options.length).flatMap fun (k:Nat)=>(choicesL ts).map fun c=>(k:Int)::c
def setEv (ev:List Ev) (p:Torn×Int):List Ev:=ev.set p.1.event.toNat (p.1.options.getD p.2.toNat default)
def chosenEv (ts:List Torn) (c:List Int) (ev:List Ev):List Ev:=(ts.zip c).foldl setEv ev
def chosenB (b:Book) (t:List Torn) (c:List Int):Book:= { b with events:=chosenEv t c b.events }
theorem setEv_len (ev:List Ev) (p:Torn×Int):(setEv ev p).length=ev.length:=by simp [setEv]
theorem chosenEv_len:∀(l:List (Torn×Int)) (ev:List Ev),(l.foldl setEv ev).length=ev.length:=by
 intro l
 induction l with
 |nil=>intro ev; rfl
 |cons p l ih=>intro ev; rw [List.foldl_cons,ih,setEv_len]
theorem chosenEv_cons (t:Torn) (ts:List Torn) (k:Int) (c:List Int) (ev:List Ev):chosenEv (t::ts) (k::c) ev=chosenEv ts c (setEv ev (t,k)):=rfl
theorem truthsFrom_eq (b:Book):∀(ts:List Torn) (now:List Int) (ev:List Ev),
  bz b ts now ev=((choicesL ts).filter fun c=>yv { b with events:=chosenEv ts c ev }).map fun c=>(now++c,{ b with events:=chosenEv ts c ev }):=by
 intro ts
 induction ts with
 |nil=>
  intro now ev
  have e:chosenEv [] [] ev=ev:=rfl
  simp only [bz,choicesL,List.filter_cons,List.filter_nil,e]
  split<;>simp [e]
 |cons t ts ih=>
  intro now ev
  simp only [bz,choicesL]
  rw [List.filter_flatMap,List.map_flatMap]
  congr 1
  funext k
  rw [ih,List.filter_map,List.map_map]
  have e:∀c,chosenEv (t::ts) ((k:Int)::c) ev=chosenEv ts c (ev.set t.event.toNat (t.options.getD k default)):=fun c=>by
   rw [chosenEv_cons]
   simp [setEv]
  simp only [Function.comp_def,e,List.append_assoc,List.singleton_append]
def okC (b:Book) (t:List Torn) (c:List Int):Bool:=yv (chosenB b t c)
def goodL (b:Book) (t:List Torn):List (List Int):=(choicesL t).filter (okC b t)
theorem truthsL_eq (b:Book) (t:List Torn):di b t=(goodL b t).map fun c=>(c,chosenB b t c):=by
 unfold di
 rw [truthsFrom_eq]
 rfl
theorem truths_good (b:Book) (t:List Torn):(di b t).length=(goodL b t).length:=by rw [truthsL_eq,List.length_map]
theorem choices_mem:∀ {t:List Torn} {c:List Int},c∈choicesL t→c.length=t.length∧∀i (h:i<t.length) (h':i<c.length),0≤c[i]∧c[i]<t[i].options.length:=by
 intro t
 induction t with
 |nil=>intro c hc; simp [choicesL] at hc; subst hc; exact ⟨rfl,fun i h=>by simp at h⟩
 |cons t ts ih=>
  intro c hc
  simp only [choicesL,List.mem_flatMap,List.mem_range,List.mem_map] at hc
  obtain ⟨k,hk,d,hd,rfl⟩:=hc
  obtain ⟨h1,h2⟩:=ih hd
  refine ⟨by simp [h1],fun i h h'=>?_⟩
  cases i with
  |zero=>simp; omega
  |succ i=>simpa using h2 i (by simpa using h) (by simpa using h')
theorem choices_len:∀ {t:List Torn},(∀x∈t,x.options.length≤4)→(choicesL t).length≤4^t.length:=by
 intro t
 induction t with
 |nil=>intro _; simp [choicesL]
 |cons t ts ih=>
  intro h
  have h1:=ih fun x hx=>h x (List.mem_cons_of_mem _ hx)
  have h2:=h t (by simp)
  simp only [choicesL,List.length_flatMap,List.length_map,List.map_const',List.length_range,List.sum_replicate_nat,List.length_cons,Nat.pow_succ]
  rw [Nat.mul_comm]
  exact Nat.mul_le_mul h1 h2
theorem choices_le {t:List Torn} (hl:t.length≤3) (h:∀x∈t,x.options.length≤4):(choicesL t).length≤64:=
 Nat.le_trans (choices_len h) (Nat.le_trans (Nat.pow_le_pow_right (by decide) hl) (by decide))
theorem good_mem {b:Book} {t:List Torn} {c:List Int} (h:c∈goodL b t):c∈choicesL t∧okC b t c=true:=List.mem_filter.1 h
theorem cnt_all (b:Book) (t:List Torn) (i:Nat) (k:Int):lh b t (di b t).length i k=(((goodL b t).countP fun c=>decide (c.getD i 0=k):Nat):Int):=by
 unfold lh
 rw [List.take_length,truthsL_eq,List.countP_map]
 rfl
theorem torn_oks {b:Book} {t:List Torn} (h:iw b t=true) (hE:b.events.length≤12):TornOk b t∧∀x∈t,1≤x.options.length:=by
 simp only [iw,Bool.and_eq_true,List.all_eq_true,List.mem_range,Bool.not_eq_true',decide_eq_true_eq] at h
 have key:∀x∈t,(0≤x.event∧x.event<b.events.length)∧x.options.length≤4∧1≤x.options.length:=fun x hx=>by
  obtain ⟨i,hi,rfl⟩:=List.mem_iff_getElem.1 hx
  have:=h.1 i hi
  unfold pa at this
  rw [tAt,bc hi] at this
  simp only [Bool.or_eq_false_iff,Bool.not_eq_false',inI,decide_eq_true_eq] at this
  rw [aj ((b.events.length:Int) - 1) (by omega) (by omega)] at this
  omega
 exact ⟨⟨h.2,fun x hx=>(key x hx).1,fun x hx=>(key x hx).2.1⟩,fun x hx=>(key x hx).2.2⟩
end Go.Gm.Tryz
end
section
namespace Go.Gm.Tryz
open Go.Proofs
def briefB (t:List Torn):Bool:=(t.take 5).all (fun x=>decide (x.options.length≤6))&&decide (t.length≤5)
theorem brief_con (t:List Torn) (a:Option Addr) (fl:Nat) (H:GH) (hT:TornIn H a t):C 51 [.slice a t.length fl] H (.bool (briefB t)) H:=by
 refine au tok mix a94 (F:=g51) (c:=_) rfl (n:=24) rfl (rs:= [.tmp 2]) rfl (ac rfl) ?_
 simp
 refine cv tok mix (by kernel_rfl) 5 (fun i ρ m H'=>ρ 0=.slice a t.length fl∧ρ 3=vi i∧m= []∧H'=H∧∀j (h:j<t.length),j<i→t[j].options.length≤6) (i0:=0) (by omega) (by simp) ?_
 rintro i ρ m H hi ⟨e0,e3,rfl,rfl,hj⟩
 have yes:(∀j (h:j<t.length),j<5→t[j].options.length≤6)→briefB t=decide (t.length≤5):=fun h=>by
  have:((t.take 5).all fun x=>decide (x.options.length≤6))=true:=by
   rw [List.all_eq_true]
   intro x hx
   obtain ⟨j,hjl,rfl⟩:=List.mem_iff_getElem.1 hx
   rw [List.length_take] at hjl
   rw [List.getElem_take]
   exact decide_eq_true (h j (by omega) (by omega))
  rw [briefB,this,Bool.true_and]
 by_cases h1:i<t.length
 ·by_cases h2:i<5
  ·obtain ⟨b,rfl,hb,hrd⟩:=hT.e.at i h1
   have h1I:(i:Int)<t.length:=by omega
   have h2I:(i:Int)<5:=by omega
   simp (disch:=omega) [e0,e3,h2,h1I,h2I,hrd]
   by_cases h3:t[i].options.length≤6
   ·have h4:¬6<t[i].options.length:=by omega
    have h4I:¬(6:Int)<t[i].options.length:=by omega
    simp (disch:=omega) [e0,e3,h4I,aj]
    refine fun j h hji=>?_
    by_cases hc:j=i
    ·subst hc; exact h3
    ·exact hj j h (by omega)
   ·have h4:6<t[i].options.length:=by omega
    have h4I:(6:Int)<t[i].options.length:=by omega
    have hbad:briefB t=false:=by
     have:((t.take 5).all fun x=>decide (x.options.length≤6))=false:=by
      rw [List.all_eq_false]
      exact ⟨t[i],List.mem_take_iff_getElem.2 ⟨i,by omega,rfl⟩,by simpa using h4⟩
     rw [briefB,this,Bool.false_and]
    simp (disch:=omega) [h4I,hbad]
  ·have:i=5:=by omega
   subst this
   have h1I:(5:Int)<t.length:=by omega
   have hn:¬t.length≤5:=by omega
   have hnI:¬(t.length:Int)≤5:=by omega
   simp (disch:=omega) [e0,e3,h1I,yes fun j h hj5=>hj j h hj5,hn,hnI]
 ·have hn:t.length≤5:=by omega
  have hnI:(t.length:Int)≤5:=by omega
  have h1I:¬(i:Int)<t.length:=by omega
  simp (disch:=omega) [e0,e3,h1I,yes fun j h _=>hj j h (by omega),hn,hnI]
theorem brief_le {t:List Torn} (h:briefB t=true):t.length≤5:=by
 simp only [briefB,Bool.and_eq_true,decide_eq_true_eq] at h
 exact h.2
theorem rTorn_con (l:BLoc) (b:Book) (t:List Torn) (ht:t.length≤1000) (a:Option Addr) (fl:Nat) (H:GH) (hT:TornIn H a t):C 53 [dl l b,.slice a t.length fl] H (.bool (iw b t)) H:=by
 rcases l with ⟨⟨⟨ra,rf⟩⟩,⟨oa,of'⟩,⟨va,vf⟩⟩
 refine au tok mix a95 (F:=g53) (c:=_) rfl (n:=76) rfl (rs:= [.tmp 4]) rfl (ac rfl) ?_
 simp
 generalize hH1:GH.push H _=H1
 have hs1:Sub H H1:=by subst hH1; exact Sub.push (.refl H) _
 have hg1:H1.get H.next=some (.arr { cells:=bq ⟨⟨⟨ra,rf⟩⟩,⟨oa,of'⟩,⟨va,vf⟩⟩ b,ty:=28 }):=by subst hH1; simp
 have hn1:H.next<H1.next:=by subst hH1; simp
 have hT1:=hT.mono hs1
 clear hH1
 refine cv tok mix (by kernel_rfl) t.length (fun i ρ m H'=>ρ 1=.slice a t.length fl∧ρ 2=.pointer (some (ga H.next 0 0))∧ρ 5=vi i∧m= []∧H'=H1∧∀j,j<i→pa b t j=false) (i0:=0) (by omega) (by simp) ?_
 rintro i ρ m H1 hi ⟨e1,e2,e5,rfl,rfl,hj⟩
 simp [e1,e5]
 refine ba (fun hlt=>?_) (fun hge=>?_)
 case refine_2=>
  simp [e1]
  have h8:(List.range t.length).all (fun i=> !pa b t i)=true:=by
   rw [List.all_eq_true]
   intro j hjm
   rw [hj j (by have:=List.mem_range.1 hjm; omega)]; rfl
  simp [iw,h8]
  refine ⟨by omega,hs1⟩
 obtain ⟨c,rfl,hcl,hrd⟩:=hT1.e.at i hlt
 have ea:tAt t i=t[i]:=bc hlt
 have hop:=hT1.o _ (List.getElem_mem hlt)
 have hltI:(i:Int)<t.length:=by omega
 have hfalse:pa b t i=true→iw b t=false:=fun h=>by
  have:(List.range t.length).all (fun i=> !pa b t i)=false:=by
   rw [List.all_eq_false]
   exact ⟨i,List.mem_range.2 hlt,by simp [h]⟩
  simp [iw,this]
 have hbad:pa b t i=(!inI t[i].event 0 (IntKind.i64.wrap (b.events.length - 1))||(decide (0<i)&&decide (t[i].event≤(tAt t (i - 1)).event))|| !inI t[i].options.length 1 4||t[i].options.any (fun e=> !bv b e)):=by
  unfold pa; rw [ea]
 simp (disch:=omega) [e1,e2,e5,hlt,hrd,hg1]
 with_reducible refine (o6 _ _ _ _).go ?_
 cases c1:inI t[i].event 0 (IntKind.i64.wrap (b.events.length - 1)) with
 |false=>
  simp (disch:=omega) [hfalse (by rw [hbad,c1]; simp),hs1]
 |true=>
  by_cases h6:0<i
  ·obtain ⟨c',hc',_,hrd'⟩:=hT1.e.at (i - 1) (by omega)
   cases hc'
   have e5':((i:Int) - 1).toNat=i - 1:=by omega
   have ep:tAt t (i - 1)=t[i - 1]:=bc (by omega)
   have h6I:(0:Int)<i:=by omega
   by_cases h5:t[i].event≤t[i - 1].event
   ·simp (disch:=omega) [e1,e5,h6,aj,e5',hrd',hrd,h5,hfalse (by rw [hbad,c1,ep]; simp [h6,h5]),hs1]
   ·have h7:(decide (0<i)&&decide (t[i].event≤(tAt t (i - 1)).event))=false:=by rw [ep]; simp; omega
    simp (disch:=omega) [e1,e5,h6,aj,e5',hrd',hrd,h5]
    with_reducible refine (o6 _ _ _ _).go ?_
    cases c2:inI t[i].options.length 1 4 with
    |false=>simp (disch:=omega) [hfalse (by rw [hbad,c1,c2]; simp),hs1]
    |true=>
     have hol:t[i].options.length≤4:=by simp [inI] at c2; omega
     simp (disch:=omega)
     refine cv tok mix (by kernel_rfl) t[i].options.length (fun k ρ m H'=>ρ 1=.slice (some c) t.length fl∧ρ 2=.pointer (some (ga H.next 0 0))∧ρ 5=vi i∧ρ 6=vi k∧m= []∧H'=H1∧∀j (h:j<t[i].options.length),j<k→bv b t[i].options[j]=true) (i0:=0) (by omega) (by simp [e1,e2,e5]) ?_
     rintro k ρ m H1 hk ⟨d1,d2,d5,d6,rfl,rfl,hev⟩
     simp (disch:=omega) [d1,d5,d6,hrd]
     refine ba (fun hkl=>?_) (fun hkg=>?_)
     ·obtain ⟨co,hco,_,hro⟩:=hop.at k hkl
      have hkI:(k:Int)<t[i].options.length:=by omega
      simp (disch:=omega) [d1,d2,d5,d6,hrd,hg1,hco,hro]
      with_reducible refine (al5 ⟨⟨⟨_,_⟩⟩,⟨_,_⟩,⟨_,_⟩⟩ b t[i].options[k] _).go ?_
      rw [aq7]
      simp
      cases hex:bv b t[i].options[k]
      ·have hany:t[i].options.any (fun e=> !bv b e)=true:=List.any_eq_true.2 ⟨_,List.getElem_mem hkl,by simp [hex]⟩
       simp (disch:=omega) [hfalse (by rw [hbad,c1,c2,hany]; simp),hs1]
      ·simp (disch:=omega) [d1,d2,d5,d6,aj]
       refine ⟨by omega,fun j h hjk=>?_⟩
       by_cases hc:j=k
       ·subst hc; exact hex
       ·exact hev j h (by omega)
     ·have c3:t[i].options.any (fun e=> !bv b e)=false:=by
       rw [List.any_eq_false]
       intro e he
       obtain ⟨j,hjl,rfl⟩:=List.mem_iff_getElem.1 he
       simp [hev j hjl (by omega)]
      simp (disch:=omega) [d1,d2,d5,aj]
      refine fun j hji=>?_
      by_cases hc:j=i
      ·subst hc; rw [hbad,c1,c2,c3,h7]; rfl
      ·exact hj j (by omega)
  ·have h7:(decide (0<i)&&decide (t[i].event≤(tAt t (i - 1)).event))=false:=by simp; omega
   have h6I:¬(0:Int)<i:=by omega
   simp (disch:=omega) [e1,e5,h6,hrd]
   with_reducible refine (o6 _ _ _ _).go ?_
   cases c2:inI t[i].options.length 1 4 with
   |false=>simp (disch:=omega) [hfalse (by rw [hbad,c1,c2]; simp),hs1]
   |true=>
    have hol:t[i].options.length≤4:=by simp [inI] at c2; omega
    simp (disch:=omega)
    refine cv tok mix (by kernel_rfl) t[i].options.length (fun k ρ m H'=>ρ 1=.slice (some c) t.length fl∧ρ 2=.pointer (some (ga H.next 0 0))∧ρ 5=vi i∧ρ 6=vi k∧m= []∧H'=H1∧∀j (h:j<t[i].options.length),j<k→bv b t[i].options[j]=true) (i0:=0) (by omega) (by simp [e1,e2,e5]) ?_
    rintro k ρ m H1 hk ⟨d1,d2,d5,d6,rfl,rfl,hev⟩
    simp (disch:=omega) [d1,d5,d6,hrd]
    refine ba (fun hkl=>?_) (fun hkg=>?_)
    ·obtain ⟨co,hco,_,hro⟩:=hop.at k hkl
     have hkI:(k:Int)<t[i].options.length:=by omega
     simp (disch:=omega) [d1,d2,d5,d6,hrd,hg1,hco,hro]
     with_reducible refine (al5 ⟨⟨⟨_,_⟩⟩,⟨_,_⟩,⟨_,_⟩⟩ b t[i].options[k] _).go ?_
     rw [aq7]
     simp
     cases hex:bv b t[i].options[k]
     ·have hany:t[i].options.any (fun e=> !bv b e)=true:=List.any_eq_true.2 ⟨_,List.getElem_mem hkl,by simp [hex]⟩
      simp (disch:=omega) [hfalse (by rw [hbad,c1,c2,hany]; simp),hs1]
     ·simp (disch:=omega) [d1,d2,d5,d6,aj]
      refine ⟨by omega,fun j h hjk=>?_⟩
      by_cases hc:j=k
      ·subst hc; exact hex
      ·exact hev j h (by omega)
    ·have c3:t[i].options.any (fun e=> !bv b e)=false:=by
      rw [List.any_eq_false]
      intro e he
      obtain ⟨j,hjl,rfl⟩:=List.mem_iff_getElem.1 he
      simp [hev j hjl (by omega)]
     simp (disch:=omega) [d1,d2,d5,aj]
     refine fun j hji=>?_
     by_cases hc:j=i
     ·subst hc; rw [hbad,c1,c2,c3,h7]; rfl
     ·exact hj j (by omega)
end Go.Gm.Tryz
end
section
namespace Go.Gm.Tryz
open Go.Proofs
def partCh (rest:List (List Int)) (k j:Nat):List (List Int):=((List.range k).flatMap fun (n:Nat)=>rest.map fun c=>(n:Int)::c)++(rest.take j).map fun c=>(k:Int)::c
theorem partCh_zero {rest:List (List Int)}:partCh rest 0 0= []:=by simp [partCh]
theorem partCh_next {rest:List (List Int)} {k:Nat}:partCh rest k rest.length=partCh rest (k+1) 0:=by
 unfold partCh
 rw [List.take_length,List.range_succ,List.flatMap_append]
 simp
theorem partCh_succ {rest:List (List Int)} {k j:Nat} (h:j<rest.length):partCh rest k (j+1)=partCh rest k j++ [(k:Int)::rest[j]]:=by
 unfold partCh
 rw [List.take_succ_eq_append_getElem h,List.map_append,List.append_assoc]
 rfl
theorem partCh_all {t:Torn} {ts:List Torn}:partCh (choicesL ts) t.options.length 0=choicesL (t::ts):=by simp [partCh,choicesL]
theorem partCh_len {rest:List (List Int)} {k j:Nat} (h:rest.length≤64) (hk:k≤4) (hj:j≤rest.length):(partCh rest k j).length≤400:=by
 unfold partCh
 have:∀n,((List.range n).flatMap fun (n:Nat)=>rest.map fun c=>(n:Int)::c).length=n*rest.length:=by
  intro n
  rw [List.length_flatMap]
  simp only [List.length_map,List.map_const',List.length_range,List.sum_replicate_nat]
 rw [List.length_append,this,List.length_map,List.length_take]
 have:k*rest.length≤4*64:=Nat.mul_le_mul hk h
 omega
theorem choicesL_row {t:List Torn} (hl:t.length≤3) {c:List Int} (h:c∈choicesL t):c.length≤3:=by rw [(choices_mem h).1]; exact hl
theorem rchoices_con:∀(t:List Torn),t.length≤3→(∀x∈t,x.options.length≤4)→∀(H:GH) (s:SLoc) (M:Nat),M≤H.next→TornIn H s.a t→awp s 2→
  ay Tryz.prog 106 [.slice s.a t.length s.fl] H fun x H'=>Sub H H'∧∃v,x=.ret v∧j5 H' H.next M v (choicesL t):=by
 intro t
 induction t with
 |nil=>
  intro _ _ H s M hM hT hs
  refine an tok mix a2f (F:=bak) (c:=_) rfl (n:=40) rfl (rs:= [.tmp 2]) rfl ?_
  simp
  generalize hH1:GH.push H _=H1
  have hs1:Sub H H1:=by subst hH1; exact Sub.push (.refl H) _
  have k1:H1.get H.next=some (.arr { cells:= [.slice none 0 0],ty:=25 }):=by subst hH1; simp
  have hn1:H1.next=H.next+1:=by subst hH1; simp
  exact ⟨[(⟨none,0⟩,[])],bg.mk (l:= [((⟨none,0⟩:SLoc),([]:List Int))]) (enc:=aic) (by decide) (by omega) (by omega) k1,by simp [choicesL],fun p hp=>by simp at hp; subst hp; exact ab3.nil _ _⟩
 |cons t ts ih=>
  intro hl ho H s M hM hT hs
  have hl3:ts.length≤2:=by simp only [List.length_cons] at hl; omega
  have hot:=ho t (by simp)
  have hrl:=choices_le (t:=ts) (by omega) fun x hx=>ho x (List.mem_cons_of_mem _ hx)
  rcases s with ⟨sa_,sf⟩
  obtain ⟨a,ha,hal,hrd0⟩:=hT.e.at 0 (by simp)
  simp only at ha
  subst ha
  have hsf:sf=2:=by
   rcases hs with ⟨h,_⟩|⟨_,_,h⟩
   ·cases h
   ·exact h
  subst hsf
  refine an tok mix a2f (F:=bak) (c:=_) rfl (n:=40) rfl (rs:= [.tmp 2]) rfl ?_
  have c0:¬((ts.length:Int)+1)=0:=by omega
  have c1:(1:Int)≤(ts.length:Int)+1:=by omega
  simp [c0,c1]
  refine (ih (by omega) (fun x hx=>ho x (List.mem_cons_of_mem _ hx)) H ⟨some (ku a 2),2⟩ H.next (Nat.le_refl _) hT.tail (.inr ⟨_,rfl,rfl⟩)).mono ?_
  rintro x H2 ⟨hs2,v3,rfl,ls,g1,g2,g3⟩
  obtain ⟨a3,f3,rfl,hE3⟩:=g1.elems (fun _=>rfl)
  have hll:ls.length=(choicesL ts).length:=by rw [←g2,List.length_map]
  have hn2:=hs2.1
  simp
  refine cv tok mix (by kernel_rfl) t.options.length (fun k ρ m H'=>ρ 0=.slice (some a) (ts.length+1) 2∧ρ 3=.slice a3 ls.length f3∧ρ 5=vi k∧m= []∧Sub H2 H'∧j5 H' H2.next M (ρ 4) (partCh (choicesL ts) k 0)) (i0:=0) (by omega) ⟨by simp,by simp,by simp,rfl,.refl _,by simpa [partCh_zero] using j5.nil _ _ _⟩ ?_
  rintro k ρ m H3 hk ⟨e0,e3,e5,rfl,hs3,hL⟩
  obtain ⟨_,ha',_,hrd⟩:=(hT.mono (hs2.trans hs3)).e.at 0 (by simp)
  cases ha'
  simp only [List.getElem_cons_zero] at hrd
  simp (disch:=omega) [e0,e5,hrd]
  refine ba (fun hlt=>?_) (fun hge=>?_)
  ·have hltI:(k:Int)<t.options.length:=by omega
   simp (disch:=omega)
   refine cv tok mix (by kernel_rfl) ls.length (fun j ρ m H'=>ρ 0=.slice (some a) (ts.length+1) 2∧ρ 3=.slice a3 ls.length f3∧ρ 5=vi k∧ρ 6=vi j∧m= []∧Sub H2 H'∧j5 H' H2.next M (ρ 4) (partCh (choicesL ts) k j)) (i0:=0) (by omega) ⟨by simp [e0],by simp [e3],by simp [e5],by simp,rfl,hs3,by simpa using hL⟩ ?_
   rintro j ρ m H4 hj ⟨d0,d3,d5,d6,rfl,hs4,hL4⟩
   simp (disch:=omega) [d3,d6]
   refine ba (fun hjl=>?_) (fun hjg=>?_)
   ·have hjc:j<(choicesL ts).length:=by omega
    have hps:(ls[j]).2=(choicesL ts)[j]'hjc:=by
     have:(ls.map Prod.snd)[j]'(by simpa using hjl)=(choicesL ts)[j]'hjc:=by simp only [g2]
     rwa [List.getElem_map] at this
    have hrow:=choicesL_row (t:=ts) (by omega) (List.getElem_mem hjc)
    have hI4:ab3 H4 H.next (ls[j]).1.a ((choicesL ts)[j]'hjc):=by
     have:=(g3 _ (List.getElem_mem hjl)).sub hs4
     rwa [hps] at this
    have hil2:(ls[j]).2.length=((choicesL ts)[j]'hjc).length:=by rw [hps]
    have hn4:=hs4.1
    have hgp:(H4.push (.arr { cells:= [vi k],ty:=3 })).get H4.next=some (.arr { cells:= [vi k],ty:=3 }):=by simp
    have hnp:(H4.push (.arr { cells:= [vi k],ty:=3 })).next=H4.next+1:=by simp
    have hsp:Sub H4 (H4.push (.arr { cells:= [vi k],ty:=3 })):=Sub.push (.refl H4) _
    obtain ⟨b3,hb3,_,hrl3⟩:=(hE3.mono (hs4.trans hsp)).at j hjl
    subst hb3
    generalize hHp:H4.push (.arr { cells:= [vi k],ty:=3 })=Hp at hgp hnp hsp hrl3
    have o31:bg Hp H4.next (.slice (some (ga H4.next 0 0)) 1 1) 3 1 ca [(k:Int)]:=bg.mk (l:= [(k:Int)]) (enc:=ca) (by decide) (Nat.le_refl _) (by omega) hgp
    obtain ⟨v36,H5,happ5,o36,n5,f5,_⟩:=o31.apps (fun _=>rfl) (fun _=>rfl) (by decide) ((choicesL ts)[j]'hjc) (by omega)
    have s5:Sub H4 H5:=⟨by omega,fun g hg=>by rw [f5 g (by omega) (fun hc=>by have:=(o31.blk_lt hc).1; omega),hsp.2 g hg]⟩
    have hrs:=((hI4.sub hsp).1).readS
    obtain ⟨a36,f36,rfl,hI36⟩:=ape (M:=M) o36 (by omega)
    have hlen1:((choicesL ts)[j]'hjc).length+1=([(k:Int)]++(choicesL ts)[j]'hjc).length:=by simp [Nat.add_comm]
    have hgq:(H5.push (.arr { cells:= [.slice a36 (((choicesL ts)[j]'hjc).length+1) f36],ty:=25 })).get H5.next=some (.arr { cells:= [.slice a36 (((choicesL ts)[j]'hjc).length+1) f36],ty:=25 }):=by simp
    have hnq:(H5.push (.arr { cells:= [.slice a36 (((choicesL ts)[j]'hjc).length+1) f36],ty:=25 })).next=H5.next+1:=by simp
    have hsq:Sub H5 (H5.push (.arr { cells:= [.slice a36 (((choicesL ts)[j]'hjc).length+1) f36],ty:=25 })):=Sub.push (.refl H5) _
    generalize hHq:H5.push (.arr { cells:= [.slice a36 (((choicesL ts)[j]'hjc).length+1) f36],ty:=25 })=Hq at hgq hnq hsq
    have hgq':=hgq
    rw [hlen1] at hgq'
    have hL38:j5 Hq H5.next M (.slice (some (ga H5.next 0 0)) 1 1) [(k:Int)::(choicesL ts)[j]'hjc]:=⟨[(⟨a36,f36⟩,[(k:Int)]++(choicesL ts)[j]'hjc)],bg.mk (l:= [((⟨a36,f36⟩:SLoc),[(k:Int)]++(choicesL ts)[j]'hjc)]) (enc:=aic) (by decide) (Nat.le_refl _) (by omega) hgq',rfl,fun p hp=>by simp at hp; subst hp; exact hI36.sub hsq⟩
    have hl8:∃b c,ρ 4=.slice b (partCh (choicesL ts) k j).length c:=by
     obtain ⟨l4,h1,h2,_⟩:=hL4
     obtain ⟨b,c,e⟩:=h1.slice
     exact ⟨b,c,by rw [e,←h2,List.length_map]⟩
    obtain ⟨b8,c8,e8⟩:=hl8
    obtain ⟨b,c,a5,fl5,cs,v',H6,hv8,hw8,hrd5,happ6,hL6,hn6,hk6⟩:=(hL4.sub (s5.trans hsq)).app hL38 (by omega)
    rw [e8] at hv8
    cases hv8
    cases hw8
    have hrd5':=hrd5
    simp [hgq] at hrd5'
    subst hrd5'
    simp only [List.length_cons,List.length_nil,Nat.zero_add] at happ6
    have hpl:=partCh_len (rest:=choicesL ts) (k:=k) (j:=j) hrl (by omega) (by omega)
    have q1:8*(((choicesL ts)[j]'hjc).length+1)≤1000000:=by omega
    have q2:((choicesL ts)[j]'hjc).length+1≤1000000:=by omega
    have q3:24*(1+(partCh (choicesL ts) k j).length)≤1000000:=by omega
    have q4:1+(partCh (choicesL ts) k j).length≤1000000:=by omega
    have hjI:(j:Int)<ls.length:=by omega
    simp (disch:=omega) [d3,d5,d6,e8,hHp]
    simp (disch:=omega) [d3,d5,d6,hrl3,hil2,hrs,happ5,q1,q2,hHq,hgq,happ6,q3,q4,d0,aj]
    exact ⟨hjl,⟨by omega,fun g hg=>by rw [hk6 g hg,hsq.2 g (by omega),s5.2 g (by omega),hs4.2 g hg]⟩,by rw [partCh_succ hjc]; exact hL6⟩
   ·have:j=ls.length:=by omega
    subst this
    rw [hll,partCh_next] at hL4
    simp (disch:=omega) [d0,d3,d5,aj]
    exact ⟨by omega,hs4,hL4⟩
  ·have:k=t.options.length:=by omega
   subst this
   rw [partCh_all] at hL
   obtain ⟨l4,h1,h2,h3⟩:=hL
   obtain ⟨b8,c8,e8⟩:=h1.slice
   rw [e8] at h1
   simp [e8]
   exact ⟨hs2.trans hs3,l4,h1.weaken (by omega),h2,h3⟩
end Go.Gm.Tryz
end
section
namespace Go.Gm.Tryz
open Go.Proofs
def chosenTo (t:List Torn) (c:List Int) (ev:List Ev) (i:Nat):List Ev:=((t.zip c).take i).foldl setEv ev
theorem chosenTo_zero {t:List Torn} {c:List Int} {ev:List Ev}:chosenTo t c ev 0=ev:=rfl
theorem chosenTo_len {t:List Torn} {c:List Int} {ev:List Ev} {i:Nat}:(chosenTo t c ev i).length=ev.length:=chosenEv_len _ _
theorem chosenTo_all {t:List Torn} {c:List Int} {ev:List Ev} (h:c.length=t.length):chosenTo t c ev t.length=chosenEv t c ev:=by
 unfold chosenTo chosenEv
 rw [List.take_of_length_le (by simp [List.length_zip]; omega)]
theorem chosenTo_succ {t:List Torn} {c:List Int} {ev:List Ev} {i:Nat} (h1:i<t.length) (h2:i<c.length):chosenTo t c ev (i+1)=(chosenTo t c ev i).set t[i].event.toNat (t[i].options.getD c[i].toNat default):=by
 unfold chosenTo
 have h:i<(t.zip c).length:=by simp [List.length_zip]; omega
 rw [List.take_succ_eq_append_getElem h,List.foldl_append,List.getElem_zip]
 rfl
theorem chosenB_len {b:Book} {t:List Torn} {c:List Int}:(chosenB b t c).events.length=b.events.length:=chosenEv_len _ _
theorem rChosen_con {H:GH} {l:BLoc} {b:Book} (hb:BookIn H l b) (hE:b.events.length≤12) {t:List Torn} {s:SLoc} (hT:TornIn H s.a t) (hO:TornOk b t) {c:List Int} {ca_:Option Addr} {cf_:Nat} (hC:Elems H ca_ 1 ca c) (hc:c∈choicesL t):
  ay Tryz.prog 69 [dl l b,.slice s.a t.length s.fl,.slice ca_ c.length cf_] H fun x H'=>Sub H H'∧∃ae ef,x=.ret (dl (aaj l ae ef) (chosenB b t c))∧BookIn H' (aaj l ae ef) (chosenB b t c):=by
 rcases l with ⟨⟨⟨ra,rf⟩⟩,⟨oa,of'⟩,⟨va,vf⟩⟩
 rcases s with ⟨sa_,sf⟩
 obtain ⟨hcl,hcr⟩:=choices_mem hc
 have hl3:=hO.len
 refine an tok mix baf (F:=g69) (c:=_) rfl (n:=38) rfl (rs:= [.cell 6 28]) rfl ?_
 simp
 generalize hH1:GH.push (GH.push H _) _=H1
 have hs1:Sub H H1:=by subst hH1; exact Sub.push (Sub.push (.refl H) _) _
 have k1:H1.get H.next=some (.arr { cells:=bq ⟨⟨⟨ra,rf⟩⟩,⟨oa,of'⟩,⟨va,vf⟩⟩ b,ty:=28 }):=by subst hH1; simp (disch:=omega)
 have k6:H1.get (H.next+1)=some (.arr { cells:= [.slice none 0 0,vi 0,vi 0,vi 0,vi 0,.slice none 0 0,.slice none 0 0],ty:=28 }):=by subst hH1; simp
 have hn1:H1.next=H.next+2:=by subst hH1; simp
 clear hH1
 have hb1:=hb.mono hs1
 obtain ⟨v2,H2,happ,o2,n2,f2,b2⟩:=(bg.nil (H:=H1) (N:=H1.next) (ty:=57) (sz:=8) (enc:=jb)).apps (fun _=>rfl) (fun _=>rfl) (by decide) b.events (Nat.le_refl _)
 simp only [List.nil_append] at o2
 have s2:Sub H1 H2:=⟨n2,fun g hg=>f2 g hg (by simp)⟩
 have hrs:=hb1.events.readS
 have k12:=(s2.2 H.next (by omega)).trans k1
 have k62:=(s2.2 (H.next+1) (by omega)).trans k6
 obtain ⟨a2,c2,rfl⟩:=o2.slice
 have q1:64*b.events.length≤1000000:=by omega
 have q2:b.events.length≤1000000:=by omega
 simp (disch:=omega) [hrs,happ,q1,q2,k12]
 generalize hH3:GH.put _ _ _=H3
 have n3:H3.next=H2.next:=by subst hH3; simp
 have f3:∀g,g≠H.next→H3.get g=H2.get g:=fun g hg=>by subst hH3; simp (disch:=omega)
 have kb3:H3.get H.next=some (.arr { cells:= [.slice ra b.tbl.rows.length rf,vi b.tbl.draw,vi b.supply,vi b.term,vi b.persons,.slice oa b.owners.length of',.slice a2 b.events.length c2],ty:=28 }):=by subst hH3; simp
 clear hH3
 have hs3:Sub H H3:=⟨by omega,fun g hg=>by rw [f3 g (by omega),s2.2 g (by omega),hs1.2 g hg]⟩
 have k63:=(f3 (H.next+1) (by omega)).trans k62
 have o3:bg H3 H1.next (.slice a2 b.events.length c2) 57 8 jb (chosenTo t c b.events 0):=by
  rw [chosenTo_zero]
  exact o2.frame (by omega) (fun k hk=>f3 k (by have:=(o2.blk_lt hk).1; omega))
 have hT3:=hT.mono hs3
 have hC3:=hC.mono hs3
 clear o2 happ
 refine cv tok mix (by kernel_rfl) t.length (fun i ρ m H'=>ρ 1=.slice sa_ t.length sf∧ρ 2=.slice ca_ c.length cf_∧ρ 3=.pointer (some (ga H.next 0 0))∧ρ 6=.pointer (some (ga (H.next+1) 0 0))∧ρ 7=vi i∧m= []∧H'.next=H3.next∧(∀g,g<H1.next→H'.get g=H3.get g)∧bg H' H1.next (.slice a2 b.events.length c2) 57 8 jb (chosenTo t c b.events i)) (i0:=0) (by omega) ⟨by simp,by simp,by simp,by simp,by simp,rfl,rfl,fun _ _=>rfl,o3⟩ ?_
 rintro i ρ m H4 hi ⟨e1,e2,e3,e6,e7,rfl,n4,f4,o4⟩
 have kb4:=(f4 H.next (by omega)).trans kb3
 have k64:=(f4 (H.next+1) (by omega)).trans k63
 have hs4:Sub H H4:=⟨by omega,fun g hg=>by rw [f4 g (by omega),hs3.2 g hg]⟩
 simp (disch:=omega) [e1,e7]
 refine ba (fun hlt=>?_) (fun hge=>?_)
 ·have hlc:i<c.length:=by omega
  obtain ⟨at_,hat,_,hrt⟩:=(hT.mono hs4).e.at i hlt
  simp only at hat
  subst hat
  obtain ⟨ac_,hac,_,hrc⟩:=(hC.mono hs4).at i hlc
  subst hac
  have hm:=List.getElem_mem hlt
  have hcr:=hcr i hlt hlc
  obtain ⟨k,hk⟩:∃k:Nat,c[i]=k:=⟨c[i].toNat,by omega⟩
  have hko:k<t[i].options.length:=by omega
  obtain ⟨ao,hao,_,hro⟩:=((hT.mono hs4).o _ hm).at k hko
  have hev:=hO.ev _ hm
  obtain ⟨e,he⟩:∃e:Nat,t[i].event=e:=⟨t[i].event.toNat,by omega⟩
  have hel:e<b.events.length:=by omega
  have hel':e<(chosenTo t c b.events i).length:=by rw [chosenTo_len]; exact hel
  cases a2 with
  |none=>
   have:=(o4.elems' (fun _=>rfl)).nil rfl
   rw [this] at hel'
   simp at hel'
  |some a2=>
   have hs:=chosenTo_succ (ev:=b.events) hlt hlc
   have hgd:t[i].options.getD k default=t[i].options[k]:=by rw [List.getD_eq_getElem?_getD,List.getElem?_eq_getElem hko]; rfl
   rw [hk,he,Int.toNat_natCast,Int.toNat_natCast,hgd] at hs
   obtain ⟨H5,hw5,o5,n5,f5⟩:=o4.wr (fun _=>rfl) (i:=e) (k:=0) hel' (c:=vi t[i].options[k].kind) (new:=(jb t[i].options[k]).tail) (by simp) (y:=t[i].options[k]) (by simp [splice])
   rw [←hs] at o5
   have hb2:H1.next≤a2.block:=(o4.blk_lt o4.blk_some).1
   have hltI:(i:Int)<t.length:=by omega
   have hlcI:(i:Int)<c.length:=by omega
   have hkI:(k:Int)<t[i].options.length:=by omega
   have heI:(e:Int)<b.events.length:=by omega
   simp [jb] at hw5
   simp (disch:=omega) [e1,e2,e3,e6,e7,kb4,hrt,hrc,hk,he,hao,hro,hw5,aj]
   exact ⟨hlt,n5.trans n4,fun g hg=>by rw [f5 g (by omega),f4 g hg],o5⟩
 ·have:i=t.length:=by omega
  subst this
  rw [chosenTo_all hcl] at o4
  have hlen:(chosenEv t c b.events).length=b.events.length:=chosenEv_len _ _
  obtain ⟨a9,f9,h9,hE9⟩:=o4.elems (fun _=>rfl)
  rw [hlen] at h9
  cases h9
  simp (disch:=omega) [e3,e6,kb4,k64]
  have hsp:∀o,Sub H (H4.put (H.next+1) o):=fun o=>Sub.put hs4 (by omega) o
  have hev:∀o,Elems (H4.put (H.next+1) o) a2 8 jb (chosenEv t c b.events):=fun o=>by
   have:=o4.frame (H':=H4.put (H.next+1) o) (by simp) (fun k hk=>by have:=(o4.blk_lt hk).1; simp (disch:=omega))
   exact this.elems' (fun _=>rfl)
  exact ⟨a2,c2,⟨rfl,rfl,rfl,rfl,rfl,rfl,rfl,chosenB_len.symm,rfl⟩,⟨(hb.mono (hsp _)).t,(hb.mono (hsp _)).owners,hev _⟩⟩
end Go.Gm.Tryz
end
section
namespace Go.Gm.Tryz
open Go.Proofs
theorem short_chosen {b:Book} {t:List Torn} {c:List Int} (h:nw b=true):nw (chosenB b t c)=true:=by
 unfold nw at h ⊢
 rw [chosenB_len]
 exact h
theorem right_okC (b:Book) (t:List Torn) (c:List Int):nt (chosenB b t c)=okC b t c:=rfl
def goodTo (b:Book) (t:List Torn) (i:Nat):List (List Int):=((choicesL t).take i).filter (okC b t)
theorem goodTo_zero {b:Book} {t:List Torn}:goodTo b t 0= []:=rfl
theorem goodTo_all {b:Book} {t:List Torn}:goodTo b t (choicesL t).length=goodL b t:=by rw [goodTo,List.take_length]; rfl
theorem goodTo_succ {b:Book} {t:List Torn} {i:Nat} (h:i<(choicesL t).length):goodTo b t (i+1)=goodTo b t i++(if okC b t (choicesL t)[i] then [(choicesL t)[i]] else []):=by
 unfold goodTo
 rw [List.take_succ_eq_append_getElem h,List.filter_append]
 congr 1
 by_cases hc:okC b t (choicesL t)[i]=true
 ·rw [if_pos hc]; simp [hc]
 ·rw [if_neg hc]; simp [hc]
theorem goodTo_len {b:Book} {t:List Torn} {i:Nat}:(goodTo b t i).length≤(choicesL t).length:=by
 unfold goodTo
 exact Nat.le_trans (List.length_filter_le _ _) (by rw [List.length_take]; omega)
theorem rTruths_con {H:GH} {l:BLoc} {b:Book} (hb:BookIn H l b) (hsh:nw b=true) (hE:b.events.length≤12) {t:List Torn} {s:SLoc} (hT:TornIn H s.a t) (hs:awp s 2) (hO:TornOk b t):
  ay Tryz.prog 54 [dl l b,.slice s.a t.length s.fl] H fun x H'=>Sub H H'∧∃v,x=.ret v∧j5 H' H.next H.next v (goodL b t):=by
 rcases l with ⟨⟨⟨ra,rf⟩⟩,⟨oa,of'⟩,⟨va,vf⟩⟩
 have hl3:=hO.len
 have hcl:=choices_le hO.len hO.op
 refine an tok mix a96 (F:=g54) (c:=_) rfl (n:=32) rfl (rs:= [.tmp 4]) rfl ?_
 simp
 generalize hH1:GH.push H _=H1
 have hs1:Sub H H1:=by subst hH1; exact Sub.push (.refl H) _
 have k1:H1.get H.next=some (.arr { cells:=bq ⟨⟨⟨ra,rf⟩⟩,⟨oa,of'⟩,⟨va,vf⟩⟩ b,ty:=28 }):=by subst hH1; simp
 have hn1:H1.next=H.next+1:=by subst hH1; simp
 clear hH1
 refine (rchoices_con t hO.len hO.op H1 s H.next (by omega) (hT.mono hs1) hs).mono ?_
 rintro x H2 ⟨hs2,v,rfl,ls,g1,g2,g3⟩
 obtain ⟨a3,f3,rfl,hE3⟩:=g1.elems (fun _=>rfl)
 have hll:ls.length=(choicesL t).length:=by rw [←g2,List.length_map]
 have hn2:=hs2.1
 have hs12:=hs1.trans hs2
 simp
 refine cv tok mix (by kernel_rfl) ls.length (fun i ρ m H'=>ρ 1=.slice s.a t.length s.fl∧ρ 2=.pointer (some (ga H.next 0 0))∧ρ 5=.slice a3 ls.length f3∧ρ 7=vi i∧m= []∧Sub H2 H'∧j5 H' H2.next H.next (ρ 6) (goodTo b t i)) (i0:=0) (by omega) ⟨by simp,by simp,by simp,by simp,rfl,.refl _,by simpa [goodTo_zero] using j5.nil _ _ _⟩ ?_
 rintro i ρ m H4 hi ⟨e1,e2,e5,e7,rfl,hs4,hL4⟩
 have hn4:=hs4.1
 have k4:=(hs4.2 H.next (by omega)).trans ((hs2.2 H.next (by omega)).trans k1)
 simp (disch:=omega) [e5,e7]
 refine ba (fun hlt=>?_) (fun hge=>?_)
 ·have hjc:i<(choicesL t).length:=by omega
  have hps:(ls[i]).2=(choicesL t)[i]'hjc:=by
   have:(ls.map Prod.snd)[i]'(by simpa using hlt)=(choicesL t)[i]'hjc:=by simp only [g2]
   rwa [List.getElem_map] at this
  have hmem:=List.getElem_mem hjc
  have hI4:ab3 H4 H.next (ls[i]).1.a ((choicesL t)[i]'hjc):=by
   have:=(g3 _ (List.getElem_mem hlt)).sub hs4
   rwa [hps] at this
  have hil2:(ls[i]).2.length=((choicesL t)[i]'hjc).length:=by rw [hps]
  obtain ⟨b3,hb3,_,hrd⟩:=(hE3.mono hs4).at i hlt
  subst hb3
  have hgs:=goodTo_succ (b:=b) hjc
  generalize hC:(choicesL t)[i]'hjc=c at*
  have hltI:(i:Int)<ls.length:=by omega
  have hch:=rChosen_con (hb.mono (hs12.trans hs4)) hE (hT.mono (hs12.trans hs4)) hO hI4.1 hmem (cf_:=(ls[i]).1.fl)
  rw [←hil2] at hch
  simp (disch:=omega) [e1,e2,e5,e7,k4,hrd]
  refine hch.mono ?_
  rintro x H5 ⟨s5,ae,ef,rfl,hb5⟩
  simp (disch:=omega)
  with_reducible refine (wm ⟨⟨⟨_,_⟩⟩,⟨_,_⟩,⟨_,_⟩⟩ (chosenB b t c) _ hb5 (short_chosen hsh)).go ?_
  rw [right_okC]
  simp
  cases hok:okC b t c
  ·rw [hok] at hgs
   simp at hgs
   simp (disch:=omega) [e1,e2,e5,e7,aj,hgs]
   exact ⟨hlt,hs4.trans s5,hL4.sub s5⟩
  ·rw [hok] at hgs
   simp at hgs
   obtain ⟨b3',hb3',_,hrd5⟩:=(hE3.mono (hs4.trans s5)).at i hlt
   cases hb3'
   have hgq:(H5.push (.arr { cells:= [.slice (ls[i]).1.a (ls[i]).2.length (ls[i]).1.fl],ty:=25 })).get H5.next=some (.arr { cells:= [.slice (ls[i]).1.a (ls[i]).2.length (ls[i]).1.fl],ty:=25 }):=by simp
   have hnq:(H5.push (.arr { cells:= [.slice (ls[i]).1.a (ls[i]).2.length (ls[i]).1.fl],ty:=25 })).next=H5.next+1:=by simp
   have hsq:Sub H5 (H5.push (.arr { cells:= [.slice (ls[i]).1.a (ls[i]).2.length (ls[i]).1.fl],ty:=25 })):=Sub.push (.refl H5) _
   generalize hHq:H5.push (.arr { cells:= [.slice (ls[i]).1.a (ls[i]).2.length (ls[i]).1.fl],ty:=25 })=Hq at hgq hnq hsq
   have hL38:j5 Hq H5.next H.next (.slice (some (ga H5.next 0 0)) 1 1) [c]:=⟨[ls[i]],bg.mk (l:= [ls[i]]) (enc:=aic) (by decide) (Nat.le_refl _) (by omega) hgq,by simp [hps],fun p hp=>by simp at hp; subst hp; rw [hps]; exact (hI4.sub s5).sub hsq⟩
   have hl8:∃b' c',ρ 6=.slice b' (goodTo b t i).length c':=by
    obtain ⟨l4,h1,h2,_⟩:=hL4
    obtain ⟨b',c',e⟩:=h1.slice
    exact ⟨b',c',by rw [e,←h2,List.length_map]⟩
   obtain ⟨b8,c8,e8⟩:=hl8
   obtain ⟨b9,c9,a5,fl5,cs,v',H6,hv8,hw8,hrd6,happ6,hL6,hn6,hk6⟩:=(hL4.sub (s5.trans hsq)).app hL38 (by have:=s5.1; omega)
   rw [e8] at hv8
   cases hv8
   cases hw8
   have hrd6':=hrd6
   simp [hgq] at hrd6'
   subst hrd6'
   simp only [List.length_cons,List.length_nil,Nat.zero_add] at happ6
   have hpl:=goodTo_len (b:=b) (t:=t) (i:=i)
   have q3:24*(1+(goodTo b t i).length)≤1000000:=by omega
   have q4:1+(goodTo b t i).length≤1000000:=by omega
   simp (disch:=omega) [e5,e7,e8,hrd5,hHq]
   simp (disch:=omega) [e1,e2,e5,e7,hgq,happ6,q3,q4,aj]
   exact ⟨hlt,⟨by have:=s5.1; omega,fun g hg=>by rw [hk6 g hg,hsq.2 g (by have:=s5.1; omega),s5.2 g (by omega),hs4.2 g hg]⟩,by rw [hgs]; exact hL6⟩
 ·have:i=ls.length:=by omega
  subst this
  rw [hll,goodTo_all] at hL4
  obtain ⟨l4,h1,h2,h3⟩:=hL4
  obtain ⟨b8,c8,e8⟩:=h1.slice
  rw [e8] at h1
  simp [e8]
  exact ⟨hs12.trans hs4,l4,h1.weaken (by omega),h2,h3⟩
end Go.Gm.Tryz
end
section
namespace Go.Gm.Tryz
open Go.Proofs
def hasTo (b:Book) (t:List Torn) (g p d:Int) (i:Nat):Nat:=((goodL b t).take i).countP fun c=>ald (chosenB b t c) g p d
theorem good_len {b:Book} {t:List Torn} (h:(choicesL t).length≤64):(goodL b t).length≤64:=Nat.le_trans (List.length_filter_le _ _) h
end Go.Gm.Tryz
end
section
namespace Go.Gm.Tryz
open Go.Proofs
def cntK (cs:List (List Int)) (p:Nat) (k:Int) (n:Nat):Nat:=(cs.take n).countP fun c=>decide (c.getD p 0=k)
theorem cntK_zero {cs:List (List Int)} {p:Nat} {k:Int}:cntK cs p k 0=0:=rfl
theorem cntK_succ {cs:List (List Int)} {p:Nat} {k:Int} {n:Nat} (h:n<cs.length):cntK cs p k (n+1)=cntK cs p k n+if cs[n].getD p 0=k then 1 else 0:=by
 unfold cntK
 rw [List.take_succ_eq_append_getElem h,List.countP_append]
 simp [List.countP_cons]
theorem cntK_le {cs:List (List Int)} {p:Nat} {k:Int} {n:Nat}:cntK cs p k n≤n:=by
 unfold cntK
 exact Nat.le_trans List.countP_le_length (List.length_take_le _ _)
def outK (cs:List (List Int)) (p:Nat):Nat→Int
 |0=>0
 |k+1=>if outK cs p k<(cntK cs p k cs.length:Nat) then (cntK cs p k cs.length:Nat) else outK cs p k
theorem outK_bd {cs:List (List Int)} {p:Nat}:∀k,0≤outK cs p k∧outK cs p k≤cs.length:=by
 intro k
 induction k with
 |zero=>simp [outK]
 |succ k ih=>
  have:=cntK_le (cs:=cs) (p:=p) (k:=k) (n:=cs.length)
  simp only [outK]
  split<;>omega
theorem left_eq (b:Book) (t:List Torn) (i:Nat):afh b t i=outK (goodL b t) i 4:=by
 have e:∀k:Int,lh b t (di b t).length i k=((cntK (goodL b t) i k (goodL b t).length:Nat):Int):=fun k=>by rw [cnt_all,cntK,List.take_length]
 simp only [afh,km,M4.list,ayf,List.foldl_cons,List.foldl_nil,agx,e,outK]
 simp only [show ((3:Nat):Int)=3 from rfl,show ((2:Nat):Int)=2 from rfl,show ((1:Nat):Int)=1 from rfl,show ((0:Nat):Int)=0 from rfl]
 repeat' split
 all_goals omega
def lookN (L:Nat→Int):Nat→Nat
 |0=>0
 |i+1=>if L i<L (lookN L i) then i else lookN L i
theorem lookN_le (L:Nat→Int):∀n,lookN L n≤n - 1:=by
 intro n
 induction n with
 |zero=>simp [lookN]
 |succ n ih=>simp only [lookN]; split<;>omega
theorem best_look (L:Nat→Int):∀m:Nat,aet ((List.range (m+1)).map fun (i:Nat)=>((i:Int),L i))=(((lookN L (m+1):Nat):Int),L (lookN L (m+1))):=by
 intro m
 induction m with
 |zero=>simp [aet,lookN]
 |succ m ih=>
  rw [List.range_succ,List.map_append]
  obtain ⟨x,l,hx⟩:∃x l,((List.range (m+1)).map fun (i:Nat)=>((i:Int),L i))=x::l:=by
   rw [List.range_succ_eq_map]
   exact ⟨_,_,rfl⟩
  rw [hx] at ih ⊢
  have:aet (x::l++List.map (fun (i:Nat)=>((i:Int),L i)) [m+1])=kq (aet (x::l)) (((m+1:Nat):Int),L (m+1)):=by simp [aet,List.foldl_append]
  rw [this,ih]
  unfold kq
  rw [show lookN L (m+1+1)=if L (m+1)<L (lookN L (m+1)) then m+1 else lookN L (m+1) from rfl]
  simp only
  split<;>rfl
theorem rLeft_con {H:GH} {ls:List (SLoc×List Int)} {a3:Option Addr} {f3:Nat} (hE3:Elems H a3 1 aic ls) (hI:∀q∈ls,Elems H q.1.a 1 ca q.2) (p:Nat) (hp:∀q∈ls,p<q.2.length) (hl:ls.length≤1000):
  C 60 [.slice a3 ls.length f3,vi p] H (vi (outK (ls.map Prod.snd) p 4)) H:=by
 have hml:(ls.map Prod.snd).length=ls.length:=List.length_map ..
 have hob:=outK_bd (cs:=ls.map Prod.snd) (p:=p)
 rw [hml] at hob
 refine au tok mix a99 (F:=g60) (c:=_) rfl (n:=34) rfl (rs:= [.tmp 4]) rfl (ac rfl) ?_
 simp
 refine cv tok mix (by kernel_rfl) 4 (fun k ρ m H'=>ρ 0=.slice a3 ls.length f3∧ρ 1=vi p∧ρ 5=vi (outK (ls.map Prod.snd) p k)∧ρ 6=vi k∧m= []∧H'=H) (i0:=0) (by omega) (by simp [outK]) ?_
 rintro k ρ m H hk ⟨e0,e1,e5,e6,rfl,rfl⟩
 simp (disch:=omega) [e6]
 by_cases hk4:k<4
 ·have hkI:(k:Int)<4:=by omega
  simp (disch:=omega) [hk4,hkI]
  refine cv tok mix (by kernel_rfl) ls.length (fun n ρ m H'=>ρ 0=.slice a3 ls.length f3∧ρ 1=vi p∧ρ 5=vi (outK (ls.map Prod.snd) p k)∧ρ 6=vi k∧ρ 7=vi ((cntK (ls.map Prod.snd) p k n:Nat):Int)∧ρ 8=vi n∧m= []∧H'=H) (i0:=0) (by omega) (by simp [e0,e1,e5,e6,cntK_zero]) ?_
  rintro n ρ m H hn ⟨d0,d1,d5,d6,d7,d8,rfl,rfl⟩
  simp (disch:=omega) [d0,d8]
  refine ba (fun hlt=>?_) (fun hge=>?_)
  ·obtain ⟨b3,hb3,_,hrd⟩:=hE3.at n hlt
   subst hb3
   have hm:=List.getElem_mem hlt
   obtain ⟨b4,hb4,_,hrd4⟩:=(hI _ hm).at p (hp _ hm)
   have hs:=cntK_succ (cs:=ls.map Prod.snd) (p:=p) (k:=k) (n:=n) (by rw [hml]; exact hlt)
   have hle:=cntK_le (cs:=ls.map Prod.snd) (p:=p) (k:=k) (n:=n)
   have hgd:(ls[n].2).getD p 0=(ls[n].2)[p]'(hp _ hm):=by rw [List.getD_eq_getElem?_getD,List.getElem?_eq_getElem (hp _ hm)]; rfl
   rw [List.getElem_map,hgd] at hs
   have hnI:(n:Int)<ls.length:=by omega
   have hpI:(p:Int)<(ls[n].2).length:=by have:=hp _ hm; omega
   simp (disch:=omega) [d0,d1,d6,d8,hrd,hb4,hrd4]
   refine ba (fun h5=>?_) (fun h5=>?_)
   ·rw [if_pos h5] at hs
    simp (disch:=omega) [d0,d1,d5,d6,d7,d8,aj,hs]
    exact hlt
   ·rw [if_neg h5] at hs
    simp (disch:=omega) [d0,d1,d5,d6,d7,d8,aj,hs]
    exact hlt
  ·have:n=ls.length:=by omega
   subst this
   have hle:=cntK_le (cs:=ls.map Prod.snd) (p:=p) (k:=k) (n:=ls.length)
   have ho:outK (ls.map Prod.snd) p (k+1)=if outK (ls.map Prod.snd) p k<(cntK (ls.map Prod.snd) p k ls.length:Nat) then ((cntK (ls.map Prod.snd) p k ls.length:Nat):Int) else outK (ls.map Prod.snd) p k:=by simp only [outK,hml]
   simp (disch:=omega) [d0,d1,d5,d6,d7,aj]
   exact ho.symm
 ·have:k=4:=by omega
  subst this
  simp (disch:=omega) [e5]
theorem rLook_con {H:GH} {ls:List (SLoc×List Int)} {a3:Option Addr} {f3:Nat} (hE3:Elems H a3 1 aic ls) (hI:∀q∈ls,Elems H q.1.a 1 ca q.2) (n:Nat) (hp:∀q∈ls,n≤q.2.length) (hn:n≤1000) (hl:ls.length≤1000):
  C 59 [.slice a3 ls.length f3,vi n] H (vi (lookN (fun i=>outK (ls.map Prod.snd) i 4) n)) H:=by
 refine au tok mix a98 (F:=g59) (c:=_) rfl (n:=21) rfl (rs:= [.tmp 4]) rfl (ac rfl) ?_
 simp
 refine cv tok mix (by kernel_rfl) n (fun i ρ m H'=>ρ 0=.slice a3 ls.length f3∧ρ 1=vi n∧ρ 5=vi (lookN (fun i=>outK (ls.map Prod.snd) i 4) i)∧ρ 6=vi i∧m= []∧H'=H) (i0:=0) (by omega) (by simp [lookN]) ?_
 rintro i ρ m H hi ⟨e0,e1,e5,e6,rfl,rfl⟩
 simp (disch:=omega) [e1,e6]
 refine ba (fun hlt=>?_) (fun hge=>?_)
 ·have hl1:=lookN_le (fun i=>outK (ls.map Prod.snd) i 4) i
  have hs:lookN (fun i=>outK (ls.map Prod.snd) i 4) (i+1)=if outK (ls.map Prod.snd) i 4<outK (ls.map Prod.snd) (lookN (fun i=>outK (ls.map Prod.snd) i 4) i) 4 then i else lookN (fun i=>outK (ls.map Prod.snd) i 4) i:=rfl
  generalize lookN (fun i=>outK (ls.map Prod.snd) i 4) i=at_ at*
  have hiI:(i:Int)<n:=by omega
  simp (disch:=omega) [e0,e6]
  refine (rLeft_con hE3 hI i (fun q hq=>by have:=hp q hq; omega) hl).go ?_
  simp (disch:=omega) [e0,e5]
  refine (rLeft_con hE3 hI at_ (fun q hq=>by have:=hp q hq; omega) hl).go ?_
  simp (disch:=omega)
  refine ba (fun h5=>?_) (fun h5=>?_)
  ·rw [if_pos h5] at hs
   simp (disch:=omega) [e0,e1,e6,aj,hs]
   exact hlt
  ·rw [if_neg h5] at hs
   simp (disch:=omega) [e0,e1,e5,e6,aj,hs]
   exact hlt
 ·have:i=n:=by omega
  subst this
  simp (disch:=omega) [e5]
theorem looks_law {H:GH} {l:BLoc} {b:Book} (hb:BookIn H l b) (hfx:FxOk H.fx) {s:SLoc} {t:List Torn} (hT:TornIn H s.a t) (hs:awp s 2):C 15 [dl l b,.slice s.a t.length s.fl] H (.bool true) H:=by
 refine au tok mix a9q (F:=g15) (c:=_) rfl (n:=104) rfl (rs:= [.tmp 4]) rfl (ac rfl) ?_
 rcases l with ⟨⟨⟨ra,rf⟩⟩,⟨oa,of'⟩,⟨va,vf⟩⟩
 simp
 generalize hH1:GH.push H _=H1
 have hs1:Sub H H1:=by subst hH1; exact Sub.push (.refl H) _
 have k0:H1.get H.next=some (.arr { cells:=bq ⟨⟨⟨ra,rf⟩⟩,⟨oa,of'⟩,⟨va,vf⟩⟩ b,ty:=28 }):=by subst hH1; simp
 have hn1:H1.next=H.next+1:=by subst hH1; simp
 have hf1:FxOk H1.fx:=by subst hH1; exact hfx
 have hb1:=hb.mono hs1
 have hT1:=hT.mono hs1
 clear hH1
 with_reducible refine (uc ⟨⟨⟨_,_⟩⟩,⟨_,_⟩,⟨_,_⟩⟩ b _ hb1).go ?_
 simp
 cases hsh:nw b
 ·simp
  refine (cx hf1).go ?_
  simp
  exact hs1
 obtain ⟨h15,h14,h8,h4⟩:=qv hsh
 simp
 refine (brief_con t s.a s.fl _ hT1).go ?_
 simp
 cases hbr:briefB t
 ·simp
  refine (cx hf1).go ?_
  simp
  exact hs1
 have hl5:=brief_le hbr
 simp [k0]
 with_reducible refine (aqq ⟨⟨⟨_,_⟩⟩,⟨_,_⟩,⟨_,_⟩⟩ b t (by omega) s.a s.fl _ hb1 hT1).go ?_
 simp [k0]
 with_reducible refine (py ⟨⟨⟨_,_⟩⟩,⟨_,_⟩,⟨_,_⟩⟩ b _ hb1 (by omega)).go ?_
 simp
 cases hB:aq b
 ·have:uv b t=(0,0,2):=by simp [uv,hB]
  simp [this]
  refine (cx hf1).go ?_
  simp
  exact hs1
 simp [k0]
 with_reducible refine (rTorn_con ⟨⟨⟨_,_⟩⟩,⟨_,_⟩,⟨_,_⟩⟩ b t (by omega) s.a s.fl _ hT1).go ?_
 simp
 cases ht:iw b t
 ·have:uv b t=(0,0,2):=by simp [uv,hB,ht]
  simp [this]
  refine (cx hf1).go ?_
  simp
  exact hs1
 have hbo:=l8 hB
 obtain ⟨hO,_⟩:=torn_oks ht hbo.events
 have hcl:=good_len (b:=b) (choices_le hO.len hO.op)
 have hl3:=hO.len
 simp [k0]
 refine (rTruths_con hb1 hsh hbo.events hT1 hs hO).fx.mono ?_
 rintro x H2 ⟨⟨s2,v,rfl,ls,g1,g2,g3⟩,f2⟩
 obtain ⟨a3,f3,rfl,hE3⟩:=g1.elems (fun _=>rfl)
 have hll:ls.length=(goodL b t).length:=by rw [←g2,List.length_map]
 have hf2:FxOk H2.fx:=by rw [f2]; exact hf1
 have hs12:=hs1.trans s2
 by_cases c1:(goodL b t).length=0
 ·have:uv b t=(0,0,7):=by simp [uv,hB,ht,truths_good,c1]
  simp [this,hll,c1]
  refine (cx hf2).go ?_
  simp
  exact hs12
 by_cases c2:(goodL b t).length=1
 ·have:uv b t=(0,0,5):=by simp [uv,hB,ht,truths_good,c2]
  simp [this,hll,c2]
  refine (cx hf2).go ?_
  simp
  exact hs12
 have hrow:∀q∈ls,q.2.length=t.length:=fun q hq=>by
  have:q.2∈goodL b t:=by rw [←g2]; exact List.mem_map_of_mem hq
  exact (choices_mem (good_mem this).1).1
 have ht0:t.length≠0:=fun h=>by
  have h0:t= []:=List.eq_nil_of_length_eq_zero h
  subst h0
  have:(goodL b []).length≤1:=List.length_filter_le _ _
  omega
 obtain ⟨m,hm⟩:∃m,t.length=m+1:=⟨t.length - 1,by omega⟩
 have hpl:oz b t=(List.range (m+1)).map fun (i:Nat)=>((i:Int),outK (goodL b t) i 4):=by
  unfold oz
  rw [hm]
  congr 1
  funext i
  rw [left_eq]
 have hlr:uv b t=(((lookN (fun i=>outK (goodL b t) i 4) t.length:Nat):Int),outK (goodL b t) (lookN (fun i=>outK (goodL b t) i 4) t.length) 4,0):=by
  simp only [uv,hB,ht,Bool.and_self,if_true,truths_good,c1,c2,if_false]
  rw [hpl,best_look,hm]
 have hat:=lookN_le (fun i=>outK (goodL b t) i 4) t.length
 have hI:∀q∈ls,Elems H2 q.1.a 1 ca q.2:=fun q hq=>(g3 q hq).1
 rw [hlr]
 have c1I:¬((goodL b t).length:Int)=0:=by omega
 have c2I:¬((goodL b t).length:Int)=1:=by omega
 have hlook:=rLook_con (f3:=f3) hE3 hI t.length (fun q hq=>Nat.le_of_eq (hrow q hq).symm) (by omega) (by omega)
 have hleft:=fun at_ (h:at_<t.length)=>rLeft_con (f3:=f3) hE3 hI at_ (fun q hq=>by rw [hrow q hq]; exact h) (by omega)
 rw [g2] at hlook
 simp only [g2] at hleft
 generalize lookN (fun i=>outK (goodL b t) i 4) t.length=at_ at*
 simp [hll,c1,c2I]
 rw [hll] at hlook
 simp only [hll] at hleft
 refine hlook.go ?_
 simp
 refine (hleft at_ (by omega)).go ?_
 simp
 refine (cx hf2).go ?_
 simp
 exact hs12
end Go.Gm.Tryz
end
section
namespace Go.Gm.Tryz
open Go.Proofs
theorem fitTorn:Fit Tryz.prog bnc 88:=.struct Tryz.underlying88 (by kernel_rfl) (.cons rfl (by kernel_rfl) rz (.cons rfl (by kernel_rfl) (.slice Tryz.underlying26 (by kernel_rfl) (by decide) a9k) .nil))
theorem fitTorns:Fit Tryz.prog (.slice bnc) 72:=.slice Tryz.underlying72 (by kernel_rfl) (by decide) fitTorn
theorem lie_torn (H:GH) (cs:List Value) (h:Lie H bnc cs):∃x:Torn,cs=bkv x∧(Elems H x.loc.a 8 jb x.options∧awp x.loc 8):=by
 obtain ⟨_,_,rfl,h1,h⟩:=ec h
 obtain ⟨_,_,rfl,h2,h⟩:=ec h
 obtain rfl:_= []:=h
 obtain ⟨n,rfl⟩:=ew h1
 obtain ⟨s,l,rfl,e,k⟩:=zm (sz:=8) rfl (fun _=>rfl) (a5v H) h2
 exact ⟨⟨s,n,l⟩,rfl,e,k⟩
theorem lie_elemsP {α:Type} {H:GH} {e:DT} {enc:α→List Value} {sz:Nat} {P:α→Prop} (hsz:e.sz=sz) (hl:∀x,(enc x).length=sz) (hdec:∀cs,Lie H e cs→∃x,cs=enc x∧P x) {cs:List Value} (h:Lie H (.slice e) cs):
  ∃(s:SLoc) (l:List α),cs= [.slice s.a l.length s.fl]∧Elems H s.a sz enc l∧awp s sz∧∀x∈l,P x:=by
 subst hsz
 rcases h with rfl|⟨a,ls,rfl,hm,hb,hr,hx⟩
 ·exact ⟨⟨none,0⟩,[],rfl,⟨hl,fun c hc=>(by cases hc),fun _=>rfl⟩,.inl ⟨rfl,rfl⟩,fun x hx=>by cases hx⟩
 ·have hex:∃l:List α,ls=l.map enc∧∀x∈l,P x:=by
   clear hr hm
   induction ls with
   |nil=>exact ⟨[],rfl,fun x hx=>by cases hx⟩
   |cons c ls ih=>
    obtain ⟨l,rfl,hp⟩:=ih fun x hxm=>hx x (List.mem_cons_of_mem _ hxm)
    obtain ⟨x,rfl,hq⟩:=hdec c (hx c (List.mem_cons_self ..)).2
    refine ⟨x::l,rfl,fun y hy=>?_⟩
    rcases List.mem_cons.1 hy with rfl|hy
    ·exact hq
    ·exact hp y hy
  obtain ⟨l,rfl,hP⟩:=hex
  refine ⟨⟨some a,e.sz⟩,l,by simp,⟨hl,fun c hc=>?_,fun hc=>by cases hc⟩,.inr ⟨a,rfl,rfl⟩,hP⟩
  cases hc
  rw [List.length_map] at hr
  exact ⟨hb,by rw [hr,List.flatMap_def]⟩
theorem lie_torns {H:GH} {cs:List Value} (h:Lie H (.slice bnc) cs):∃(s:SLoc) (t:List Torn),ahz (.slice bnc) cs=.slice s.a t.length s.fl∧TornIn H s.a t∧awp s 2∧∀x∈t,awp x.loc 8:=by
 obtain ⟨s,l,rfl,e,k,hp⟩:=lie_elemsP (sz:=2) (P:=fun x:Torn=>Elems H x.loc.a 8 jb x.options∧awp x.loc 8) rfl (fun _=>rfl) (lie_torn H) h
 exact ⟨s,l,rfl,⟨e,fun x hx=>(hp x hx).1⟩,k,fun x hx=>(hp x hx).2⟩
end Go.Gm.Tryz
end
section
namespace Go.Gm.Tryz
open Go.Proofs Go.Proofs.YtmnfgajihkfahaaGreatDoor Go.RowKit
theorem grantLooks_spec:LawSpec Rows.grantLooksSpec 2:=⟨rfl,fun H xs h=>by
 match xs,h with
 | [_,_],_=>rfl⟩
set_option maxRecDepth 100000 in
theorem grantLooks_lifted (os:Os) (started:os.Started) (H:Type) (enc:TypeId×Value→H):
  ReturnsInHanded {} Tryz.checked os 15 .any (fun w args=>(Rows.grantLooksSpec.pre enc Tryz.prog Tryz.f15 [] false w args∧laidMetH Tryz.prog li w)∧sizedMet enc Tryz.prog Tryz.f15 (OpenSpec.ofChange Rows.grantLooksSpec) false w args)
   (Rows.grantLooksSpec.post enc Tryz.prog Tryz.f15 false true false false):=by
 refine fk (C:=Tryz.checked) (X:=fun w _=>laidMetH Tryz.prog li w) (fun _ _ _ hh h=>h.of_heap hh) own started (by kernel_rfl) Tryz.func15
  (ChangeSpec.witness_shaped (enc:=enc) (C:=Tryz.checked) (os:=os) (X:=fun w _=>laidMetH Tryz.prog li w) false (World.laidAll Tryz.prog os li) #[.agg #[.slice none 0 0,.int .i64 0,.int .i64 0,.int .i64 0,.int .i64 0,.slice none 0 0,.slice none 0 0],.slice none 0 0] 9 (World.laidAll_os _ _ _)
   (World.shaped_of_ZipB (by kernel_rfl) (by kernel_rfl)) (by kernel_rfl) (by kernel_rfl) (by kernel_rfl)
   (by rw [MakeChecks.laidMetH_plain _ _ _ (by kernel_rfl)]; exact laidMet_laidAll _ (by kernel_rfl) (by kernel_rfl))) ?_
 intro W base args ds gs before hsh hval _ hw hL
 obtain ⟨fx,hfx,hok,hW⟩:=anh hL hsh
 refine tw (P:=Tryz.prog) (fn:=Tryz.f15) (ds:= [sh,.slice bnc]) abw (by rw [Tryz.params15]; exact .cons abt (.cons fitTorns .nil)) (by kernel_rfl) Tryz.underlying4 (by
  rw [Tryz.params15]
  intro t ht
  have hall:([28,72].all fun t=>Tryz.prog.readableRec t&&decide (t<Tryz.prog.types.size))=true:=by kernel_rfl
  have:=List.all_eq_true.1 hall t (by simpa using ht)
  simpa using this) grantLooks_spec hW hfx ?_ hval hw
 intro G gss hG hLie
 have hfG:FxOk G.fx:=by rw [hG]; exact hok
 cases hLie with
 |cons h1 h2=>
 cases h2 with
 |cons h2 h3=>
 cases h3
 obtain ⟨l,b,e,hb,_,_,k3⟩:=yb h1
 obtain ⟨s,t,e2,ht,k,_⟩:=lie_torns h2
 show ay Tryz.prog 15 [ahz sh _,ahz (.slice bnc) _] G _
 rw [e,e2]
 exact (looks_law hb hfG ht k).mono fun x _ h=>h.1
theorem grantLooks_inPlace:(Rows.grantLooksRow.inPlace==Tryz.prog.inPlace 15)=true:=by kernel_rfl
theorem grantLooks_unf:(Rows.grantLooksRow.unfollowed==Tryz.prog.unfollowed 15)=true:=by kernel_rfl
theorem grantLooks_rec:(Rows.grantLooksRow.recurses==Tryz.prog.recurses 15)=true:=by kernel_rfl
theorem grantLooks_named:(Rows.grantLooksRow.named==Tryz.prog.varsNamed 15)=true:=by kernel_rfl
theorem grantLooks_joined:joinedFacts Tryz.prog 15 Tryz.f15 Rows.grantLooksSpec Rows.grantLooksRow=true:=by
 unfold joinedFacts
 exact am (am (am (am (am (am (am (am (am (am (am (am (am (am (am (am (am (am (am (am (am (am (am (am (am (am (am (am (am (am (am (by kernel_rfl) (by kernel_rfl)) (by kernel_rfl)) (by kernel_rfl)) (by kernel_rfl)) (by kernel_rfl)) (by kernel_rfl)) (by kernel_rfl)) (by kernel_rfl)) grantLooks_inPlace) grantLooks_unf) grantLooks_rec) grantLooks_named) (by kernel_rfl)) (by kernel_rfl)) (by kernel_rfl)) (by kernel_rfl)) (by kernel_rfl)) (by kernel_rfl)) (by kernel_rfl)) (by kernel_rfl)) (by kernel_rfl)) (by kernel_rfl)) (by kernel_rfl)) (by kernel_rfl)) af9) (by rw [agc]; exact beq_self_eq_true _)) (by rw [anr]; exact beq_self_eq_true _)) (by kernel_rfl)) (by kernel_rfl)) (by kernel_rfl)) (by kernel_rfl)
theorem grantLooks_holds:Rows.GrantLooksSaid:=
 OpenClaim.holds_of_wide 15 Tryz.f15 rfl rfl rfl rfl rfl rfl rfl ⟨rfl,rfl,rfl,rfl,rfl⟩ rfl rfl rfl rfl rfl (by kernel_rfl) Tryz.func15 grantLooks_joined
  (of_decide_eq_true (by kernel_rfl)) (by unfold Func.isWrapper; first|(rw [if_pos (by decide+kernel)]; kernel_rfl)|(rw [if_neg (by decide+kernel)]; exact ⟨rfl,rfl⟩))
  (fun os started H enc _=>grantLooks_lifted os started H enc)
end Go.Gm.Tryz
namespace Go.Proofs.YtmnfgajihkfahaaGreatDoor
open Go.Gm.Tryz
set_option maxRecDepth 100000 in
theorem grantLooks_card_holds:Rows.GrantLooksCardSaid:=
 Claim7.holds_tied_plain_at .later [] [.data,.data,.data,.data,.pinned] true (true, "c50a2473247fd563652536c5189614d6c43fc7c925362f406516d21693885498") true
  grantLooks_holds (fun _ h=>by cases h) (by kernel_rfl) (fun _ h=>by cases h) grantLooks_row_tie rfl ⟨rfl,rfl⟩ anq rfl
  (fun f fn hf hfn=>by
   obtain rfl:f=15:=Option.some.inj ((show Tryz.prog.funcNamed "quinaria/quinarialaw06.GrantLooks"=some 15 by kernel_rfl).symm.trans hf)|>.symm
   obtain rfl:fn=Tryz.f15:=(Option.some.inj (Tryz.func15.symm.trans hfn)).symm
   exact ⟨agv,fun j t ht=>by
    rw [Tryz.params15] at ht
    have hm:t∈ [28,72]:=by simpa using Array.mem_of_getElem? ht
    have hall:([28,72].all fun u=> !Tryz.prog.wantsStandIn u)=true:=by kernel_rfl
    exact (show Tryz.prog.wantsStandIn t=false by simpa using List.all_eq_true.1 hall t hm)⟩)
  (by kernel_rfl)
end Go.Proofs.YtmnfgajihkfahaaGreatDoor
end
end
