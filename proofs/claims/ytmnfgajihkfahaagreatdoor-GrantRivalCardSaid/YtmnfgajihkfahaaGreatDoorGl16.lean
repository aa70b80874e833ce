/- The function GrantRival, called with any register, any torn places and any place, returns true, and never panics: by the model of the language, for every input that the card fits, and under the card's conditions alone. -/
import Derived.Test.YtmnfgajihkfahaaGreatDoorBb6
import Derived.Test.YtmnfgajihkfahaaGreatDoorTie
noncomputable section
section
namespace Go.Gm
section
variable {X:Cx} {ops:List Oper} {ρ:Rho} {H:GH} {m:List Nat} {Q:VQ} {js:List Nat} {rest:gj} {o:Oper}
end
section
variable {T:Tab} {ρ:Operand→Value} {H:GH} {n:Nat} {r:Rho}
theorem gbound_both (k k':IntKind) (n m:Int) (len:Nat) (h:0≤m∧m≤len) (h2:0≤n∧n≤m):ez (some (.int k n)) (some (.int k' m)) len=some (n.toNat,m.toNat):=by
 show (match (if 0≤m∧m≤len then some m.toNat else none) with|none=>none|some h=>if 0≤n∧n≤(h:Int) then some (n.toNat,h) else none)=_
 rw [if_pos h]
 show (if 0≤n∧n≤(m.toNat:Int) then some (n.toNat,m.toNat) else none)=_
 rw [if_pos (by omega)]
end
end Go.Gm
end
section
namespace Go.Gm.Tryz
open Go.Proofs
@[simp] theorem bli:ah 4 g53.plans=some [(0,[]),(1,[]),(2,[]),(3,[]),(4,[]),(5,[]),(6,[]),(7,[]),(8,[]),(9,[]),(10,[]),(11,[]),(12,[]),(13,[]),(14,[]),(15,[]),(16,[]),(17,[]),(18,[]),(19,[]),(20,[]),(21,[]),(22,[]),(23,[]),(24,[]),(25,[]),(26,[]),(27,[]),(28,[]),(29,[]),(30,[]),(31,[]),(32,[]),(33,[]),(34,[]),(35,[]),(36,[]),(37,[]),(38,[])]:=ai rfl
@[simp] theorem blj:ah 9 g53.plans=some [(0,[]),(1,[]),(2,[]),(3,[]),(4,[]),(5,[]),(6,[]),(7,[]),(8,[]),(9,[]),(10,[])]:=ai rfl
@[simp] theorem blq:ah 5 g61.plans=some [(0,[]),(1,[]),(2,[]),(3,[]),(4,[0]),(5,[]),(6,[]),(7,[]),(8,[]),(9,[]),(10,[])]:=ai rfl
@[simp] theorem biq:ah 2 a3y.plans=some [(0,[]),(1,[]),(2,[]),(3,[]),(4,[]),(5,[]),(6,[]),(7,[]),(8,[]),(9,[]),(10,[]),(11,[]),(12,[]),(13,[]),(14,[]),(15,[]),(16,[]),(17,[]),(18,[])]:=ai rfl
end Go.Gm.Tryz
end
section
namespace Go.Gm.Tryz
open Go.Proofs
theorem qv {b:Book} (h:nw b=true):b.tbl.rows.length≤15∧b.events.length≤14∧b.owners.length≤8∧(aq b=true→b.tbl.rows.length≤4):=by
 have h':=h
 simp [nw] at h'
 refine ⟨by omega,by omega,by omega,fun hB=>?_⟩
 have ht:=xj hB
 simp [ht] at h'
 omega
end Go.Gm.Tryz
end
section
namespace Go.Gm
end Go.Gm
namespace Go.Gm.Tryz
open Go.Proofs
def choicesL:List Torn→List (List Int)
 | []=> [[]]
 |t::ts=>(List.range t.options.length).flatMap fun (k:Nat)=>(choicesL ts).map fun c=>(k:Int)::c
def setEv (ev:List Ev) (p:Torn×Int):List Ev:=ev.set p.1.event.toNat (p.1.options.getD p.2.toNat default)
def chosenEv (ts:List Torn) (c:List Int) (ev:List Ev):List Ev:=(ts.zip c).foldl setEv ev
def chosenB (b:Book) (t:List Torn) (c:List Int):Book:= { b with events:=chosenEv t c b.events }
theorem chosenEv_cons (t:Torn) (ts:List Torn) (k:Int) (c:List Int) (ev:List Ev):chosenEv (t::ts) (k::c) ev=chosenEv ts c (setEv ev (t,k)):=rfl
theorem truthsFrom_eq (b:Book):∀(ts:List Torn) (now:List Int) (ev:List Ev),
  bz b ts now ev=((choicesL ts).filter fun c=>yv { b with events:=chosenEv ts c ev }).map fun c=>(now++c,{ b with events:=chosenEv ts c ev }):=by
 intro ts
 induction ts with
 |nil=>
  intro now ev
  have e:chosenEv [] [] ev=ev:=rfl
  simp only [bz,choicesL,List.filter_cons,List.filter_nil,e]
  split<;>simp [e]
 |cons t ts ih=>
  intro now ev
  simp only [bz,choicesL]
  rw [List.filter_flatMap,List.map_flatMap]
  congr 1
  funext k
  rw [ih,List.filter_map,List.map_map]
  have e:∀c,chosenEv (t::ts) ((k:Int)::c) ev=chosenEv ts c (ev.set t.event.toNat (t.options.getD k default)):=fun c=>by
   rw [chosenEv_cons]
   simp [setEv]
  simp only [Function.comp_def,e,List.append_assoc,List.singleton_append]
def okC (b:Book) (t:List Torn) (c:List Int):Bool:=yv (chosenB b t c)
def goodL (b:Book) (t:List Torn):List (List Int):=(choicesL t).filter (okC b t)
theorem truthsL_eq (b:Book) (t:List Torn):di b t=(goodL b t).map fun c=>(c,chosenB b t c):=by
 unfold di
 rw [truthsFrom_eq]
 rfl
theorem truths_good (b:Book) (t:List Torn):(di b t).length=(goodL b t).length:=by rw [truthsL_eq,List.length_map]
theorem choices_mem:∀ {t:List Torn} {c:List Int},c∈choicesL t→c.length=t.length∧∀i (h:i<t.length) (h':i<c.length),0≤c[i]∧c[i]<t[i].options.length:=by
 intro t
 induction t with
 |nil=>intro c hc; simp [choicesL] at hc; subst hc; exact ⟨rfl,fun i h=>by simp at h⟩
 |cons t ts ih=>
  intro c hc
  simp only [choicesL,List.mem_flatMap,List.mem_range,List.mem_map] at hc
  obtain ⟨k,hk,d,hd,rfl⟩:=hc
  obtain ⟨h1,h2⟩:=ih hd
  refine ⟨by simp [h1],fun i h h'=>?_⟩
  cases i with
  |zero=>simp; omega
  |succ i=>simpa using h2 i (by simpa using h) (by simpa using h')
theorem choices_len:∀ {t:List Torn},(∀x∈t,x.options.length≤4)→(choicesL t).length≤4^t.length:=by
 intro t
 induction t with
 |nil=>intro _; simp [choicesL]
 |cons t ts ih=>
  intro h
  have h1:=ih fun x hx=>h x (List.mem_cons_of_mem _ hx)
  have h2:=h t (by simp)
  simp only [choicesL,List.length_flatMap,List.length_map,List.map_const',List.length_range,List.sum_replicate_nat,List.length_cons,Nat.pow_succ]
  rw [Nat.mul_comm]
  exact Nat.mul_le_mul h1 h2
theorem choices_le {t:List Torn} (hl:t.length≤3) (h:∀x∈t,x.options.length≤4):(choicesL t).length≤64:=
 Nat.le_trans (choices_len h) (Nat.le_trans (Nat.pow_le_pow_right (by decide) hl) (by decide))
theorem good_mem {b:Book} {t:List Torn} {c:List Int} (h:c∈goodL b t):c∈choicesL t∧okC b t c=true:=List.mem_filter.1 h
theorem cnt_all (b:Book) (t:List Torn) (i:Nat) (k:Int):lh b t (di b t).length i k=(((goodL b t).countP fun c=>decide (c.getD i 0=k):Nat):Int):=by
 unfold lh
 rw [List.take_length,truthsL_eq,List.countP_map]
 rfl
theorem torn_oks {b:Book} {t:List Torn} (h:iw b t=true) (hE:b.events.length≤12):TornOk b t∧∀x∈t,1≤x.options.length:=by
 simp only [iw,Bool.and_eq_true,List.all_eq_true,List.mem_range,Bool.not_eq_true',decide_eq_true_eq] at h
 have key:∀x∈t,(0≤x.event∧x.event<b.events.length)∧x.options.length≤4∧1≤x.options.length:=fun x hx=>by
  obtain ⟨i,hi,rfl⟩:=List.mem_iff_getElem.1 hx
  have:=h.1 i hi
  unfold pa at this
  rw [tAt,bc hi] at this
  simp only [Bool.or_eq_false_iff,Bool.not_eq_false',inI,decide_eq_true_eq] at this
  rw [aj ((b.events.length:Int) - 1) (by omega) (by omega)] at this
  omega
 exact ⟨⟨h.2,fun x hx=>(key x hx).1,fun x hx=>(key x hx).2.1⟩,fun x hx=>(key x hx).2.2⟩
end Go.Gm.Tryz
end
section
namespace Go.Gm.Tryz
open Go.Proofs
def briefB (t:List Torn):Bool:=(t.take 5).all (fun x=>decide (x.options.length≤6))&&decide (t.length≤5)
theorem brief_con (t:List Torn) (a:Option Addr) (fl:Nat) (H:GH) (hT:TornIn H a t):C 51 [.slice a t.length fl] H (.bool (briefB t)) H:=by
 refine au tok mix a94 (F:=g51) (c:=_) rfl (n:=24) rfl (rs:= [.tmp 2]) rfl (ac rfl) ?_
 simp
 refine cv tok mix (by kernel_rfl) 5 (fun i ρ m H'=>ρ 0=.slice a t.length fl∧ρ 3=vi i∧m= []∧H'=H∧∀j (h:j<t.length),j<i→t[j].options.length≤6) (i0:=0) (by omega) (by simp) ?_
 rintro i ρ m H hi ⟨e0,e3,rfl,rfl,hj⟩
 have yes:(∀j (h:j<t.length),j<5→t[j].options.length≤6)→briefB t=decide (t.length≤5):=fun h=>by
  have:((t.take 5).all fun x=>decide (x.options.length≤6))=true:=by
   rw [List.all_eq_true]
   intro x hx
   obtain ⟨j,hjl,rfl⟩:=List.mem_iff_getElem.1 hx
   rw [List.length_take] at hjl
   rw [List.getElem_take]
   exact decide_eq_true (h j (by omega) (by omega))
  rw [briefB,this,Bool.true_and]
 by_cases h1:i<t.length
 ·by_cases h2:i<5
  ·obtain ⟨b,rfl,hb,hrd⟩:=hT.e.at i h1
   have h1I:(i:Int)<t.length:=by omega
   have h2I:(i:Int)<5:=by omega
   simp (disch:=omega) [e0,e3,h1,h2,h1I,h2I,hrd]
   by_cases h3:t[i].options.length≤6
   ·have h4:¬6<t[i].options.length:=by omega
    have h4I:¬(6:Int)<t[i].options.length:=by omega
    simp (disch:=omega) [e0,e3,h4,h4I,aj,h1,h2]
    refine fun j h hji=>?_
    by_cases hc:j=i
    ·subst hc; exact h3
    ·exact hj j h (by omega)
   ·have h4:6<t[i].options.length:=by omega
    have h4I:(6:Int)<t[i].options.length:=by omega
    have hbad:briefB t=false:=by
     have:((t.take 5).all fun x=>decide (x.options.length≤6))=false:=by
      rw [List.all_eq_false]
      exact ⟨t[i],List.mem_take_iff_getElem.2 ⟨i,by omega,rfl⟩,by simpa using h4⟩
     rw [briefB,this,Bool.false_and]
    simp (disch:=omega) [h4,h4I,hbad]
  ·have:i=5:=by omega
   subst this
   have h1I:(5:Int)<t.length:=by omega
   have hn:¬t.length≤5:=by omega
   have hnI:¬(t.length:Int)≤5:=by omega
   simp (disch:=omega) [e0,e3,h1,h1I,yes fun j h hj5=>hj j h hj5,hn,hnI]
 ·have hn:t.length≤5:=by omega
  have hnI:(t.length:Int)≤5:=by omega
  have h1I:¬(i:Int)<t.length:=by omega
  simp (disch:=omega) [e0,e3,h1,h1I,yes fun j h _=>hj j h (by omega),hn,hnI]
theorem brief_le {t:List Torn} (h:briefB t=true):t.length≤5:=by
 simp only [briefB,Bool.and_eq_true,decide_eq_true_eq] at h
 exact h.2
theorem rTorn_con (l:BLoc) (b:Book) (t:List Torn) (ht:t.length≤1000) (a:Option Addr) (fl:Nat) (H:GH) (hT:TornIn H a t):C 53 [dl l b,.slice a t.length fl] H (.bool (iw b t)) H:=by
 rcases l with ⟨⟨⟨ra,rf⟩⟩,⟨oa,of'⟩,⟨va,vf⟩⟩
 refine au tok mix a95 (F:=g53) (c:=_) rfl (n:=76) rfl (rs:= [.tmp 4]) rfl (ac rfl) ?_
 simp
 generalize hH1:GH.push H _=H1
 have hs1:Sub H H1:=by subst hH1; exact Sub.push (.refl H) _
 have hg1:H1.get H.next=some (.arr { cells:=bq ⟨⟨⟨ra,rf⟩⟩,⟨oa,of'⟩,⟨va,vf⟩⟩ b,ty:=28 }):=by subst hH1; simp
 have hn1:H.next<H1.next:=by subst hH1; simp
 have hT1:=hT.mono hs1
 clear hH1
 refine cv tok mix (by kernel_rfl) t.length (fun i ρ m H'=>ρ 1=.slice a t.length fl∧ρ 2=.pointer (some (ga H.next 0 0))∧ρ 5=vi i∧m= []∧H'=H1∧∀j,j<i→pa b t j=false) (i0:=0) (by omega) (by simp) ?_
 rintro i ρ m H1 hi ⟨e1,e2,e5,rfl,rfl,hj⟩
 simp [e1,e5]
 refine ba (fun hlt=>?_) (fun hge=>?_)
 case refine_2=>
  simp [e1]
  have h8:(List.range t.length).all (fun i=> !pa b t i)=true:=by
   rw [List.all_eq_true]
   intro j hjm
   rw [hj j (by have:=List.mem_range.1 hjm; omega)]; rfl
  simp [iw,h8]
  refine ⟨by omega,hs1⟩
 obtain ⟨c,rfl,hcl,hrd⟩:=hT1.e.at i hlt
 have ea:tAt t i=t[i]:=bc hlt
 have hop:=hT1.o _ (List.getElem_mem hlt)
 have hltI:(i:Int)<t.length:=by omega
 have hfalse:pa b t i=true→iw b t=false:=fun h=>by
  have:(List.range t.length).all (fun i=> !pa b t i)=false:=by
   rw [List.all_eq_false]
   exact ⟨i,List.mem_range.2 hlt,by simp [h]⟩
  simp [iw,this]
 have hbad:pa b t i=(!inI t[i].event 0 (IntKind.i64.wrap (b.events.length - 1))||(decide (0<i)&&decide (t[i].event≤(tAt t (i - 1)).event))|| !inI t[i].options.length 1 4||t[i].options.any (fun e=> !bv b e)):=by
  unfold pa; rw [ea]
 simp (disch:=omega) [e1,e2,e5,hlt,hrd,hg1]
 with_reducible refine (o6 _ _ _ _).go ?_
 cases c1:inI t[i].event 0 (IntKind.i64.wrap (b.events.length - 1)) with
 |false=>
  simp (disch:=omega) [hfalse (by rw [hbad,c1]; simp),hs1]
 |true=>
  by_cases h6:0<i
  ·obtain ⟨c',hc',_,hrd'⟩:=hT1.e.at (i - 1) (by omega)
   cases hc'
   have e5':((i:Int) - 1).toNat=i - 1:=by omega
   have ep:tAt t (i - 1)=t[i - 1]:=bc (by omega)
   have h6I:(0:Int)<i:=by omega
   by_cases h5:t[i].event≤t[i - 1].event
   ·simp (disch:=omega) [e1,e5,h6,h6I,aj,e5',hrd',hrd,h5,hfalse (by rw [hbad,c1,ep]; simp [h6,h5]),hs1]
   ·have h7:(decide (0<i)&&decide (t[i].event≤(tAt t (i - 1)).event))=false:=by rw [ep]; simp; omega
    simp (disch:=omega) [e1,e5,h6,h6I,aj,e5',hrd',hrd,h5]
    with_reducible refine (o6 _ _ _ _).go ?_
    cases c2:inI t[i].options.length 1 4 with
    |false=>simp (disch:=omega) [hfalse (by rw [hbad,c1,c2]; simp),hs1]
    |true=>
     have hol:t[i].options.length≤4:=by simp [inI] at c2; omega
     simp (disch:=omega)
     refine cv tok mix (by kernel_rfl) t[i].options.length (fun k ρ m H'=>ρ 1=.slice (some c) t.length fl∧ρ 2=.pointer (some (ga H.next 0 0))∧ρ 5=vi i∧ρ 6=vi k∧m= []∧H'=H1∧∀j (h:j<t[i].options.length),j<k→bv b t[i].options[j]=true) (i0:=0) (by omega) (by simp [e1,e2,e5]) ?_
     rintro k ρ m H1 hk ⟨d1,d2,d5,d6,rfl,rfl,hev⟩
     simp (disch:=omega) [d1,d5,d6,hrd]
     refine ba (fun hkl=>?_) (fun hkg=>?_)
     ·obtain ⟨co,hco,_,hro⟩:=hop.at k hkl
      have hkI:(k:Int)<t[i].options.length:=by omega
      simp (disch:=omega) [d1,d2,d5,d6,hrd,hg1,hco,hro]
      with_reducible refine (al5 ⟨⟨⟨_,_⟩⟩,⟨_,_⟩,⟨_,_⟩⟩ b t[i].options[k] _).go ?_
      rw [aq7]
      simp
      cases hex:bv b t[i].options[k]
      ·have hany:t[i].options.any (fun e=> !bv b e)=true:=List.any_eq_true.2 ⟨_,List.getElem_mem hkl,by simp [hex]⟩
       simp (disch:=omega) [hfalse (by rw [hbad,c1,c2,hany]; simp),hs1]
      ·simp (disch:=omega) [d1,d2,d5,d6,aj,hkI]
       refine ⟨by omega,fun j h hjk=>?_⟩
       by_cases hc:j=k
       ·subst hc; exact hex
       ·exact hev j h (by omega)
     ·have c3:t[i].options.any (fun e=> !bv b e)=false:=by
       rw [List.any_eq_false]
       intro e he
       obtain ⟨j,hjl,rfl⟩:=List.mem_iff_getElem.1 he
       simp [hev j hjl (by omega)]
      simp (disch:=omega) [d1,d2,d5,aj,hltI]
      refine fun j hji=>?_
      by_cases hc:j=i
      ·subst hc; rw [hbad,c1,c2,c3,h7]; rfl
      ·exact hj j (by omega)
  ·have h7:(decide (0<i)&&decide (t[i].event≤(tAt t (i - 1)).event))=false:=by simp; omega
   have h6I:¬(0:Int)<i:=by omega
   simp (disch:=omega) [e1,e5,h6,h6I,hrd]
   with_reducible refine (o6 _ _ _ _).go ?_
   cases c2:inI t[i].options.length 1 4 with
   |false=>simp (disch:=omega) [hfalse (by rw [hbad,c1,c2]; simp),hs1]
   |true=>
    have hol:t[i].options.length≤4:=by simp [inI] at c2; omega
    simp (disch:=omega)
    refine cv tok mix (by kernel_rfl) t[i].options.length (fun k ρ m H'=>ρ 1=.slice (some c) t.length fl∧ρ 2=.pointer (some (ga H.next 0 0))∧ρ 5=vi i∧ρ 6=vi k∧m= []∧H'=H1∧∀j (h:j<t[i].options.length),j<k→bv b t[i].options[j]=true) (i0:=0) (by omega) (by simp [e1,e2,e5]) ?_
    rintro k ρ m H1 hk ⟨d1,d2,d5,d6,rfl,rfl,hev⟩
    simp (disch:=omega) [d1,d5,d6,hrd]
    refine ba (fun hkl=>?_) (fun hkg=>?_)
    ·obtain ⟨co,hco,_,hro⟩:=hop.at k hkl
     have hkI:(k:Int)<t[i].options.length:=by omega
     simp (disch:=omega) [d1,d2,d5,d6,hrd,hg1,hco,hro]
     with_reducible refine (al5 ⟨⟨⟨_,_⟩⟩,⟨_,_⟩,⟨_,_⟩⟩ b t[i].options[k] _).go ?_
     rw [aq7]
     simp
     cases hex:bv b t[i].options[k]
     ·have hany:t[i].options.any (fun e=> !bv b e)=true:=List.any_eq_true.2 ⟨_,List.getElem_mem hkl,by simp [hex]⟩
      simp (disch:=omega) [hfalse (by rw [hbad,c1,c2,hany]; simp),hs1]
     ·simp (disch:=omega) [d1,d2,d5,d6,aj,hkI]
      refine ⟨by omega,fun j h hjk=>?_⟩
      by_cases hc:j=k
      ·subst hc; exact hex
      ·exact hev j h (by omega)
    ·have c3:t[i].options.any (fun e=> !bv b e)=false:=by
      rw [List.any_eq_false]
      intro e he
      obtain ⟨j,hjl,rfl⟩:=List.mem_iff_getElem.1 he
      simp [hev j hjl (by omega)]
     simp (disch:=omega) [d1,d2,d5,aj,hltI]
     refine fun j hji=>?_
     by_cases hc:j=i
     ·subst hc; rw [hbad,c1,c2,c3,h7]; rfl
     ·exact hj j (by omega)
end Go.Gm.Tryz
end
section
namespace Go.Gm.Tryz
open Go.Proofs
def partCh (rest:List (List Int)) (k j:Nat):List (List Int):=((List.range k).flatMap fun (n:Nat)=>rest.map fun c=>(n:Int)::c)++(rest.take j).map fun c=>(k:Int)::c
end Go.Gm.Tryz
end
section
namespace Go.Gm.Tryz
open Go.Proofs
def chosenTo (t:List Torn) (c:List Int) (ev:List Ev) (i:Nat):List Ev:=((t.zip c).take i).foldl setEv ev
end Go.Gm.Tryz
end
section
namespace Go.Gm.Tryz
open Go.Proofs
def goodTo (b:Book) (t:List Torn) (i:Nat):List (List Int):=((choicesL t).take i).filter (okC b t)
end Go.Gm.Tryz
end
section
namespace Go.Gm.Tryz
open Go.Proofs
def hasTo (b:Book) (t:List Torn) (g p d:Int) (i:Nat):Nat:=((goodL b t).take i).countP fun c=>ald (chosenB b t c) g p d
theorem good_len {b:Book} {t:List Torn} (h:(choicesL t).length≤64):(goodL b t).length≤64:=Nat.le_trans (List.length_filter_le _ _) h
end Go.Gm.Tryz
end
section
namespace Go.Gm.Tryz
open Go.Proofs
def cntK (cs:List (List Int)) (p:Nat) (k:Int) (n:Nat):Nat:=(cs.take n).countP fun c=>decide (c.getD p 0=k)
theorem cntK_le {cs:List (List Int)} {p:Nat} {k:Int} {n:Nat}:cntK cs p k n≤n:=by
 unfold cntK
 exact Nat.le_trans List.countP_le_length (List.length_take_le _ _)
def outK (cs:List (List Int)) (p:Nat):Nat→Int
 |0=>0
 |k+1=>if outK cs p k<(cntK cs p k cs.length:Nat) then (cntK cs p k cs.length:Nat) else outK cs p k
theorem outK_bd {cs:List (List Int)} {p:Nat}:∀k,0≤outK cs p k∧outK cs p k≤cs.length:=by
 intro k
 induction k with
 |zero=>simp [outK]
 |succ k ih=>
  have:=cntK_le (cs:=cs) (p:=p) (k:=k) (n:=cs.length)
  simp only [outK]
  split<;>omega
theorem left_eq (b:Book) (t:List Torn) (i:Nat):afh b t i=outK (goodL b t) i 4:=by
 have e:∀k:Int,lh b t (di b t).length i k=((cntK (goodL b t) i k (goodL b t).length:Nat):Int):=fun k=>by rw [cnt_all,cntK,List.take_length]
 simp only [afh,km,M4.list,ayf,List.foldl_cons,List.foldl_nil,agx,e,outK]
 simp only [show ((3:Nat):Int)=3 from rfl,show ((2:Nat):Int)=2 from rfl,show ((1:Nat):Int)=1 from rfl,show ((0:Nat):Int)=0 from rfl]
 repeat' split
 all_goals omega
def lookN (L:Nat→Int):Nat→Nat
 |0=>0
 |i+1=>if L i<L (lookN L i) then i else lookN L i
theorem lookN_le (L:Nat→Int):∀n,lookN L n≤n - 1:=by
 intro n
 induction n with
 |zero=>simp [lookN]
 |succ n ih=>simp only [lookN]; split<;>omega
theorem best_look (L:Nat→Int):∀m:Nat,aet ((List.range (m+1)).map fun (i:Nat)=>((i:Int),L i))=(((lookN L (m+1):Nat):Int),L (lookN L (m+1))):=by
 intro m
 induction m with
 |zero=>simp [aet,lookN]
 |succ m ih=>
  rw [List.range_succ,List.map_append]
  obtain ⟨x,l,hx⟩:∃x l,((List.range (m+1)).map fun (i:Nat)=>((i:Int),L i))=x::l:=by
   rw [List.range_succ_eq_map]
   exact ⟨_,_,rfl⟩
  rw [hx] at ih ⊢
  have:aet (x::l++List.map (fun (i:Nat)=>((i:Int),L i)) [m+1])=kq (aet (x::l)) (((m+1:Nat):Int),L (m+1)):=by simp [aet,List.foldl_append]
  rw [this,ih]
  unfold kq
  rw [show lookN L (m+1+1)=if L (m+1)<L (lookN L (m+1)) then m+1 else lookN L (m+1) from rfl]
  simp only
  split<;>rfl
end Go.Gm.Tryz
end
section
namespace Go.Gm.Tryz
open Go.Proofs
def choiceB (t:List Torn) (c:List Int):Bool:=decide (c∈choicesL t)
end Go.Gm.Tryz
end
section
namespace Go.Gm.Tryz
open Go.Proofs
theorem flatMap_one {α:Type} {L:List α} {k:Nat}:∀ {n:Nat},k<n→((List.range n).flatMap fun j=>if j=k then L else [])=L:=by
 intro n
 induction n with
 |zero=>intro h; omega
 |succ n ih=>
  intro h
  rw [List.range_succ,List.flatMap_append]
  by_cases hc:n=k
  ·subst hc
   have:((List.range n).flatMap fun j=>if j=n then L else [])= []:=by
    rw [List.flatMap_eq_nil_iff]
    intro j hj
    have:=List.mem_range.1 hj
    rw [if_neg (by omega)]
   rw [this]
   simp
  ·rw [ih (by omega)]
   simp [hc]
def Narrow (x:Torn) (k:Nat) (y:Torn):Prop:=y.event=x.event∧y.options= [x.options.getD k default]
theorem choices_narrow {x y:Torn} {k:Nat} (hy:Narrow x k y) (hk:k<x.options.length):∀ {l:List Torn} {p:Nat} (hp:p<l.length),l[p]=x→choicesL (l.set p y)=((choicesL l).filter fun c=>decide (c.getD p 0=(k:Int))).map fun c=>c.set p 0:=by
 intro l
 induction l with
 |nil=>intro p hp; simp at hp
 |cons t ts ih=>
  intro p hp hx
  cases p with
  |zero=>
   simp only [List.getElem_cons_zero] at hx
   subst hx
   simp only [List.set_cons_zero,choicesL,hy.2,List.length_singleton,List.range_one,List.flatMap_cons,List.flatMap_nil,List.append_nil]
   rw [List.filter_flatMap]
   have e:(fun j:Nat=>(List.map (fun c=>(j:Int)::c) (choicesL ts)).filter fun c=>decide (c.getD 0 0=(k:Int)))=fun j=>if j=k then List.map (fun c=>(j:Int)::c) (choicesL ts) else []:=by
    funext j
    rw [List.filter_map]
    by_cases hj:j=k
    ·subst hj
     rw [if_pos rfl,List.filter_eq_self.2]
     intro c _
     simp
    ·rw [if_neg hj,List.filter_eq_nil_iff.2]
     ·rfl
     ·intro c _
      simp
      omega
   have e2:(fun j:Nat=>if j=k then List.map (fun c=>(j:Int)::c) (choicesL ts) else [])=fun j=>if j=k then List.map (fun c=>(k:Int)::c) (choicesL ts) else []:=by
    funext j
    by_cases hj:j=k
    ·subst hj; rfl
    ·rw [if_neg hj,if_neg hj]
   rw [e,e2,flatMap_one hk,List.map_map]
   rfl
  |succ p=>
   simp only [List.getElem_cons_succ] at hx
   have hp':p<ts.length:=by simpa using hp
   simp only [List.set_cons_succ,choicesL]
   rw [List.filter_flatMap,List.map_flatMap]
   congr 1
   funext j
   rw [ih hp' hx,List.filter_map,List.map_map,List.map_map]
   congr 1
theorem chosen_narrow {x y:Torn} {k:Nat} (hy:Narrow x k y):∀ {l:List Torn} {p:Nat} (hp:p<l.length),l[p]=x→∀ {c:List Int},c.getD p 0=(k:Int)→p<c.length→∀ev,chosenEv (l.set p y) (c.set p 0) ev=chosenEv l c ev:=by
 intro l
 induction l with
 |nil=>intro p hp; simp at hp
 |cons t ts ih=>
  intro p hp hx c hc hpc ev
  cases c with
  |nil=>simp at hpc
  |cons j c=>
   cases p with
   |zero=>
    simp only [List.getElem_cons_zero] at hx
    subst hx
    simp at hc
    subst hc
    simp only [List.set_cons_zero,chosenEv_cons,setEv,hy.1,hy.2]
    simp
   |succ p=>
    simp only [List.getElem_cons_succ] at hx
    simp only [List.set_cons_succ,chosenEv_cons]
    exact ih (by simpa using hp) hx (by simpa using hc) (by simpa using hpc) _
theorem good_narrow {b:Book} {l:List Torn} {p k:Nat} (hp:p<l.length) (hk:k<l[p].options.length) {y:Torn} (hy:Narrow l[p] k y):(goodL b (l.set p y)).length=(goodL b l).countP fun c=>decide (c.getD p 0=(k:Int)):=by
 unfold goodL
 rw [choices_narrow hy hk hp rfl,List.filter_map,List.length_map,List.countP_eq_length_filter,List.filter_filter,List.filter_filter]
 congr 1
 apply List.filter_congr
 intro c hc
 by_cases h:c.getD p 0=(k:Int)
 ·have hcl:=(choices_mem hc).1
  have:okC b (l.set p y) (c.set p 0)=okC b l c:=by
   unfold okC chosenB
   rw [chosen_narrow hy hp rfl h (by omega)]
  simp only [Function.comp,this,h,decide_true,Bool.and_true,Bool.true_and]
 ·simp only [h,decide_false,Bool.and_false,Bool.false_and]
def allEv:List Torn→List Ev→List (List Ev)
 | [],ev=> [ev]
 |t::ts,ev=>t.options.flatMap fun o=>allEv ts (ev.set t.event.toNat o)
def okE (b:Book) (ev:List Ev):Bool:=yv { b with events:=ev }
def hasE (b:Book) (g p d:Int) (ev:List Ev):Bool:=ald { b with events:=ev } g p d
def goodE (b:Book) (l:List Torn):List (List Ev):=(allEv l b.events).filter (okE b)
def Less (x:Torn) (k:Nat) (y:Torn):Prop:=y.event=x.event∧y.options=x.options.eraseIdx k
end Go.Gm.Tryz
end
section
namespace Go.Gm
theorem Elems.drop {α:Type} {H:GH} {sz:Nat} {enc:α→List Value} {l:List α} {a:Addr} (h:Elems H (some a) sz enc l) (i:Nat) (hi:i≤l.length):Elems H (some (ku a (i*sz))) sz enc (l.drop i):=by
 refine ⟨h.len,fun b hb=>?_,fun hn=>by cases hn⟩
 cases hb
 obtain ⟨h1,h2⟩:=h.ok a rfl
 refine ⟨h1,?_⟩
 have:=zr h2 (k:=i*sz) (m:=(l.drop i).length*sz) (by rw [List.length_drop,←Nat.add_mul]; exact Nat.mul_le_mul_right _ (by omega))
 rw [agd h.len,List.take_of_length_le (by rw [jc h.len]; exact Nat.le_refl _)] at this
 exact this
end Go.Gm
namespace Go.Gm.Tryz
open Go.Proofs
theorem tAt_set {l:List Torn} {p:Nat} {y:Torn} (hp:p<l.length) (i:Nat):tAt (l.set p y) i=if i=p then y else tAt l i:=by
 unfold tAt
 rw [List.getD_eq_getElem?_getD,List.getD_eq_getElem?_getD,List.getElem?_set]
 by_cases h:p=i
 ·subst h; simp [hp]
 ·rw [if_neg h,if_neg (fun hc=>h hc.symm)]
theorem torn_event {b:Book} {l:List Torn} (h:iw b l=true) {x:Torn} (hx:x∈l) {e:Ev} (he:e∈x.options):bv b e=true:=by
 simp only [iw,Bool.and_eq_true,List.all_eq_true,List.mem_range,Bool.not_eq_true'] at h
 obtain ⟨i,hi,rfl⟩:=List.mem_iff_getElem.1 hx
 have:=h.1 i hi
 unfold pa at this
 rw [tAt,bc hi] at this
 simp only [Bool.or_eq_false_iff,List.any_eq_false,Bool.not_eq_true',Bool.not_eq_true,Bool.not_eq_false] at this
 have:=this.2 e he
 simpa using this
theorem areTorn_set {b:Book} {l:List Torn} {p:Nat} {y:Torn} (h:iw b l=true) (hp:p<l.length) (he:y.event=l[p].event) (hl:1≤y.options.length∧y.options.length≤4) (ho:∀e∈y.options,bv b e=true):iw b (l.set p y)=true:=by
 simp only [iw,Bool.and_eq_true,List.all_eq_true,List.mem_range,Bool.not_eq_true',decide_eq_true_eq] at h ⊢
 have hev:∀i,(tAt (l.set p y) i).event=(tAt l i).event:=fun i=>by
  rw [tAt_set hp]
  by_cases hi:i=p
  ·subst hi; rw [if_pos rfl,he,tAt,bc hp]
  ·rw [if_neg hi]
 refine ⟨fun i hi=>?_,by rw [List.length_set]; exact h.2⟩
 rw [List.length_set] at hi
 have hb:=h.1 i hi
 unfold pa at hb ⊢
 rw [hev,hev]
 simp only [Bool.or_eq_false_iff] at hb ⊢
 refine ⟨⟨hb.1.1,?_⟩,?_⟩
 ·rw [tAt_set hp]
  by_cases hi:i=p
  ·subst hi; rw [if_pos rfl]; simp [inI]; omega
  ·rw [if_neg hi]; exact hb.1.2
 ·rw [tAt_set hp]
  by_cases hi:i=p
  ·subst hi
   rw [if_pos rfl,List.any_eq_false]
   intro e hem
   simp [ho e hem]
  ·rw [if_neg hi]; exact hb.2
theorem outK_stop {b:Book} {t:List Torn} {p:Nat} (hp:p<t.length):∀k,t[p].options.length≤k→outK (goodL b t) p k=outK (goodL b t) p t[p].options.length:=by
 intro k
 induction k with
 |zero=>intro h; rw [show t[p].options.length=0 by omega]
 |succ k ih=>
  intro h
  by_cases he:t[p].options.length=k+1
  ·rw [he]
  ·have h0:cntK (goodL b t) p k (goodL b t).length=0:=by
    unfold cntK
    rw [List.take_length,List.countP_eq_zero]
    intro c hc
    have hm:=choices_mem (good_mem hc).1
    have:=(hm.2 p hp (by omega)).2
    have hgd:c.getD p 0=c[p]'(by omega):=by rw [List.getD_eq_getElem?_getD,List.getElem?_eq_getElem (by omega)]; rfl
    rw [hgd]
    simp
    omega
   have hb:=(outK_bd (cs:=goodL b t) (p:=p) k).1
   rw [show outK (goodL b t) p (k+1)=if outK (goodL b t) p k<(cntK (goodL b t) p k (goodL b t).length:Nat) then ((cntK (goodL b t) p k (goodL b t).length:Nat):Int) else outK (goodL b t) p k from rfl,h0,if_neg (by omega)]
   exact ih (by omega)
theorem lookN_min (L:Nat→Int):∀n i,i<n→L (lookN L n)≤L i∧(L i=L (lookN L n)→lookN L n≤i):=by
 intro n
 induction n with
 |zero=>intro i hi; omega
 |succ n ih=>
  intro i hi
  simp only [lookN]
  by_cases hc:L n<L (lookN L n)
  ·rw [if_pos hc]
   by_cases hi':i=n
   ·subst hi'; exact ⟨Int.le_refl _,fun _=>Nat.le_refl _⟩
   ·have:=ih i (by omega)
    exact ⟨by omega,fun h=>by omega⟩
  ·rw [if_neg hc]
   by_cases hi':i=n
   ·subst hi'
    have:=lookN_le L i
    exact ⟨by omega,fun _=>by omega⟩
   ·exact ih i (by omega)
end Go.Gm.Tryz
end
section
namespace Go.Gm
theorem Elems.takeN {α:Type} {H:GH} {sz:Nat} {enc:α→List Value} {l:List α} {a:Addr} (h:Elems H (some a) sz enc l) (m:Nat) (hm:m≤l.length):Elems H (some a) sz enc (l.take m):=by
 refine ⟨h.len,fun b hb=>?_,fun hn=>by cases hn⟩
 cases hb
 obtain ⟨h1,h2⟩:=h.ok a rfl
 refine ⟨h1,?_⟩
 have hl:=jc h.len
 have e:(l.take m).length=m:=by rw [List.length_take]; omega
 have:=zr h2 (k:=0) (m:=(l.take m).length*sz) (by rw [e,Nat.zero_add]; exact Nat.mul_le_mul_right _ hm)
 rw [List.drop_zero] at this
 refine this.trans (congrArg some ?_)
 have e2:l.flatMap enc=(l.take m).flatMap enc++(l.drop m).flatMap enc:=by rw [←List.flatMap_append,List.take_append_drop]
 rw [e2,←hl,List.take_left' rfl]
end Go.Gm
namespace Go.Gm.Tryz
open Go.Proofs
theorem narrowed_con {H:GH} {s:SLoc} {t:List Torn} (hT:TornIn H s.a t) (hl:t.length≤5) (hO:∀x∈t,awp x.loc 8) (hol:∀x∈t,x.options.length≤6) {p k:Nat} (hp:p<t.length) (hk:k<t[p].options.length):
  ay Tryz.prog 113 [.slice s.a t.length s.fl,vi p,vi k] H fun x H'=>Sub H H'∧∃y a fl,Narrow t[p] k y∧x=.ret (.slice a t.length fl)∧TornIn H' a (t.set p y):=by
 refine an tok mix a2h (F:=a3y) (c:=_) rfl (n:=29) rfl (rs:= [.tmp 6]) rfl ?_
 obtain ⟨v2,H2,happ,o2,n2,f2,_⟩:=(bg.nil (H:=H) (N:=H.next) (ty:=88) (sz:=2) (enc:=bkv)).apps (fun _=>rfl) (fun _=>rfl) (by decide) t (Nat.le_refl _)
 simp only [List.nil_append] at o2
 have s2:Sub H H2:=⟨n2,fun g hg=>f2 g hg (by simp)⟩
 have hrs:=hT.e.readS
 obtain ⟨a2,c2,rfl⟩:=o2.slice
 have q1:32*t.length≤1000000:=by omega
 have q2:t.length≤1000000:=by omega
 have hm:=List.getElem_mem hp
 obtain ⟨b,hb,hbl,hrd⟩:=(hT.mono s2).e.at p hp
 obtain ⟨bo,hbo,hbol,hro⟩:=((hT.mono s2).o _ hm).at k hk
 have hfl:t[p].loc.fl=8:=by
  rcases hO _ hm with ⟨h,_⟩|⟨a,_,h⟩
  ·rw [hbo] at h; cases h
  ·exact h
 have hol':=hol _ hm
 cases a2 with
 |none=>
  have:=(o2.elems' (fun _=>rfl)).nil rfl
  rw [this] at hp
  simp at hp
 |some a2=>
  have hpI:(p:Int)<t.length:=by omega
  have hkI:(k:Int)+1≤t[p].options.length:=by omega
  let y:Torn:=⟨⟨some (ku bo (k*8)),8⟩,t[p].event,[t[p].options[k]]⟩
  obtain ⟨H3,hw,o3,n3,f3⟩:=o2.wr (fun _=>rfl) (i:=p) (k:=0) hp (c:=vi t[p].event) (new:= [.slice (some (ku bo (k*8))) 1 8]) (by simp) (y:=y) (by simp [splice,y])
  have hbk:=(o2.blk_lt o2.blk_some).1
  rw [hb,a7i] at hrs
  have hgb:ez (some (vi k)) (some (vi ((k:Int)+1))) t[p].options.length=some (k,k+1):=by
   rw [gbound_both _ _ _ _ _ (by omega) (by omega)]
   congr 2
  have h1k:k+1 - k=1:=by omega
  simp (disch:=omega) [hb,hrs,happ,q1,q2,hrd,hbo,hfl,aj,hpI,hkI,hgb,h1k,hw]
  refine ⟨⟨by omega,fun g hg=>by rw [f3 g (by omega),s2.2 g hg]⟩,y,⟨rfl,?_⟩,o3.elems' (fun _=>rfl),fun x hx=>?_⟩
  ·rw [List.getD_eq_getElem?_getD,List.getElem?_eq_getElem hk]; rfl
  ·have s3:Sub H H3:=⟨by omega,fun g hg=>by rw [f3 g (by omega),s2.2 g hg]⟩
   rcases List.mem_or_eq_of_mem_set hx with hx|rfl
   ·exact (hT.mono s3).o x hx
   ·have h1:=(hT.mono s3).o _ hm
    rw [hbo] at h1
    have h2:=(h1.drop k (by omega)).takeN 1 (by rw [List.length_drop]; omega)
    rwa [List.drop_eq_getElem_cons hk] at h2
theorem most_con {H:GH} {l:BLoc} {b:Book} (hb:BookIn H l b) (hB:aq b=true) {s:SLoc} {t:List Torn} (hT:TornIn H s.a t) (hl:t.length≤5) (hO:∀x∈t,awp x.loc 8) (ht:iw b t=true) (hol:∀x∈t,1≤x.options.length∧x.options.length≤4) (hcl:(goodL b t).length≤64) {p:Nat} (hp:p<t.length):
  C 61 [dl l b,.slice s.a t.length s.fl,vi p] H (vi (outK (goodL b t) p t[p].options.length)) H:=by
 rcases l with ⟨⟨⟨ra,rf⟩⟩,⟨oa,of'⟩,⟨va,vf⟩⟩
 refine au tok mix baa (F:=g61) (c:=_) rfl (n:=40) rfl (rs:= [.tmp 6]) rfl (ac rfl) ?_
 simp
 generalize hH1:GH.push H _=H1
 have hs1:Sub H H1:=by subst hH1; exact Sub.push (.refl H) _
 have k1:H1.get H.next=some (.arr { cells:=bq ⟨⟨⟨ra,rf⟩⟩,⟨oa,of'⟩,⟨va,vf⟩⟩ b,ty:=28 }):=by subst hH1; simp
 have hn1:H1.next=H.next+1:=by subst hH1; simp
 clear hH1
 have hm:=List.getElem_mem hp
 have h4:=hol _ hm
 have hpI:(p:Int)<t.length:=by omega
 refine cv tok mix (by kernel_rfl) t[p].options.length (fun k ρ m H'=>ρ 1=.slice s.a t.length s.fl∧ρ 2=vi p∧ρ 3=.pointer (some (ga H.next 0 0))∧ρ 7=vi (outK (goodL b t) p k)∧ρ 8=vi k∧m= []∧Sub H1 H') (i0:=0) (by omega) ⟨by simp,by simp,by simp,by simp [outK],by simp,rfl,.refl _⟩ ?_
 rintro k ρ m H2 hk ⟨e1,e2,e3,e7,e8,rfl,hs2⟩
 have k2:=(hs2.2 H.next (by omega)).trans k1
 have hs12:=hs1.trans hs2
 obtain ⟨a,ha,hal,hrd⟩:=(hT.mono hs12).e.at p hp
 have hT2:=hT.mono hs12
 simp (disch:=omega) [e1,e2,e8,ha,hrd,hpI]
 refine ba (fun hlt=>?_) (fun hge=>?_)
 ·have hltI:(k:Int)<t[p].options.length:=by omega
  simp (disch:=omega) [e1,e2,e3,e8,k2,hltI]
  refine (narrowed_con hT2 hl hO (fun x hx=>by have:=hol x hx; omega) hp hlt).mono ?_
  rintro x H3 ⟨s3,y,a3,fl3,hy,rfl,hT3⟩
  have k3:=(s3.2 H.next (by have:=hs2.1; omega)).trans k2
  have hev:bv b t[p].options[k]=true:=torn_event ht hm (List.getElem_mem hlt)
  have hopt:y.options= [t[p].options[k]]:=by rw [hy.2,List.getD_eq_getElem?_getD,List.getElem?_eq_getElem hlt]; rfl
  have hset:=areTorn_set (y:=y) ht hp hy.1 (by rw [hopt]; simp) (by rw [hopt]; intro e he; simp at he; subst he; exact hev)
  have hlen:(t.set p y).length=t.length:=List.length_set ..
  have hr:ab0 b (t.set p y)=((cntK (goodL b t) p k (goodL b t).length:Int),0):=by
   simp only [ab0,hB,hset,Bool.and_self,if_true,truths_good,good_narrow hp hlt hy,cntK,List.take_length]
  have hle:=cntK_le (cs:=goodL b t) (p:=p) (k:=k) (n:=(goodL b t).length)
  have hob:=outK_bd (cs:=goodL b t) (p:=p) k
  have tc_:=akc ⟨⟨⟨ra,rf⟩⟩,⟨oa,of'⟩,⟨va,vf⟩⟩ b (t.set p y) (by omega) a3 fl3 H3 (hb.mono (hs12.trans s3)) hT3
  rw [hr,hlen] at tc_
  simp (disch:=omega) [e1,e2,e3,e8,k2,k3]
  refine tc_.go ?_
  have ho:outK (goodL b t) p (k+1)=if outK (goodL b t) p k<(cntK (goodL b t) p k (goodL b t).length:Nat) then ((cntK (goodL b t) p k (goodL b t).length:Nat):Int) else outK (goodL b t) p k:=rfl
  generalize cntK (goodL b t) p k (goodL b t).length=cn at*
  have c0:¬(cn:Int)<0:=by omega
  simp (disch:=omega) [e1,e2,e3,e7,e8,k3,c0,aj,hltI]
  exact ⟨hlt,ha,ho.symm,hs2.trans s3⟩
 ·have:k=t[p].options.length:=by omega
  subst this
  simp (disch:=omega) [e7]
  exact hs1.trans hs2
theorem rival_law {H:GH} {l:BLoc} {b:Book} (hb:BookIn H l b) (hfx:FxOk H.fx) {s:SLoc} {t:List Torn} (hT:TornIn H s.a t) (hs:awp s 2) (hO8:∀x∈t,awp x.loc 8) (other:Int):C 16 [dl l b,.slice s.a t.length s.fl,vi other] H (.bool true) H:=by
 refine au tok mix a9r (F:=g16) (c:=_) rfl (n:=121) rfl (rs:= [.tmp 6]) rfl (ac rfl) ?_
 rcases l with ⟨⟨⟨ra,rf⟩⟩,⟨oa,of'⟩,⟨va,vf⟩⟩
 simp
 generalize hH1:GH.push H _=H1
 have hs1:Sub H H1:=by subst hH1; exact Sub.push (.refl H) _
 have k0:H1.get H.next=some (.arr { cells:=bq ⟨⟨⟨ra,rf⟩⟩,⟨oa,of'⟩,⟨va,vf⟩⟩ b,ty:=28 }):=by subst hH1; simp
 have hn1:H1.next=H.next+1:=by subst hH1; simp
 have hf1:FxOk H1.fx:=by subst hH1; exact hfx
 have hb1:=hb.mono hs1
 have hT1:=hT.mono hs1
 clear hH1
 with_reducible refine (uc ⟨⟨⟨_,_⟩⟩,⟨_,_⟩,⟨_,_⟩⟩ b _ hb1).go ?_
 simp
 cases hsh:nw b
 ·simp
  refine (cx hf1).go ?_
  simp
  exact hs1
 obtain ⟨h15,h14,h8,h4⟩:=qv hsh
 simp
 refine (brief_con t s.a s.fl _ hT1).go ?_
 simp
 cases hbr:briefB t
 ·simp
  refine (cx hf1).go ?_
  simp
  exact hs1
 have hl5:=brief_le hbr
 simp [k0]
 with_reducible refine (py ⟨⟨⟨_,_⟩⟩,⟨_,_⟩,⟨_,_⟩⟩ b _ hb1 (by omega)).go ?_
 simp
 cases hB:aq b
 ·simp
  refine (cx hf1).go ?_
  simp
  exact hs1
 simp [k0]
 with_reducible refine (rTorn_con ⟨⟨⟨_,_⟩⟩,⟨_,_⟩,⟨_,_⟩⟩ b t (by omega) s.a s.fl _ hT1).go ?_
 simp
 cases ht:iw b t
 ·simp
  refine (cx hf1).go ?_
  simp
  exact hs1
 have hbo:=l8 hB
 obtain ⟨hO,hge1⟩:=torn_oks ht hbo.events
 have hop:∀x∈t,1≤x.options.length∧x.options.length≤4:=fun x hx=>⟨hge1 x hx,hO.op x hx⟩
 have hcl:=good_len (b:=b) (choices_le hO.len hO.op)
 have hl3:=hO.len
 by_cases ho0:other<0
 ·simp [ho0]
  refine (cx hf1).go ?_
  simp
  exact hs1
 obtain ⟨o,rfl⟩:∃o:Nat,other=o:=⟨other.toNat,by omega⟩
 by_cases hol:t.length≤o
 ·have holI:(t.length:Int)≤o:=by omega
  simp [ho0,hol,holI]
  refine (cx hf1).go ?_
  simp
  exact hs1
 have holI:¬(t.length:Int)≤o:=by omega
 have c1:ab0 b t=(((goodL b t).length:Int),0):=by simp [ab0,hB,ht,truths_good]
 simp [ho0,hol,holI,k0]
 with_reducible refine (akc ⟨⟨⟨_,_⟩⟩,⟨_,_⟩,⟨_,_⟩⟩ b t (by omega) s.a s.fl _ hb1 hT1).go ?_
 rw [c1]
 simp [k0]
 with_reducible refine (aqq ⟨⟨⟨_,_⟩⟩,⟨_,_⟩,⟨_,_⟩⟩ b t (by omega) s.a s.fl _ hb1 hT1).go ?_
 have n0:¬((goodL b t).length:Int)<0:=by omega
 by_cases d0:(goodL b t).length=0
 ·have:uv b t=(0,0,7):=by simp [uv,hB,ht,truths_good,d0]
  simp [this,d0]
  refine (cx hf1).go ?_
  simp
  exact hs1
 by_cases d1:(goodL b t).length=1
 ·have:uv b t=(0,0,5):=by simp [uv,hB,ht,truths_good,d1]
  simp [this,d1]
  refine (cx hf1).go ?_
  simp
  exact hs1
 have ht0:t.length≠0:=by omega
 obtain ⟨m,hm⟩:∃m,t.length=m+1:=⟨t.length - 1,by omega⟩
 have hpl:oz b t=(List.range (m+1)).map fun (i:Nat)=>((i:Int),outK (goodL b t) i 4):=by
  unfold oz
  rw [hm]
  congr 1
  funext i
  rw [left_eq]
 have hlr:uv b t=(((lookN (fun i=>outK (goodL b t) i 4) t.length:Nat):Int),outK (goodL b t) (lookN (fun i=>outK (goodL b t) i 4) t.length) 4,0):=by
  simp only [uv,hB,ht,Bool.and_self,if_true,truths_good,d0,d1,if_false]
  rw [hpl,best_look,hm]
 have hat:=lookN_le (fun i=>outK (goodL b t) i 4) t.length
 have hmin:=lookN_min (fun i=>outK (goodL b t) i 4) t.length o (by omega)
 have h64:(goodL b t).length≤64:=by omega
 have hmost:=fun p (hp:p<t.length)=>most_con hb1 hB hT1 hl5 hO8 ht hop h64 (p:=p) hp
 have hstop:∀p (hp:p<t.length),outK (goodL b t) p t[p].options.length=outK (goodL b t) p 4:=fun p hp=>(outK_stop hp 4 (hop _ (List.getElem_mem hp)).2).symm
 have n2:¬((goodL b t).length:Int)<2:=by omega
 rw [hlr]
 generalize lookN (fun i=>outK (goodL b t) i 4) t.length=at_ at*
 have hatI:¬(t.length:Int)≤at_:=by omega
 have hat0:¬(at_:Int)<0:=by omega
 have hm1:=hmost at_ (by omega)
 have hm2:=hmost o (by omega)
 rw [hstop] at hm1 hm2
 generalize outK (goodL b t) at_ 4=x at*
 generalize outK (goodL b t) o 4=y at*
 simp (disch:=omega) [d0,d1,n0,n2,hatI,hat0,k0]
 refine hm1.go ?_
 simp (disch:=omega) [k0]
 refine hm2.go ?_
 by_cases e1:x<y
 ·simp (disch:=omega) [e1]
  refine (cx hf1).go ?_
  simp
  exact hs1
 ·have e2:y=x:=by omega
  have e3:(at_:Int)≤o:=by have:=hmin.2 e2; omega
  have e4:at_≤o:=by omega
  subst e2
  simp (disch:=omega) [e3,e4]
  refine (cx hf1).go ?_
  simp
  exact hs1
end Go.Gm.Tryz
end
section
namespace Go.Gm.Tryz
open Go.Proofs
theorem fitTorn:Fit Tryz.prog bnc 88:=.struct Tryz.underlying88 (by kernel_rfl) (.cons rfl (by kernel_rfl) rz (.cons rfl (by kernel_rfl) (.slice Tryz.underlying26 (by kernel_rfl) (by decide) a9k) .nil))
theorem fitTorns:Fit Tryz.prog (.slice bnc) 72:=.slice Tryz.underlying72 (by kernel_rfl) (by decide) fitTorn
theorem lie_torn (H:GH) (cs:List Value) (h:Lie H bnc cs):∃x:Torn,cs=bkv x∧(Elems H x.loc.a 8 jb x.options∧awp x.loc 8):=by
 obtain ⟨_,_,rfl,h1,h⟩:=ec h
 obtain ⟨_,_,rfl,h2,h⟩:=ec h
 obtain rfl:_= []:=h
 obtain ⟨n,rfl⟩:=ew h1
 obtain ⟨s,l,rfl,e,k⟩:=zm (sz:=8) rfl (fun _=>rfl) (a5v H) h2
 exact ⟨⟨s,n,l⟩,rfl,e,k⟩
theorem lie_elemsP {α:Type} {H:GH} {e:DT} {enc:α→List Value} {sz:Nat} {P:α→Prop} (hsz:e.sz=sz) (hl:∀x,(enc x).length=sz) (hdec:∀cs,Lie H e cs→∃x,cs=enc x∧P x) {cs:List Value} (h:Lie H (.slice e) cs):
  ∃(s:SLoc) (l:List α),cs= [.slice s.a l.length s.fl]∧Elems H s.a sz enc l∧awp s sz∧∀x∈l,P x:=by
 subst hsz
 rcases h with rfl|⟨a,ls,rfl,hb,hr,hx⟩
 ·exact ⟨⟨none,0⟩,[],rfl,⟨hl,fun c hc=>(by cases hc),fun _=>rfl⟩,.inl ⟨rfl,rfl⟩,fun x hx=>by cases hx⟩
 ·have hex:∃l:List α,ls=l.map enc∧∀x∈l,P x:=by
   clear hr
   induction ls with
   |nil=>exact ⟨[],rfl,fun x hx=>by cases hx⟩
   |cons c ls ih=>
    obtain ⟨l,rfl,hp⟩:=ih fun x hxm=>hx x (List.mem_cons_of_mem _ hxm)
    obtain ⟨x,rfl,hq⟩:=hdec c (hx c (List.mem_cons_self ..)).2
    refine ⟨x::l,rfl,fun y hy=>?_⟩
    rcases List.mem_cons.1 hy with rfl|hy
    ·exact hq
    ·exact hp y hy
  obtain ⟨l,rfl,hP⟩:=hex
  refine ⟨⟨some a,e.sz⟩,l,by simp,⟨hl,fun c hc=>?_,fun hc=>by cases hc⟩,.inr ⟨a,rfl,rfl⟩,hP⟩
  cases hc
  rw [List.length_map] at hr
  exact ⟨hb,by rw [hr,List.flatMap_def]⟩
theorem lie_torns {H:GH} {cs:List Value} (h:Lie H (.slice bnc) cs):∃(s:SLoc) (t:List Torn),ahz (.slice bnc) cs=.slice s.a t.length s.fl∧TornIn H s.a t∧awp s 2∧∀x∈t,awp x.loc 8:=by
 obtain ⟨s,l,rfl,e,k,hp⟩:=lie_elemsP (sz:=2) (P:=fun x:Torn=>Elems H x.loc.a 8 jb x.options∧awp x.loc 8) rfl (fun _=>rfl) (lie_torn H) h
 exact ⟨s,l,rfl,⟨e,fun x hx=>(hp x hx).1⟩,k,fun x hx=>(hp x hx).2⟩
end Go.Gm.Tryz
end
section
namespace Go.Gm.Tryz
open Go.Proofs Go.Proofs.YtmnfgajihkfahaaGreatDoor Go.RowKit
theorem grantRival_spec:LawSpec Rows.grantRivalSpec 3:=⟨rfl,fun H xs h=>by
 match xs,h with
 | [_,_,_],_=>rfl⟩
set_option maxRecDepth 100000 in
theorem grantRival_lifted (os:Os) (started:os.Started) (H:Type) (enc:TypeId×Value→H):
  ReturnsInHanded {} Tryz.checked os 16 .any (fun w args=>(Rows.grantRivalSpec.pre enc Tryz.prog Tryz.f16 [] false w args∧laidMetH Tryz.prog li w)∧sizedMet enc Tryz.prog Tryz.f16 (OpenSpec.ofChange Rows.grantRivalSpec) false w args)
   (Rows.grantRivalSpec.post enc Tryz.prog Tryz.f16 false true false false):=by
 refine fk (C:=Tryz.checked) (X:=fun w _=>laidMetH Tryz.prog li w) (fun _ _ _ hh h=>h.of_heap hh) own started (by kernel_rfl) Tryz.func16
  (ChangeSpec.witness_shaped (enc:=enc) (C:=Tryz.checked) (os:=os) (X:=fun w _=>laidMetH Tryz.prog li w) false (World.laidAll Tryz.prog os li) #[.agg #[.slice none 0 0,.int .i64 0,.int .i64 0,.int .i64 0,.int .i64 0,.slice none 0 0,.slice none 0 0],.slice none 0 0,.int .i64 0] 9 (World.laidAll_os _ _ _)
   (World.shaped_of_ZipB (by kernel_rfl) (by kernel_rfl)) (by kernel_rfl) (by kernel_rfl) (by kernel_rfl)
   (by rw [MakeChecks.laidMetH_plain _ _ _ (by kernel_rfl)]; exact laidMet_laidAll _ (by kernel_rfl) (by kernel_rfl))) ?_
 intro W base args ds gs before hsh hval _ hw hL
 obtain ⟨fx,hfx,hok,hW⟩:=anh hL hsh
 refine tw (P:=Tryz.prog) (fn:=Tryz.f16) (ds:= [sh,.slice bnc,dI]) abw (by rw [Tryz.params16]; exact .cons abt (.cons fitTorns (.cons rz .nil))) (by kernel_rfl) Tryz.underlying4 (by
  rw [Tryz.params16]
  intro t ht
  have hall:([28,72,3].all fun t=>Tryz.prog.readableRec t&&decide (t<Tryz.prog.types.size))=true:=by kernel_rfl
  have:=List.all_eq_true.1 hall t (by simpa using ht)
  simpa using this) grantRival_spec hW hfx ?_ hval hw
 intro G gss hG hLie
 have hfG:FxOk G.fx:=by rw [hG]; exact hok
 cases hLie with
 |cons h1 h2=>
 cases h2 with
 |cons h2 h3=>
 cases h3 with
 |cons h3 h4=>
 cases h4
 obtain ⟨l,b,e,hb,_,_,k3⟩:=yb h1
 obtain ⟨s,t,e2,ht,k,k8⟩:=lie_torns h2
 obtain ⟨n,rfl⟩:=ew h3
 show ay Tryz.prog 16 [ahz sh _,ahz (.slice bnc) _,vi n] G _
 rw [e,e2]
 exact (rival_law hb hfG ht k k8 n).mono fun x _ h=>h.1
theorem grantRival_inPlace:(Rows.grantRivalRow.inPlace==Tryz.prog.inPlace 16)=true:=by kernel_rfl
theorem grantRival_unf:(Rows.grantRivalRow.unfollowed==Tryz.prog.unfollowed 16)=true:=by kernel_rfl
theorem grantRival_rec:(Rows.grantRivalRow.recurses==Tryz.prog.recurses 16)=true:=by kernel_rfl
theorem grantRival_named:(Rows.grantRivalRow.named==Tryz.prog.varsNamed 16)=true:=by kernel_rfl
theorem grantRival_joined:joinedFacts Tryz.prog 16 Tryz.f16 Rows.grantRivalSpec Rows.grantRivalRow=true:=by
 unfold joinedFacts
 exact am (am (am (am (am (am (am (am (am (am (am (am (am (am (am (am (am (am (am (am (am (am (am (am (am (am (am (am (am (am (am (by kernel_rfl) (by kernel_rfl)) (by kernel_rfl)) (by kernel_rfl)) (by kernel_rfl)) (by kernel_rfl)) (by kernel_rfl)) (by kernel_rfl)) (by kernel_rfl)) grantRival_inPlace) grantRival_unf) grantRival_rec) grantRival_named) (by kernel_rfl)) (by kernel_rfl)) (by kernel_rfl)) (by kernel_rfl)) (by kernel_rfl)) (by kernel_rfl)) (by kernel_rfl)) (by kernel_rfl)) (by kernel_rfl)) (by kernel_rfl)) (by kernel_rfl)) (by kernel_rfl)) af9) (by rw [agc]; exact beq_self_eq_true _)) (by rw [anr]; exact beq_self_eq_true _)) (by kernel_rfl)) (by kernel_rfl)) (by kernel_rfl)) (by kernel_rfl)
theorem grantRival_holds:Rows.GrantRivalSaid:=
 OpenClaim.holds_of_wide 16 Tryz.f16 rfl rfl rfl rfl rfl rfl rfl ⟨rfl,rfl,rfl,rfl,rfl⟩ rfl rfl rfl rfl rfl (by kernel_rfl) Tryz.func16 grantRival_joined
  (of_decide_eq_true (by kernel_rfl)) (by unfold Func.isWrapper; first|(rw [if_pos (by decide+kernel)]; kernel_rfl)|(rw [if_neg (by decide+kernel)]; exact ⟨rfl,rfl⟩))
  (fun os started H enc _=>grantRival_lifted os started H enc)
end Go.Gm.Tryz
namespace Go.Proofs.YtmnfgajihkfahaaGreatDoor
open Go.Gm.Tryz
set_option maxRecDepth 100000 in
theorem grantRival_card_holds:Rows.GrantRivalCardSaid:=
 Claim7.holds_tied_plain_at .later [] [.data,.data,.data,.data,.pinned] true (true, "c50a2473247fd563652536c5189614d6c43fc7c925362f406516d21693885498") true
  grantRival_holds (fun _ h=>by cases h) (by kernel_rfl) (fun _ h=>by cases h) grantRival_row_tie rfl ⟨rfl,rfl⟩ anq rfl
  (fun f fn hf hfn=>by
   obtain rfl:f=16:=Option.some.inj ((show Tryz.prog.funcNamed "quinaria/quinarialaw06.GrantRival"=some 16 by kernel_rfl).symm.trans hf)|>.symm
   obtain rfl:fn=Tryz.f16:=(Option.some.inj (Tryz.func16.symm.trans hfn)).symm
   exact ⟨agv,fun j t ht=>by
    rw [Tryz.params16] at ht
    have hm:t∈ [28,72,3]:=by simpa using Array.mem_of_getElem? ht
    have hall:([28,72,3].all fun u=> !Tryz.prog.wantsStandIn u)=true:=by kernel_rfl
    exact (show Tryz.prog.wantsStandIn t=false by simpa using List.all_eq_true.1 hall t hm)⟩)
  (by kernel_rfl)
end Go.Proofs.YtmnfgajihkfahaaGreatDoor
end
end
