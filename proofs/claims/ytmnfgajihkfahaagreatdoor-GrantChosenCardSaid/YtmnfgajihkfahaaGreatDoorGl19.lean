/- The function GrantChosen, called with any register, any person, any system, any day and any sets, returns true, and never panics: by the model of the language, for every input that the card fits, and under the card's conditions alone. -/
import Derived.Test.YtmnfgajihkfahaaGreatDoorBc6
import Derived.Test.YtmnfgajihkfahaaGreatDoorTie
noncomputable section
section
namespace Go.Gm.Tryz
open Go.Proofs
@[simp] theorem bjm:ah 13 g19.plans=some [(0,[]),(1,[]),(2,[]),(3,[]),(4,[]),(5,[]),(6,[]),(7,[]),(8,[]),(9,[]),(10,[]),(11,[]),(12,[]),(13,[]),(14,[]),(15,[]),(16,[]),(17,[]),(18,[]),(19,[]),(20,[]),(21,[]),(22,[]),(23,[]),(24,[]),(25,[]),(27,[]),(28,[]),(29,[]),(30,[]),(31,[]),(26,[31]),(32,[]),(33,[])]:=ai rfl
@[simp] theorem bjn:ah 15 g19.plans=some [(0,[]),(1,[]),(2,[]),(3,[]),(4,[]),(5,[]),(6,[]),(7,[]),(8,[]),(9,[]),(10,[]),(11,[]),(12,[])]:=ai rfl
@[simp] theorem bjo:ah 18 g19.plans=some [(0,[]),(1,[]),(2,[]),(3,[]),(4,[]),(5,[]),(6,[]),(7,[]),(8,[]),(9,[]),(10,[]),(11,[]),(12,[]),(13,[]),(14,[]),(15,[]),(16,[]),(17,[]),(18,[])]:=ai rfl
@[simp] theorem blr:ah 4 g64.plans=some [(0,[]),(1,[]),(2,[]),(3,[]),(4,[]),(5,[]),(6,[]),(7,[]),(8,[]),(9,[]),(10,[]),(11,[]),(12,[]),(13,[]),(14,[]),(15,[]),(16,[]),(17,[]),(18,[]),(19,[]),(20,[]),(21,[]),(22,[]),(23,[]),(24,[]),(25,[])]:=ai rfl
end Go.Gm.Tryz
end
section
namespace Go.Gm.Tryz
open Go.Proofs
theorem Wg_up {b:Book} (hB:aq b=true) {d:Int} {u:Stand} (h:upS b d=.inr u):Wg b u:=by
 have hbo:=l8 hB
 have h12:=hbo.events
 have h6:=hbo.owners
 obtain ⟨n,t,h1,h2,rfl⟩:=av3 (I:=fun done s=>J b done s∧Wg b s) ⟨J.start hB,Wg.start b⟩ (fun n hn s _ ⟨hJ,hW⟩ hg=>by
  have hJ':=hJ.pass b.events[n].day
  have ho:=hJ'.ow
  have hlen:(b.events.take n).length=n:=by simp; omega
  have hev:=xk (s:=pass b s b.events[n].day) hbo.persons hJ'.ll (hbo.ev n hn)
  exact ⟨(hJ'.do_ hbo (hbo.ev n hn) hg (abr hn) hn (by omega) (by omega)).serve,((hW.pass _).do_ (hbo.ev n hn) hg hev.kind hev.grant (abr hn)).serve⟩) h
 exact h2.2.pass d
end Go.Gm.Tryz
end
section
namespace Go.Gm.Tryz
open Go.Proofs
theorem zt {b:Book} (h:nt b=true):aq b=true∧dw b=none:=by
 simp only [nt,Bool.and_eq_true,Option.isNone_iff_eq_none] at h
 exact h
theorem qv {b:Book} (h:nw b=true):b.tbl.rows.length≤15∧b.events.length≤14∧b.owners.length≤8∧(aq b=true→b.tbl.rows.length≤4):=by
 have h':=h
 simp [nw] at h'
 refine ⟨by omega,by omega,by omega,fun hB=>?_⟩
 have ht:=xj hB
 simp [ht] at h'
 omega
end Go.Gm.Tryz
end
section
namespace Go.Gm.Tryz
open Go.Proofs
structure Wa (b:Book) (s:Stand):Prop where
 gw:∀g∈s.grants,g.is≠3→0≤ct b.tbl g.system g.units
 fr:ads b s≤b.supply
 ww:∀w∈s.waits,0≤ct b.tbl (db b w).system (db b w).units
 ln:s.grants.length+s.waits.length≤100
section
variable {b:Book} {s:Stand}
end
def Srv (b:Book) (s:Stand):Prop:=∀w ws,s.waits=w::ws→mr b s<ct b.tbl (db b w).system (db b w).units
end Go.Gm.Tryz
end
section
namespace Go.Gm.Tryz
open Go.Proofs
structure Fe (b:Book) (d:Int) (s:Stand):Prop where
 cnt:∀i:Nat,(s.fell.map Prod.fst).count (i:Int)=if i<s.grants.length∧(gAt s i).is=3 then 1 else 0
 rng:∀p∈s.fell,0≤p.1∧0≤p.2∧p.2≤d
section
variable {b:Book} {s:Stand} {d:Int} {done:List Ev}
def Lo (m:Int) (s:Stand):Prop:=∀i,i<s.grants.length→(gAt s i).is=2→m≤bl s i
end
structure Kp (u:List (Int×Int)) (m:Int) (s:Stand):Prop where
 ln:s.last.length=s.grants.length
 lo:Lo m s
 fe:∃more,s.fell=u++more∧∀p∈more,m<p.2
section
variable {b:Book} {s:Stand} {u:List (Int×Int)} {m:Int}
end
end Go.Gm.Tryz
end
section
namespace Go.Gm.Tryz
open Go.Proofs
def diedTo (b:Book) (p d:Int) (i:Nat):Bool:=(b.events.take i).any fun e=>decide (e.kind=3∧e.day≤d∧e.person=p)
end Go.Gm.Tryz
end
section
namespace Go.Gm.Tryz
open Go.Proofs
def anyTo (f:Ev→Bool) (l:List Ev) (i:Nat):Bool:=(l.take i).any f
end Go.Gm.Tryz
end
section
namespace Go.Gm.Tryz
open Go.Proofs
def usedTo (b:Book) (l:List GSt) (i:Nat):Int:=((l.take i).map (td b)).sum
end Go.Gm.Tryz
end
section
namespace Go.Gm.Tryz
open Go.Proofs
def cntL (n:Nat) (xs:List Int) (i:Nat):List Int:=(List.range n).map fun k:Nat=>(((xs.take i).count (k:Int):Nat):Int)
end Go.Gm.Tryz
end
section
namespace Go.Gm.Tryz
open Go.Proofs
def turnF (t:Tbl) (s u:Int) (k:Nat):Option (Int×Int):=(((bp t.rows.length).take k).filter fun x=>decide (cp t s x=u)).foldl (ny t s) none
def spanC (o:Option (Int×Int)):List Value:= [vi (o.getD (0,0)).1,vi (o.getD (0,0)).2]
theorem turnR_span {t:Tbl} {sys u:Int} (h:gi t sys u=true):((rq t sys u).1,(rq t sys u).2.1)=(an4 t sys u).getD (0,0):=by
 unfold rq
 rw [if_pos h]
 cases an4 t sys u<;>rfl
def accAt (b:Book) (s:Stand) (person sys:Int) (i:Nat):Int×Int:=(s.grants.take i).foldl (jf b person sys) (0,0)
theorem accAt_zero {b:Book} {s:Stand} {person sys:Int}:accAt b s person sys 0=(0,0):=rfl
theorem accAt_all {b:Book} {s:Stand} {person sys:Int}:accAt b s person sys s.grants.length=a04 b s person sys:=by rw [accAt,List.take_length]; rfl
theorem accAt_succ {b:Book} {s:Stand} {person sys:Int} {i:Nat} (h:i<s.grants.length):accAt b s person sys (i+1)=jf b person sys (accAt b s person sys i) s.grants[i]:=by
 unfold accAt
 rw [List.take_succ_eq_append_getElem h,List.foldl_append]
 rfl
theorem span_eql (a b c d:Int):dx T .eql 66 (.agg #[vi a,vi b]) (.agg #[vi c,vi d])=some (.bool (decide (a=c∧b=d))):=by
 have e:jq T 66 (.agg #[vi a,vi b]) (.agg #[vi c,vi d])=some (decide (a=c∧b=d)):=by
  simp [jq,cq,fi]
  rw [Bool.eq_iff_iff]; simp
 simp [dx,e]
end Go.Gm.Tryz
end
section
namespace Go.Gm.Tryz
open Go.Proofs
theorem sorted_pair {l:List Int} (h:jo l=true):l.Pairwise (· ≤ ·):=by
 unfold jo at h
 rw [List.all_eq_true] at h
 have adj_:∀j,j+1<l.length→l.getD j 0≤l.getD (j+1) 0:=fun j hj=>by
  have:=h j (List.mem_range.2 (by omega))
  simpa using this
 have far:∀d i,i+d<l.length→l.getD i 0≤l.getD (i+d) 0:=by
  intro d
  induction d with
  |zero=>intro i _; exact Int.le_refl _
  |succ d ih=>intro i hi; exact Int.le_trans (ih i (by omega)) (adj_ (i+d) (by omega))
 rw [List.pairwise_iff_getElem]
 intro i j hi hj hij
 have:=far (j - i) i (by omega)
 rw [show i+(j - i)=j by omega,bc hi,bc hj] at this
 exact this
theorem setsFrom_intro {m:Nat}:∀ {ext now:List Int},(∀x∈ext,0≤x∧x<m)→(now.getLast?.getD 0::ext).Pairwise (· ≤ ·)→now++ext∈bf m ext.length now:=by
 intro ext
 induction ext with
 |nil=>intro now _ _; simp [bf]
 |cons x xs ih=>
  intro now h hp
  have hx:=h x (List.mem_cons_self ..)
  rw [List.pairwise_cons] at hp
  have h1:=hp.1 x (List.mem_cons_self ..)
  simp only [List.length_cons,bf,List.mem_flatMap]
  refine ⟨x.toNat,List.mem_range'_1.2 ⟨?_,?_⟩,?_⟩
  ·unfold fp; omega
  ·unfold fp; omega
  ·rw [Int.toNat_of_nonneg hx.1]
   have:=ih (now:=now++ [x]) (fun y hy=>h y (List.mem_cons_of_mem _ hy)) (by simpa using hp.2)
   simpa using this
theorem all_of_set {t:Tbl} {l:List Int} (h:pi t l=true):l∈bp t.rows.length:=by
 have h1:=avn h
 have h2:jo l=true:=by
  simp only [pi,Bool.and_eq_true] at h
  exact h.1.2
 unfold bp
 rw [List.mem_flatMap]
 refine ⟨l.length,List.mem_range.2 (by have:=h1.1; omega),?_⟩
 have:=setsFrom_intro (m:=t.rows.length) (ext:=l) (now:= []) h1.2 (List.pairwise_cons.2 ⟨fun x hx=>(h1.2 x hx).1,sorted_pair h2⟩)
 simpa using this
theorem turn_fold {t:Tbl} {sys:Int}:∀(L:List (List Int)) (o:Option (Int×Int)),(∀x∈L,0≤cp t (ns sys) x∧cp t (ns sys) x≤360)→(∀p,o=some p→0≤p.1∧p.2≤360)→(o=none→L≠ [])→
  ∃p,L.foldl (ny t sys) o=some p∧0≤p.1∧p.2≤360∧(∀q,o=some q→p.1≤q.1∧q.2≤p.2)∧∀x∈L,p.1≤cp t (ns sys) x∧cp t (ns sys) x≤p.2:=by
 intro L
 induction L with
 |nil=>
  intro o _ ho hn
  cases o with
  |none=>exact absurd rfl (hn rfl)
  |some p=>
   have:=ho p rfl
   refine ⟨p,rfl,this.1,this.2,fun q hq=>?_,fun x hx=>by cases hx⟩
   cases hq
   exact ⟨Int.le_refl _,Int.le_refl _⟩
 |cons x L ih=>
  intro o hb ho hn
  have hx:=hb x (List.mem_cons_self ..)
  obtain ⟨p,h1,h2,h3,h4,h5⟩:=ih (ny t sys o x) (fun y hy=>hb y (List.mem_cons_of_mem _ hy)) (fun p hp=>by
   cases o with
   |none=>simp only [ny] at hp; cases hp; exact hx
   |some q=>
    have hq:=ho q rfl
    simp only [ny] at hp
    cases hp
    simp only
    constructor<;>split<;>omega) (fun hc=>by cases o<;>simp [ny] at hc)
  refine ⟨p,h1,h2,h3,fun q hq=>?_,fun y hy=>?_⟩
  ·subst hq
   have:=h4 _ rfl
   simp only at this
   constructor
   ·have:=this.1; split at this<;>omega
   ·have:=this.2; split at this<;>omega
  ·rcases List.mem_cons.1 hy with rfl|hy
   ·cases o with
    |none=>exact h4 _ rfl
    |some q=>
     have:=h4 _ rfl
     simp only at this
     constructor
     ·have:=this.1; split at this<;>omega
     ·have:=this.2; split at this<;>omega
   ·exact h5 y hy
theorem other_of {a b:Int} (ha:bj a=true) (hb:bj b=true) (h:a≠b):ns a=b:=by
 simp only [bj,decide_eq_true_eq] at ha hb
 unfold ns
 omega
theorem holdN_bd {b:Book} {sys:Int} {g:GSt} {set:List Int} (ht:ce b.tbl=true) (hs:bj sys=true) (hg:bj g.system=true) (hset:pi b.tbl set=true) (hc:cp b.tbl g.system set=g.units):
  0≤(ann b sys g).1∧(ann b sys g).1≤cp b.tbl sys set∧cp b.tbl sys set≤(ann b sys g).2∧(ann b sys g).2≤360∧0≤g.units∧g.units≤360∧(g.system=sys→ann b sys g=(g.units,g.units)):=by
 have ho:=avn hset
 have b1:=acf ht ho sys
 have b2:=acf ht ho g.system
 rw [hc] at b2
 unfold ann
 by_cases h:g.system=sys
 ·rw [if_pos h]
  rw [h] at hc
  simp only [hc]
  exact ⟨b2.1,Int.le_refl _,Int.le_refl _,b2.2,b2.1,b2.2,fun _=>trivial⟩
 ·rw [if_neg h]
  have hsa:gi b.tbl g.system g.units=true:=by
   simp only [gi,ht,hg,Bool.true_and,gz,inI,decide_eq_true_eq]
   exact b2
  have hm:set∈dd b.tbl g.system g.units:=by
   unfold dd
   rw [List.mem_filter]
   exact ⟨all_of_set hset,by simpa using hc⟩
  have hmem:∀x∈dd b.tbl g.system g.units,xd b.tbl x:=fun x hx=>p9 (List.mem_filter.1 hx).1
  obtain ⟨p,h1,h2,h3,_,h5⟩:=turn_fold (t:=b.tbl) (sys:=g.system) (dd b.tbl g.system g.units) none (fun x hx=>acf ht (hmem x hx) _) (fun p hp=>by cases hp) (fun _ hc=>by rw [hc] at hm; cases hm)
  have hsp:=turnR_span hsa
  have:an4 b.tbl g.system g.units=some p:=h1
  rw [this] at hsp
  have e1:=congrArg Prod.fst hsp
  have e2:=congrArg Prod.snd hsp
  simp only [Option.getD_some] at e1 e2
  have h6:=h5 set hm
  rw [other_of hg hs h] at h6
  simp only [e1,e2]
  exact ⟨h2,h6.1,h6.2,h3,b2.1,b2.2,fun hc=>absurd hc h⟩
structure Cho (A:Int×Int) (i:Nat) (n own:Int) (all:Bool):Prop where
 lo:0≤A.1∧A.1≤n
 hi:n≤A.2∧A.2≤360*i
 ow:0≤own∧own≤360*i
 all:all=true→A=(own,own)
theorem Cho.skip {A:Int×Int} {i:Nat} {n own:Int} {all:Bool} (h:Cho A i n own all):Cho A (i+1) n own all:=
 ⟨h.lo,⟨h.hi.1,by have:=h.hi.2; omega⟩,⟨h.ow.1,by have:=h.ow.2; omega⟩,h.all⟩
theorem Cho.step {b:Book} {s:Stand} {person sys:Int} {i:Nat} (hi:i<s.grants.length) (hi100:i≤100) {n own:Int} {all:Bool} (h:Cho (accAt b s person sys i) i n own all) {set:List Int} (ht:ce b.tbl=true) (hs:bj sys=true) (hg:bj s.grants[i].system=true) (hset:pi b.tbl set=true) (hc:cp b.tbl s.grants[i].system set=s.grants[i].units)
  (h1:s.grants[i].is=1) (h2:s.grants[i].person=person):Cho (accAt b s person sys (i+1)) (i+1) (n+cp b.tbl sys set) (own+s.grants[i].units) (all&&decide (s.grants[i].system=sys)):=by
 obtain ⟨a1,a2,a3,a4,a5,a6,a7⟩:=holdN_bd ht hs hg hset hc
 rw [accAt_succ hi]
 unfold jf
 rw [if_pos ⟨h1,h2⟩]
 obtain ⟨b1,b2⟩:=h.lo
 obtain ⟨b3,b4⟩:=h.hi
 obtain ⟨b5,b6⟩:=h.ow
 rw [aj _ (by omega) (by omega),aj _ (by omega) (by omega)]
 refine ⟨⟨by simp only; omega,by simp only; omega⟩,⟨by simp only; omega,by simp only; omega⟩,⟨by omega,by omega⟩,fun ha=>?_⟩
 simp only [Bool.and_eq_true,decide_eq_true_eq] at ha
 have e1:=h.all ha.1
 have e2:=a7 ha.2
 rw [e1,e2]
theorem Cho.stay {b:Book} {s:Stand} {person sys:Int} {i:Nat} (hi:i<s.grants.length) {n own:Int} {all:Bool} (h:Cho (accAt b s person sys i) i n own all) (hn:¬(s.grants[i].is=1∧s.grants[i].person=person)):Cho (accAt b s person sys (i+1)) (i+1) n own all:=by
 rw [accAt_succ hi]
 unfold jf
 rw [if_neg hn]
 exact h.skip
end Go.Gm.Tryz
end
section
namespace Go.Gm.Tryz
open Go.Proofs
theorem nCounts_con (l:TLoc) (t:Tbl) (ht:ce t=true) (s:Int) (hs:bj s=true) (set:List Int) (hset:pi t set=true) (a:Option Addr) (fl:Nat) (H:GH) (hT:gc H l t) (hr:Elems H a 1 ca set):
  C 66 [qx l t,vi s,.slice a set.length fl] H (.tuple #[vi (cp t s set),vi 0]) H:=by
 rcases l with ⟨⟨ra,rf⟩⟩
 refine au tok mix bac (F:=g66) (c:=_) rfl (n:=26) rfl (rs:= [.tmp 6,.tmp 7]) rfl (i8 (by simp; exact ⟨ac rfl,ac rfl⟩)) ?_
 simp
 generalize hH1:H.push _=H1
 have hs1:Sub H H1:=by subst hH1; simp
 have hg1:H1.get H.next=some (.arr { cells:= [.slice ra t.rows.length rf,vi t.draw],ty:=24 }):=by subst hH1; simp
 clear hH1
 have hr:=hr.mono hs1
 have hT:gc H1 _ _:=Elems.mono hT hs1
 refine (ov ⟨⟨ra,rf⟩⟩ t H1 hT).go ?_
 rw [ht]
 simp
 refine (ux _ _).go ?_
 rw [hs]
 simp [hg1]
 refine (ao6 ⟨⟨ra,rf⟩⟩ t (by have:=(kd ht).1; omega) set a fl H1 hr).go ?_
 rw [hset]
 simp [hg1]
 refine (acg ⟨⟨ra,rf⟩⟩ t ht s hs set (avn hset) a fl H1 hT hr).go ?_
 simp
 exact hs1
theorem sorted_bad {t:Tbl} {l:List Int} {i:Nat} (h0:0<i) (hi:i<l.length) (h:l[i]<l[i - 1]'(by omega)):pi t l=false:=by
 have:jo l=false:=by
  unfold jo
  rw [List.all_eq_false]
  refine ⟨i - 1,List.mem_range.2 (by omega),?_⟩
  rw [show i - 1+1=i by omega,bc hi,bc (show i - 1<l.length by omega)]
  simp
  exact h
 simp [pi,this]
theorem row_bad {t:Tbl} {l:List Int} {i:Nat} (hi:i<l.length) (h:wc t l[i]=false):pi t l=false:=by
 have:l.any (fun n=> !wc t n)=true:=List.any_eq_true.2 ⟨_,List.getElem_mem hi,by simp [h]⟩
 simp [pi,this]
theorem r3Set_con (l:TLoc) (t:Tbl) (ht:t.rows.length≤1000) (set:List Int) (hl:set.length≤9223372036854775807) (a:Option Addr) (fl:Nat) (H:GH) (hT:gc H l t) (hr:Elems H a 1 ca set):
  C 64 [qx l t,.slice a set.length fl] H (.bool (pi t set)) H:=by
 rcases l with ⟨⟨ra,rf⟩⟩
 refine au tok mix bab (F:=g64) (c:=_) rfl (n:=41) rfl (rs:= [.tmp 4]) rfl (ac rfl) ?_
 simp
 generalize hH1:H.push _=H1
 have hs1:Sub H H1:=by subst hH1; simp
 have hg1:H1.get H.next=some (.arr { cells:= [.slice ra t.rows.length rf,vi t.draw],ty:=24 }):=by subst hH1; simp
 clear hH1
 have hr:=hr.mono hs1
 refine cv tok mix (by kernel_rfl) set.length (fun i ρ m H'=>ρ 1=.slice a set.length fl∧ρ 2=.pointer (some (ga H.next 0 0))∧ρ 5=vi i∧m= []∧H'=H1∧∀j (h:j<set.length),j<i→wc t set[j]=true∧(0<j→set.getD (j - 1) 0≤set.getD j 0)) (i0:=0) (by omega) (by simp) ?_
 rintro i ρ m H' hi ⟨e1,e2,e5,rfl,rfl,hj⟩
 simp (disch:=omega) [e1,e5]
 refine ba (fun hlt=>?_) (fun hge=>?_)
 ·obtain ⟨b,rfl,_,hrd⟩:=hr.at i hlt
  have hltI:(i:Int)<set.length:=by omega
  simp (disch:=omega) [e1,e2,e5,hg1,hrd,aj]
  refine (px _ _ _ _).go ?_
  have er:wc t set[i]=inI set[i] 0 ((t.rows.length:Int) - 1):=rfl
  cases c1:inI set[i] 0 ((t.rows.length:Int) - 1)
  ·simp (disch:=omega) [row_bad hlt (er.trans c1)]
   exact hs1
  ·by_cases h0:0<i
   ·have h0I:(0:Int)<i:=by omega
    obtain ⟨b',hb',_,hrp⟩:=hr.at (i - 1) (by omega)
    cases hb'
    have e5':((i:Int) - 1).toNat=i - 1:=by omega
    by_cases h5:set[i]<set[i - 1]
    ·simp (disch:=omega) [e1,e5,h0,aj,e5',hrp,hrd,h5,sorted_bad (t:=t) h0 hlt h5]
     exact hs1
    ·simp (disch:=omega) [e1,e2,e5,h0,aj,e5',hrp,hrd,h5]
     refine ⟨by omega,fun j h hji=>?_⟩
     by_cases hc:j=i
     ·subst hc
      exact ⟨er.trans c1,fun _=>by omega⟩
     ·have:=hj j h (by omega)
      refine ⟨this.1,fun h0=>?_⟩
      have q:=this.2 h0
      rw [bc h,bc (show j - 1<set.length by omega)] at q
      exact q
   ·have:i=0:=by omega
    subst this
    simp (disch:=omega) [e1,e2,e5,aj]
    refine ⟨by omega,fun j h hji=>?_⟩
    have:j=0:=by omega
    subst this
    exact ⟨er.trans c1,fun h0=>by omega⟩
 ·have he:i=set.length:=by omega
  subst he
  have h1:jo set=true:=by
   unfold jo
   rw [List.all_eq_true]
   intro j hjm
   have:=List.mem_range.1 hjm
   have:=(hj (j+1) (by omega) (by omega)).2 (by omega)
   rw [Nat.add_sub_cancel] at this
   exact decide_eq_true this
  have h2:set.any (fun n=> !wc t n)=false:=by
   rw [List.any_eq_false]
   intro n hn
   obtain ⟨j,hjl,rfl⟩:=List.mem_iff_getElem.1 hn
   simp [(hj j hjl hjl).1]
  simp (disch:=omega) [e1]
  refine ⟨?_,hs1⟩
  simp [pi,h1,h2]
  omega
set_option maxHeartbeats 1000000 in
theorem chosen_law {H:GH} {l:BLoc} {b:Book} (hb:BookIn H l b) (hfx:FxOk H.fx) (person sys day:Int) {sl:SLoc} {ls:List (SLoc×List Int)} (hE:Elems H sl.a 1 aic ls) (hI:∀q∈ls,Elems H q.1.a 1 ca q.2) (hL:∀q∈ls,q.2.length≤9223372036854775807):
  C 19 [dl l b,vi person,vi sys,vi day,.slice sl.a ls.length sl.fl] H (.bool true) H:=by
 refine au tok mix a9t (F:=g19) (c:=_) rfl (n:=204) rfl (rs:= [.tmp 10]) rfl (ac rfl) ?_
 rcases l with ⟨⟨⟨ra,rf⟩⟩,⟨oa,of'⟩,⟨va,vf⟩⟩
 simp
 generalize hH1:GH.push H _=H1
 have hs1:Sub H H1:=by subst hH1; exact Sub.push (.refl H) _
 have k0:H1.get H.next=some (.arr { cells:=bq ⟨⟨⟨ra,rf⟩⟩,⟨oa,of'⟩,⟨va,vf⟩⟩ b,ty:=28 }):=by subst hH1; simp
 have hn1:H1.next=H.next+1:=by subst hH1; simp
 have hf1:FxOk H1.fx:=by subst hH1; exact hfx
 have hb1:=hb.mono hs1
 clear hH1
 with_reducible refine (uc ⟨⟨⟨_,_⟩⟩,⟨_,_⟩,⟨_,_⟩⟩ b _ hb1).go ?_
 simp
 cases hsh:nw b
 ·simp
  refine (cx hf1).go ?_
  simp
  exact hs1
 obtain ⟨h15,h14,h8,h4⟩:=qv hsh
 by_cases hl14:14<ls.length
 ·have hl14I:(14:Int)<ls.length:=by omega
  simp [hl14I]
  refine (cx hf1).go ?_
  simp
  exact hs1
 have hl14I:¬(14:Int)<ls.length:=by omega
 simp [hl14I,k0]
 with_reducible refine (wm ⟨⟨⟨_,_⟩⟩,⟨_,_⟩,⟨_,_⟩⟩ b _ hb1 hsh).go ?_
 simp
 cases hR:nt b
 ·simp
  refine (cx hf1).go ?_
  simp
  exact hs1
 simp [k0]
 with_reducible refine (ji ⟨⟨⟨_,_⟩⟩,⟨_,_⟩,⟨_,_⟩⟩ b _ _).go ?_
 simp
 cases hp:az b person
 ·simp
  refine (cx hf1).go ?_
  simp
  exact hs1
 simp
 refine (jn _ _).go ?_
 simp
 cases hy:bj sys
 ·simp
  refine (cx hf1).go ?_
  simp
  exact hs1
 simp
 refine (sq _ _).go ?_
 simp
 cases hd:fu day
 ·simp
  refine (cx hf1).go ?_
  simp
  exact hs1
 obtain ⟨hB,hwr⟩:=zt hR
 obtain ⟨s,hs⟩:=yr hB hwr day
 have ho:=zo hB hwr hs hd (ok:=true) rfl
 have ho2:=zo hB hwr hs hd (ok:=az b person&&bj sys) (by simp [hp,hy])
 obtain ⟨n,hn,hJ⟩:=bks hB hs
 have M0:s.grants.length+s.waits.length≤b.events.length:=by have:=hJ.sz; have:=List.length_take_le n b.events; have:=List.length_take_le' n b.events; simp only [size] at*; omega
 have htb:ce b.tbl=true:=by simp only [aq,Bool.and_eq_true] at hB; exact hB.1.1.1.1.1.1.1
 simp (disch:=omega) [k0]
 with_reducible refine (ab5 (l:=⟨⟨⟨_,_⟩⟩,⟨_,_⟩,⟨_,_⟩⟩) hb1 day).fx.mono ?_
 rintro x H2 ⟨⟨s2,v2,rfl,w2⟩,f2⟩
 have k2:=(s2.2 H.next (by omega)).trans k0
 have hn2:=s2.1
 have hf2:FxOk H2.fx:=by rw [f2]; exact hf1
 rw [ho] at w2 ⊢
 simp only [o8] at w2 ⊢
 obtain ⟨a2,q2,rfl,E2⟩:=w2
 simp (disch:=omega) [k2]
 have hc:=an9 (l:=⟨⟨⟨ra,rf⟩⟩,⟨oa,of'⟩,⟨va,vf⟩⟩) (hb1.mono s2) person sys day
 rw [ho2] at hc
 simp only [vz] at hc
 refine hc.go ?_
 clear hc
 simp (disch:=omega)
 generalize hH3:GH.put _ _ _=H3
 have s3:Sub H2 H3:=by subst hH3; exact ⟨by simp,fun g hg=>by simp (disch:=omega)⟩
 have k13:H3.get H2.next=some (.arr { cells:= [vi (a04 b s person sys).1,vi (a04 b s person sys).2],ty:=66 }):=by subst hH3; simp
 have hf3:FxOk H3.fx:=by subst hH3; exact hf2
 have hn3:H3.next=H2.next+1:=by subst hH3; simp
 clear hH3
 have k3:=(s3.2 H.next (by omega)).trans k2
 have hs3:=hs1.trans (s2.trans s3)
 have M1:¬b.events.length<s.grants.length:=by omega
 have M1I:¬(b.events.length:Int)<s.grants.length:=by omega
 have hWg:=Wg_up hB hs
 simp (disch:=omega) [k2,M1I]
 have hb3:=hb.mono hs3
 have E3:=(E2.mono s3)
 have hE3:=hE.mono hs3
 refine cv tok mix (by kernel_rfl) s.grants.length (fun i ρ m H'=>ρ 1=vi person∧ρ 2=vi sys∧ρ 4=.slice sl.a ls.length sl.fl∧ρ 5=.pointer (some (ga H.next 0 0))∧ρ 11=.slice a2 s.grants.length q2∧ρ 13=.pointer (some (ga H2.next 0 0))∧ρ 18=vi i∧m= []∧H'=H3∧
   ∃nn_ own all,ρ 15=vi nn_∧ρ 16=vi own∧ρ 17=.bool all∧Cho (accAt b s person sys i) i nn_ own all) (i0:=0) (by omega) (by simp; exact ⟨by simp [accAt_zero],by simp [accAt_zero],by simp,fun _=>rfl⟩) ?_
 rintro i ρ m H4 hi ⟨e1,e2,e4,e5,e11,e13,e18,rfl,rfl,nn_,own,all,e15,e16,e17,hC⟩
 simp (disch:=omega) [e11,e18]
 refine ba (fun hlt=>?_) (fun hge=>?_)
 ·obtain ⟨a,rfl,hal,hrd⟩:=E3.at i hlt
  have hltI:(i:Int)<s.grants.length:=by omega
  have hGr:=hWg.gr _ (List.getElem_mem hlt)
  have hlo:=hC.lo
  have hhi:=hC.hi
  have how:=hC.ow
  by_cases h1:s.grants[i].is=1
  ·by_cases h2:s.grants[i].person=person
   ·by_cases hls:ls.length≤i
    ·have hlsI:(ls.length:Int)≤i:=by omega
     cases all
     all_goals
      simp (disch:=omega) [e1,e2,e4,e11,e17,e18,hrd,h1,h2,hlsI]
      refine (cx hf3).go ?_
      simp
      exact hs3
    ·have hlsI:¬(ls.length:Int)≤i:=by omega
     obtain ⟨a5,ha5,_,hrd5⟩:=hE3.at i (by omega)
     have hmi:=List.getElem_mem (show i<ls.length by omega)
     have hltS:(i:Int)<ls.length:=by omega
     have hIi:=(hI _ hmi).mono hs3
     have hset_con:=r3Set_con ⟨⟨ra,rf⟩⟩ b.tbl (by omega) (ls[i]).2 (hL _ hmi) (ls[i]).1.a (ls[i]).1.fl H4 hb3.t hIi
     cases hset:pi b.tbl (ls[i]).2
     ·rw [hset] at hset_con
      cases all
      all_goals
       simp (disch:=omega) [e1,e2,e4,e5,e11,e17,e18,hrd,h1,h2,hlsI,k3,ha5,hrd5]
       refine hset_con.go ?_
       simp
       refine (cx hf3).go ?_
       simp
       exact hs3
     ·rw [hset] at hset_con
      have hok:=avn hset
      have hcc:=ag8 ⟨⟨ra,rf⟩⟩ b.tbl htb s.grants[i].system (ls[i]).2 hok (ls[i]).1.a (ls[i]).1.fl H4 hb3.t hIi
      have hnc:=nCounts_con ⟨⟨ra,rf⟩⟩ b.tbl htb sys hy (ls[i]).2 hset (ls[i]).1.a (ls[i]).1.fl H4 hb3.t hIi
      have hbd:=acf htb hok sys
      have hbd2:=acf htb hok s.grants[i].system
      by_cases hcu:cp b.tbl s.grants[i].system (ls[i]).2=s.grants[i].units
      ·have hst:=hC.step hlt (by omega) htb hy hGr.1 hset hcu h1 h2
       rw [hcu] at hcc hbd2
       have hnum:gz (cp b.tbl sys (ls[i]).2)=true:=by simp [gz,inI]; omega
       generalize cp b.tbl sys (ls[i]).2=cc_ at*
       have hrnum:=ajn cc_ H4
       rw [hnum] at hrnum
       cases all
       all_goals
        simp (disch:=omega) [e1,e2,e4,e5,e11,e17,e18,hrd,h1,h2,hlsI,k3,ha5,hrd5]
        refine hset_con.go ?_
        simp (disch:=omega) [e4,e5,e11,e18,hrd,h1,h2,k3,ha5,hrd5]
        refine hcc.go ?_
        simp (disch:=omega) [e2,e4,e5,e18,hrd,h1,h2,k3,ha5,hrd5]
        refine hnc.go ?_
        simp (disch:=omega)
        refine hrnum.go ?_
        simp (disch:=omega) [e4,e5,e11,e15,e16,e18,hrd,h1,h2,k3,ha5,hrd5]
        refine hcc.go ?_
        simp (disch:=omega) [e1,e2,e4,e5,e11,e13,e18,aj]
        refine ⟨hlt,ha5,?_⟩
        first
         |exact hst
         |by_cases hq:s.grants[i].system=sys
          ·simp only [hq,decide_true,Bool.and_true] at hst
           exact .inr ⟨hq,hst⟩
          ·simp only [hq,decide_false,Bool.and_false] at hst
           exact .inl ⟨hq,hst⟩
      ·cases all
       all_goals
        simp (disch:=omega) [e1,e2,e4,e5,e11,e17,e18,hrd,h1,h2,hlsI,k3,ha5,hrd5]
        refine hset_con.go ?_
        simp (disch:=omega) [e4,e5,e11,e18,hrd,h1,h2,k3,ha5,hrd5]
        refine hcc.go ?_
        simp (disch:=omega) [hcu,hrd]
        refine (cx hf3).go ?_
        simp
        exact hs3
   ·have hsy:=hC.stay hlt (fun h=>h2 h.2)
    simp (disch:=omega) [e1,e2,e4,e5,e11,e13,e15,e16,e17,e18,hrd,h1,h2,aj]
    refine ⟨hlt,?_⟩
    cases all
    ·exact .inl ⟨rfl,hsy⟩
    ·exact .inr ⟨rfl,hsy⟩
  ·have hsy:=hC.stay hlt (fun h=>h1 h.1)
   simp (disch:=omega) [e1,e2,e4,e5,e11,e13,e15,e16,e17,e18,hrd,h1,aj]
   refine ⟨hlt,?_⟩
   cases all
   ·exact .inl ⟨rfl,hsy⟩
   ·exact .inr ⟨rfl,hsy⟩
 ·have:i=s.grants.length:=by omega
  subst this
  rw [accAt_all] at hC
  have hlo:=hC.lo
  have hhi:=hC.hi
  have hal:=hC.all
  generalize a04 b s person sys=A at*
  have z1_:A.1≤nn_:=hlo.2
  have z2:nn_≤A.2:=hhi.1
  cases all
  ·simp (disch:=omega) [e13,e15,e17,k13,z1_,z2]
   refine (cx hf3).go ?_
   simp
   exact hs3
  ·have hA:=hal rfl
   rw [hA] at hlo hhi
   have z3:own≤nn_:=hlo.2
   have z4:nn_≤own:=hhi.1
   simp (disch:=omega) [z3,z4,e13,e15,e16,e17,k13,span_eql,hA]
   refine (cx hf3).go ?_
   simp
   exact hs3
end Go.Gm.Tryz
end
section
namespace Go.Gm
end Go.Gm
namespace Go.Gm.Tryz
open Go.Proofs
def choicesL:List Torn→List (List Int)
 | []=> [[]]
 |t::ts=>(List.range t.options.length).flatMap fun (k:Nat)=>(choicesL ts).map fun c=>(k:Int)::c
def setEv (ev:List Ev) (p:Torn×Int):List Ev:=ev.set p.1.event.toNat (p.1.options.getD p.2.toNat default)
def chosenEv (ts:List Torn) (c:List Int) (ev:List Ev):List Ev:=(ts.zip c).foldl setEv ev
def chosenB (b:Book) (t:List Torn) (c:List Int):Book:= { b with events:=chosenEv t c b.events }
def okC (b:Book) (t:List Torn) (c:List Int):Bool:=yv (chosenB b t c)
def goodL (b:Book) (t:List Torn):List (List Int):=(choicesL t).filter (okC b t)
end Go.Gm.Tryz
end
section
namespace Go.Gm.Tryz
open Go.Proofs
theorem lie_elemsP {α:Type} {H:GH} {e:DT} {enc:α→List Value} {sz:Nat} {P:α→Prop} (hsz:e.sz=sz) (hl:∀x,(enc x).length=sz) (hdec:∀cs,Lie H e cs→∃x,cs=enc x∧P x) {cs:List Value} (h:Lie H (.slice e) cs):
  ∃(s:SLoc) (l:List α),cs= [.slice s.a l.length s.fl]∧Elems H s.a sz enc l∧awp s sz∧∀x∈l,P x:=by
 subst hsz
 rcases h with rfl|⟨a,ls,rfl,hm,hb,hr,hx⟩
 ·exact ⟨⟨none,0⟩,[],rfl,⟨hl,fun c hc=>(by cases hc),fun _=>rfl⟩,.inl ⟨rfl,rfl⟩,fun x hx=>by cases hx⟩
 ·have hex:∃l:List α,ls=l.map enc∧∀x∈l,P x:=by
   clear hr hm
   induction ls with
   |nil=>exact ⟨[],rfl,fun x hx=>by cases hx⟩
   |cons c ls ih=>
    obtain ⟨l,rfl,hp⟩:=ih fun x hxm=>hx x (List.mem_cons_of_mem _ hxm)
    obtain ⟨x,rfl,hq⟩:=hdec c (hx c (List.mem_cons_self ..)).2
    refine ⟨x::l,rfl,fun y hy=>?_⟩
    rcases List.mem_cons.1 hy with rfl|hy
    ·exact hq
    ·exact hp y hy
  obtain ⟨l,rfl,hP⟩:=hex
  refine ⟨⟨some a,e.sz⟩,l,by simp,⟨hl,fun c hc=>?_,fun hc=>by cases hc⟩,.inr ⟨a,rfl,rfl⟩,hP⟩
  cases hc
  rw [List.length_map] at hr
  exact ⟨hb,by rw [hr,List.flatMap_def]⟩
theorem fitInts:Fit Tryz.prog (.slice dI) 25:=.slice Tryz.underlying25 (by kernel_rfl) (by decide) rz
end Go.Gm.Tryz
end
section
namespace Go.Gm.Tryz
open Go.Proofs
theorem fitLists:Fit Tryz.prog (.slice (.slice dI)) 76:=.slice Tryz.underlying76 (by kernel_rfl) (by decide) fitInts
theorem lie_list (H:GH) (cs:List Value) (h:Lie H (.slice dI) cs):∃x:SLoc×List Int,cs=aic x∧(Elems H x.1.a 1 ca x.2∧x.2.length≤9223372036854775807):=by
 rcases h with rfl|⟨a,ls,rfl,hm,hb,hr,hx⟩
 ·exact ⟨(⟨none,0⟩,[]),rfl,⟨fun _=>rfl,fun c hc=>(by cases hc),fun _=>rfl⟩,by simp⟩
 ·obtain ⟨s,l,e,hE,_⟩:=zm (sz:=1) rfl (fun _=>rfl) (bb5 H) (.inr ⟨a,ls,rfl,hm,hb,hr,hx⟩)
  simp only [List.cons.injEq,Value.slice.injEq,and_true] at e
  obtain ⟨e1,e2,e3⟩:=e
  have hm':ls.length≤9223372036854775807:=hm
  refine ⟨(s,l),?_,hE,by simp only; omega⟩
  simp only [aic,e1,e2,e3]
theorem lie_lists {H:GH} {cs:List Value} (h:Lie H (.slice (.slice dI)) cs):∃(s:SLoc) (ls:List (SLoc×List Int)),ahz (.slice (.slice dI)) cs=.slice s.a ls.length s.fl∧Elems H s.a 1 aic ls∧(∀q∈ls,Elems H q.1.a 1 ca q.2)∧∀q∈ls,q.2.length≤9223372036854775807:=by
 obtain ⟨s,l,rfl,e,k,hp⟩:=lie_elemsP (sz:=1) (P:=fun x:SLoc×List Int=>Elems H x.1.a 1 ca x.2∧x.2.length≤9223372036854775807) rfl (fun _=>rfl) (lie_list H) h
 exact ⟨s,l,rfl,e,fun x hx=>(hp x hx).1,fun x hx=>(hp x hx).2⟩
end Go.Gm.Tryz
end
section
namespace Go.Gm.Tryz
open Go.Proofs Go.Proofs.YtmnfgajihkfahaaGreatDoor Go.RowKit
theorem grantChosen_spec:LawSpec Rows.grantChosenSpec 5:=⟨rfl,fun H xs h=>by
 match xs,h with
 | [_,_,_,_,_],_=>rfl⟩
set_option maxRecDepth 100000 in
theorem grantChosen_lifted (os:Os) (started:os.Started) (H:Type) (enc:TypeId×Value→H):
  ReturnsInHanded {} Tryz.checked os 19 .any (fun w args=>(Rows.grantChosenSpec.pre enc Tryz.prog Tryz.f19 [] false w args∧laidMetH Tryz.prog li w)∧sizedMet enc Tryz.prog Tryz.f19 (OpenSpec.ofChange Rows.grantChosenSpec) false w args)
   (Rows.grantChosenSpec.post enc Tryz.prog Tryz.f19 false true false false):=by
 refine fk (C:=Tryz.checked) (X:=fun w _=>laidMetH Tryz.prog li w) (fun _ _ _ hh h=>h.of_heap hh) own started (by kernel_rfl) Tryz.func19
  (ChangeSpec.witness_shaped (enc:=enc) (C:=Tryz.checked) (os:=os) (X:=fun w _=>laidMetH Tryz.prog li w) false (World.laidAll Tryz.prog os li) #[.agg #[.slice none 0 0,.int .i64 0,.int .i64 0,.int .i64 0,.int .i64 0,.slice none 0 0,.slice none 0 0],.int .i64 0,.int .i64 0,.int .i64 0,.slice none 0 0] 9 (World.laidAll_os _ _ _)
   (World.shaped_of_ZipB (by kernel_rfl) (by kernel_rfl)) (by kernel_rfl) (by kernel_rfl) (by kernel_rfl)
   (by rw [MakeChecks.laidMetH_plain _ _ _ (by kernel_rfl)]; exact laidMet_laidAll _ (by kernel_rfl) (by kernel_rfl))) ?_
 intro W base args ds gs before hsh hval _ hw hL
 obtain ⟨fx,hfx,hok,hW⟩:=anh hL hsh
 refine tw (P:=Tryz.prog) (fn:=Tryz.f19) (ds:= [sh,dI,dI,dI,.slice (.slice dI)]) abw (by rw [Tryz.params19]; exact .cons abt (.cons rz (.cons (.int Tryz.underlying51) (.cons rz (.cons fitLists .nil))))) (by kernel_rfl) Tryz.underlying4 (by
  rw [Tryz.params19]
  intro t ht
  have hall:([28,3,51,3,76].all fun t=>Tryz.prog.readableRec t&&decide (t<Tryz.prog.types.size))=true:=by kernel_rfl
  have:=List.all_eq_true.1 hall t (by simpa using ht)
  simpa using this) grantChosen_spec hW hfx ?_ hval hw
 intro G gss hG hLie
 have hfG:FxOk G.fx:=by rw [hG]; exact hok
 cases hLie with
 |cons h1 h2=>
 cases h2 with
 |cons h2 h3=>
 cases h3 with
 |cons h3 h4=>
 cases h4 with
 |cons h4 h5=>
 cases h5 with
 |cons h5 h6=>
 cases h6
 obtain ⟨l,b,e,hb,_,_,k3⟩:=yb h1
 obtain ⟨n,rfl⟩:=ew h2
 obtain ⟨m,rfl⟩:=ew h3
 obtain ⟨o,rfl⟩:=ew h4
 obtain ⟨sl,ls,e2,hE,hI,hL⟩:=lie_lists h5
 show ay Tryz.prog 19 [ahz sh _,vi n,vi m,vi o,ahz (.slice (.slice dI)) _] G _
 rw [e,e2]
 exact (chosen_law hb hfG n m o hE hI hL).mono fun x _ h=>h.1
theorem grantChosen_inPlace:(Rows.grantChosenRow.inPlace==Tryz.prog.inPlace 19)=true:=by kernel_rfl
theorem grantChosen_unf:(Rows.grantChosenRow.unfollowed==Tryz.prog.unfollowed 19)=true:=by kernel_rfl
theorem grantChosen_rec:(Rows.grantChosenRow.recurses==Tryz.prog.recurses 19)=true:=by kernel_rfl
theorem grantChosen_named:(Rows.grantChosenRow.named==Tryz.prog.varsNamed 19)=true:=by kernel_rfl
theorem grantChosen_joined:joinedFacts Tryz.prog 19 Tryz.f19 Rows.grantChosenSpec Rows.grantChosenRow=true:=by
 unfold joinedFacts
 exact am (am (am (am (am (am (am (am (am (am (am (am (am (am (am (am (am (am (am (am (am (am (am (am (am (am (am (am (am (am (am (by kernel_rfl) (by kernel_rfl)) (by kernel_rfl)) (by kernel_rfl)) (by kernel_rfl)) (by kernel_rfl)) (by kernel_rfl)) (by kernel_rfl)) (by kernel_rfl)) grantChosen_inPlace) grantChosen_unf) grantChosen_rec) grantChosen_named) (by kernel_rfl)) (by kernel_rfl)) (by kernel_rfl)) (by kernel_rfl)) (by kernel_rfl)) (by kernel_rfl)) (by kernel_rfl)) (by kernel_rfl)) (by kernel_rfl)) (by kernel_rfl)) (by kernel_rfl)) (by kernel_rfl)) af9) (by rw [agc]; exact beq_self_eq_true _)) (by rw [anr]; exact beq_self_eq_true _)) (by kernel_rfl)) (by kernel_rfl)) (by kernel_rfl)) (by kernel_rfl)
theorem grantChosen_holds:Rows.GrantChosenSaid:=
 OpenClaim.holds_of_wide 19 Tryz.f19 rfl rfl rfl rfl rfl rfl rfl ⟨rfl,rfl,rfl,rfl,rfl⟩ rfl rfl rfl rfl rfl (by kernel_rfl) Tryz.func19 grantChosen_joined
  (of_decide_eq_true (by kernel_rfl)) (by unfold Func.isWrapper; first|(rw [if_pos (by decide+kernel)]; kernel_rfl)|(rw [if_neg (by decide+kernel)]; exact ⟨rfl,rfl⟩))
  (fun os started H enc _=>grantChosen_lifted os started H enc)
end Go.Gm.Tryz
namespace Go.Proofs.YtmnfgajihkfahaaGreatDoor
open Go.Gm.Tryz
set_option maxRecDepth 100000 in
theorem grantChosen_card_holds:Rows.GrantChosenCardSaid:=
 Claim7.holds_tied_plain_at .later [] [.data,.data,.data,.data,.pinned] true (true, "c50a2473247fd563652536c5189614d6c43fc7c925362f406516d21693885498") true
  grantChosen_holds (fun _ h=>by cases h) (by kernel_rfl) (fun _ h=>by cases h) grantChosen_row_tie rfl ⟨rfl,rfl⟩ anq rfl
  (fun f fn hf hfn=>by
   obtain rfl:f=19:=Option.some.inj ((show Tryz.prog.funcNamed "quinaria/quinarialaw06.GrantChosen"=some 19 by kernel_rfl).symm.trans hf)|>.symm
   obtain rfl:fn=Tryz.f19:=(Option.some.inj (Tryz.func19.symm.trans hfn)).symm
   exact ⟨agv,fun j t ht=>by
    rw [Tryz.params19] at ht
    have hm:t∈ [28,3,51,3,76]:=by simpa using Array.mem_of_getElem? ht
    have hall:([28,3,51,3,76].all fun u=> !Tryz.prog.wantsStandIn u)=true:=by kernel_rfl
    exact (show Tryz.prog.wantsStandIn t=false by simpa using List.all_eq_true.1 hall t hm)⟩)
  (by kernel_rfl)
end Go.Proofs.YtmnfgajihkfahaaGreatDoor
end
end
