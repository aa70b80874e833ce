/- The function GrantHolds, called with any register, any person, any system and any day, returns true, and never panics: by the model of the language, for every input that the card fits, and under the card's conditions alone. -/
import Derived.Test.YtmnfgajihkfahaaGreatDoorBa6
import Derived.Test.YtmnfgajihkfahaaGreatDoorTie
noncomputable section
section
namespace Go.Gm.Tryz
open Go.Proofs
@[simp] theorem bit:ah 11 g12.plans=some [(0,[]),(1,[]),(2,[]),(3,[]),(4,[]),(5,[]),(6,[]),(7,[]),(8,[3]),(9,[]),(10,[]),(11,[]),(12,[]),(13,[]),(14,[])]:=ai rfl
@[simp] theorem bin:ah 7 axb.plans=some [(0,[]),(1,[]),(2,[]),(3,[]),(4,[]),(5,[]),(7,[]),(6,[]),(8,[])]:=ai rfl
@[simp] theorem bio:ah 8 axb.plans=some [(0,[]),(1,[]),(3,[]),(4,[]),(5,[]),(6,[]),(2,[0,6]),(7,[]),(8,[])]:=ai rfl
end Go.Gm.Tryz
end
section
namespace Go.Gm.Tryz
open Go.Proofs
theorem zt {b:Book} (h:nt b=true):aq b=true∧dw b=none:=by
 simp only [nt,Bool.and_eq_true,Option.isNone_iff_eq_none] at h
 exact h
theorem qv {b:Book} (h:nw b=true):b.tbl.rows.length≤15∧b.events.length≤14∧b.owners.length≤8∧(aq b=true→b.tbl.rows.length≤4):=by
 have h':=h
 simp [nw] at h'
 refine ⟨by omega,by omega,by omega,fun hB=>?_⟩
 have ht:=xj hB
 simp [ht] at h'
 omega
theorem qq {b:Book} (hB:aq b=true) (h:nt b=false) {d:Int} (hd:fu d=true) {ok:Bool} (hk:ok=true):im b d ok=.err 7:=by
 cases hw:dw b with
 |none=>simp [nt,hB,hw] at h
 |some n=>exact apd hB hw hd hk
end Go.Gm.Tryz
end
section
namespace Go.Gm.Tryz
open Go.Proofs
structure Wa (b:Book) (s:Stand):Prop where
 gw:∀g∈s.grants,g.is≠3→0≤ct b.tbl g.system g.units
 fr:ads b s≤b.supply
 ww:∀w∈s.waits,0≤ct b.tbl (db b w).system (db b w).units
 ln:s.grants.length+s.waits.length≤100
theorem sum_set {f:GSt→Int}:∀ {l:List GSt} {i:Nat} {y:GSt} (h:i<l.length),((l.set i y).map f).sum=(l.map f).sum - f l[i]+f y:=by
 intro l
 induction l with
 |nil=>intro i y h; simp at h
 |cons x l ih=>
  intro i y h
  cases i with
  |zero=>simp; omega
  |succ i=>
   simp only [List.length_cons] at h
   have:=ih (i:=i) (y:=y) (by omega)
   simp only [List.set_cons_succ,List.map_cons,List.sum_cons,List.getElem_cons_succ,this]
   omega
section
variable {b:Book} {s:Stand}
theorem Wa.use (h:Wa b s) {i:Nat} (hi:i<s.grants.length):0≤td b (gAt s i):=by
 unfold td
 split
 ·omega
 ·rename_i h3; exact h.gw _ (qj hi) h3
theorem used_set {s t:Stand} {i:Nat} {y:GSt} (hi:i<s.grants.length) (h:t.grants=s.grants.set i y):ads b t=ads b s - td b (gAt s i)+td b y:=by
 unfold ads
 rw [h,sum_set hi,gAt,bc hi]
theorem used_app {s t:Stand} {y:GSt} (h:t.grants=s.grants++ [y]):ads b t=ads b s+td b y:=by
 unfold ads
 rw [h,List.map_append,List.sum_append]
 simp
theorem Wa.add (h:Wa b s) (hs:0≤b.supply∧b.supply≤10000) {p e sy u:Int} (h0:0≤ct b.tbl sy u) (h1:ct b.tbl sy u≤mr b s) {t:Stand} (hg:t.grants=s.grants++ [⟨1,p,e,sy,u⟩]) (hw:∀w∈t.waits,w∈s.waits) (hl:s.grants.length+1+t.waits.length≤100):Wa b t:=by
 have hln:=h.ln
 rw [ain hs (by omega)] at h1
 refine ⟨fun g hgm h3=>?_,?_,fun w hw'=>h.ww w (hw w hw'),by rw [hg]; simp; omega⟩
 ·rw [hg] at hgm
  rcases List.mem_append.1 hgm with hgm|hgm
  ·exact h.gw g hgm h3
  ·simp at hgm; subst hgm; exact h0
 ·rw [used_app hg]
  simp only [td]
  rw [if_neg (by decide)]
  omega
theorem Wa.serve1 (hs:0≤b.supply∧b.supply≤10000) (s:Stand) (w:Int) (ws:List Int) (h:Wa b s) (hw:s.waits=w::ws) (hf:ct b.tbl (db b w).system (db b w).units≤mr b s):Wa b { ek s (db b w).person (-1) (db b w).system (db b w).units with waits:=ws }:=by
 have hln:=h.ln
 rw [hw] at hln
 simp only [List.length_cons] at hln
 exact h.add hs (h.ww w (by rw [hw]; simp)) hf rfl (fun v hv=>by rw [hw]; exact List.mem_cons_of_mem _ hv) (by simp only; omega)
theorem Wa.serve (hs:0≤b.supply∧b.supply≤10000) (h:Wa b s):Wa b (serve b s):=t8 (I:=Wa b) (fun s w ws h hw hf=>Wa.serve1 hs s w ws h hw hf) h
theorem Wa.set (h:Wa b s) {i:Nat} (hi:i<s.grants.length) {y:GSt} (hy:y.is≠3→0≤ct b.tbl y.system y.units) (hu:td b y≤td b (gAt s i)) {t:Stand} (hg:t.grants=s.grants.set i y) (hw:t.waits=s.waits):Wa b t:=
 ⟨fun g hgm h3=>by
  rw [hg] at hgm
  rcases List.mem_or_eq_of_mem_set hgm with hgm|rfl
  ·exact h.gw g hgm h3
  ·exact hy h3,by have:=h.fr; rw [used_set hi hg]; omega,fun w hw'=>h.ww w (hw▸hw'),by have:=h.ln; rw [hg,hw]; simpa using this⟩
theorem Wa.endG (h:Wa b s) {g:Nat} (hg:g<s.grants.length) (d:Int):Wa b (endG s g d):=
 h.set hg (y:= { gAt s g with is:=3,person:= -1 }) (fun hc=>absurd rfl hc) (by
  have:=h.use hg
  have e:td b { gAt s g with is:=3,person:= -1 }=0:=by simp [td]
  omega) rfl rfl
theorem Wa.pass (hs:0≤b.supply∧b.supply≤10000) (h:Wa b s) (d:Int):Wa b (pass b s d):=
 so (I:=Wa b) (fun s w ws h hw hf=>Wa.serve1 hs s w ws h hw hf) (fun _s _g h hg _ _=>h.endG hg _) h
theorem Wa.map (h:Wa b s) {f:GSt→GSt} (hf:∀g,(f g).is=g.is∧(f g).system=g.system∧(f g).units=g.units) {t:Stand} (ht:t.grants=s.grants.map f) (hw:t.waits=s.waits):Wa b t:=by
 have hu:ads b t=ads b s:=by
  unfold ads
  rw [ht,List.map_map]
  congr 2
  funext g
  simp only [Function.comp,td,(hf g).1,(hf g).2.1,(hf g).2.2]
 refine ⟨fun g hgm h3=>?_,by rw [hu]; exact h.fr,fun w hw'=>h.ww w (hw▸hw'),by have:=h.ln; rw [ht,hw]; simpa using this⟩
 rw [ht] at hgm
 obtain ⟨x,hx,rfl⟩:=List.mem_map.1 hgm
 rw [(hf x).1] at h3
 rw [(hf x).2.1,(hf x).2.2]
 exact h.gw x hx h3
theorem Wa.own (h:Wa b s) (n:Nat) (p:Int):Wa b (jz s n p):=
 h.map (f:=fun x=>if x.estate=(n:Int) then { x with person:=p } else x) (fun g=>by split<;>exact ⟨rfl,rfl,rfl⟩) rfl rfl
theorem useG_of {g h:GSt} (h1:(g.is=3)↔(h.is=3)) (h2:g.system=h.system) (h3:g.units=h.units):td b g=td b h:=by
 unfold td
 simp only [h1,h2,h3]
theorem Wa.do_ (hs:0≤b.supply∧b.supply≤10000) (h:Wa b s) (hW:Wg b s) {e:Ev} (hev:EvOk b s e) (he:bv b e=true) (hl:s.grants.length+s.waits.length<100) (hes:∀i,i<s.grants.length→(gAt s i).is=1∨(gAt s i).estate= -1) (hg:cu b s e=true) {n:Nat} (hn:db b n=e):Wa b (doS b s e n):=by
 unfold cu at hg
 unfold doS
 by_cases k1:e.kind=1
 ·rw [if_pos k1] at hg ⊢
  simp only [Bool.and_eq_true,q9,decide_eq_true_eq] at hg
  exact h.add hs hg.2.1 hg.2.2.1 rfl (fun w hw=>hw) (by simp only [air,ek]; omega)
 rw [if_neg k1] at hg ⊢
 by_cases k2:e.kind=2
 ·rw [if_pos k2] at hg ⊢
  simp only [Bool.and_eq_true,q9,decide_eq_true_eq] at hg
  exact h.add hs hg.2.1 hg.2.2.1 rfl (fun w hw=>hw) (by simp only [qd,ek]; omega)
 rw [if_neg k2] at hg ⊢
 by_cases k3:e.kind=3
 ·rw [if_pos k3]
  exact af4 (I:=Wa b) (fun s h=>⟨h.gw,h.fr,h.ww,h.ln⟩) (fun s i h _ _=>h.own i e.other) (fun s h=>⟨h.gw,h.fr,fun w hw=>h.ww w (List.mem_filter.1 hw).1,by
    have:=List.length_filter_le (jg b e) s.waits
    have:=h.ln
    simp only [mn]; omega⟩)
   (fun s i h hi _ _=>(h.endG hi e.day).serve hs) (fun s i h hi h1 h2 h3=>h.set hi (y:= { gAt s i with is:=2,person:=e.other }) (fun _=>h.gw (gAt s i) (qj hi) (by omega)) (by
    rw [useG_of (g:= { gAt s i with is:=2,person:=e.other }) (h:=gAt s i) (by simp only; omega) rfl rfl]
    exact Int.le_refl _) rfl rfl) h
 rw [if_neg k3] at hg ⊢
 by_cases k4:e.kind=4
 ·rw [if_pos k4]; exact h.own _ _
 rw [if_neg k4] at hg ⊢
 by_cases k5:e.kind=5
 ·rw [if_pos k5] at hg ⊢
  have hu:=ae3 he k5
  simp [nn,yi] at hg
  obtain ⟨g1,g2,g3,g4,g5,g6,g7⟩:=hg
  have hge:=hev.grant
  have hgd:s.grants[e.grant.toNat]?.getD default=gAt s e.grant.toNat:=by simp [gAt]
  rw [hgd] at g2 g3 g5 g6 g7
  have hlt:e.grant.toNat<s.grants.length:=by omega
  have hm:=hW.gr _ (qj hlt)
  have hwr:IntKind.i64.wrap ((gAt s e.grant.toNat).units - e.units)=(gAt s e.grant.toNat).units - e.units:=aj _ (by omega) (by omega)
  rw [hwr] at g6 g7
  have w1:=aqb b.tbl (gAt s e.grant.toNat).system e.units
  have w2:=aqb b.tbl (gAt s e.grant.toNat).system ((gAt s e.grant.toNat).units - e.units)
  have w3:=aqb b.tbl (gAt s e.grant.toNat).system (gAt s e.grant.toNat).units
  have q1:IntKind.i64.wrap (ct b.tbl (gAt s e.grant.toNat).system e.units+ct b.tbl (gAt s e.grant.toNat).system ((gAt s e.grant.toNat).units - e.units))=ct b.tbl (gAt s e.grant.toNat).system e.units+ct b.tbl (gAt s e.grant.toNat).system ((gAt s e.grant.toNat).units - e.units):=aj _ (by omega) (by omega)
  rw [q1] at g7
  have q2:IntKind.i64.wrap (ct b.tbl (gAt s e.grant.toNat).system e.units+ct b.tbl (gAt s e.grant.toNat).system ((gAt s e.grant.toNat).units - e.units) - ct b.tbl (gAt s e.grant.toNat).system (gAt s e.grant.toNat).units)=ct b.tbl (gAt s e.grant.toNat).system e.units+ct b.tbl (gAt s e.grant.toNat).system ((gAt s e.grant.toNat).units - e.units) - ct b.tbl (gAt s e.grant.toNat).system (gAt s e.grant.toNat).units:=aj _ (by omega) (by omega)
  rw [q2] at g7
  have hln:=h.ln
  rw [ain hs (by omega)] at g7
  have hsu:=used_set (b:=b) (s:=s) (t:= { s with owners:=s.owners++ [e.person],grants:=s.grants.set e.grant.toNat { gAt s e.grant.toNat with units:=IntKind.i64.wrap ((gAt s e.grant.toNat).units - e.units) } }) hlt rfl
  have hds:(fy s e).grants=s.grants.set e.grant.toNat { gAt s e.grant.toNat with units:=IntKind.i64.wrap ((gAt s e.grant.toNat).units - e.units) }++ [⟨1,e.person,s.owners.length,(gAt s e.grant.toNat).system,e.units⟩]:=rfl
  refine ⟨fun g hgm h3=>?_,?_,h.ww,by rw [hds]; simp [fy,ek]; omega⟩
  ·rw [hds] at hgm
   rcases List.mem_append.1 hgm with hgm|hgm
   ·rcases List.mem_or_eq_of_mem_set hgm with hgm|rfl
    ·exact h.gw g hgm h3
    ·simp only [hwr]; exact g6
   ·simp at hgm; subst hgm; exact g5
  ·have hap:=used_app (b:=b) (s:= { s with owners:=s.owners++ [e.person],grants:=s.grants.set e.grant.toNat { gAt s e.grant.toNat with units:=IntKind.i64.wrap ((gAt s e.grant.toNat).units - e.units) } }) (t:=fy s e) hds
   rw [hap,hsu]
   have hus:=h.use hlt
   have e3:td b (⟨1,e.person,s.owners.length,(gAt s e.grant.toNat).system,e.units⟩:GSt)=ct b.tbl (gAt s e.grant.toNat).system e.units:=by simp [td]
   rw [e3]
   have hfr:=h.fr
   have his:(gAt s e.grant.toNat).is=1:=by have:=hes _ hlt; omega
   have e4:td b (gAt s e.grant.toNat)=ct b.tbl (gAt s e.grant.toNat).system (gAt s e.grant.toNat).units:=by unfold td; rw [if_neg (by omega)]
   have e5:td b { gAt s e.grant.toNat with units:=IntKind.i64.wrap ((gAt s e.grant.toNat).units - e.units) }=ct b.tbl (gAt s e.grant.toNat).system ((gAt s e.grant.toNat).units - e.units):=by
    unfold td; simp only; rw [if_neg (by omega),hwr]
   rw [e4,e5]
   omega
 rw [if_neg k5] at hg ⊢
 by_cases k6:e.kind=6
 ·rw [if_pos k6]; exact h.map (f:=gh e) (fun g=>by unfold gh; split<;>exact ⟨rfl,rfl,rfl⟩) rfl rfl
 rw [if_neg k6] at hg ⊢
 by_cases k7:e.kind=7
 ·rw [if_pos k7] at hg ⊢
  simp only [Bool.and_eq_true,decide_eq_true_eq] at hg
  have hge:=hev.grant
  have hlt:e.grant.toNat<s.grants.length:=by omega
  have h2:(gAt s e.grant.toNat).is=2:=hg.2.1
  exact h.set hlt (y:= { gAt s e.grant.toNat with is:=1 }) (fun _=>h.gw (gAt s e.grant.toNat) (qj hlt) (by omega)) (by
   rw [useG_of (g:= { gAt s e.grant.toNat with is:=1 }) (h:=gAt s e.grant.toNat) (by simp only; omega) rfl rfl]
   exact Int.le_refl _) rfl rfl
 rw [if_neg k7] at hg ⊢
 simp only [Bool.and_eq_true,decide_eq_true_eq] at hg
 refine ⟨h.gw,h.fr,fun w hw=>?_,by simp [aaz]; omega⟩
 simp only [aaz,List.mem_append,List.mem_singleton] at hw
 rcases hw with hw|rfl
 ·exact h.ww w hw
 ·rw [hn]; exact hg.2
end
def Srv (b:Book) (s:Stand):Prop:=∀w ws,s.waits=w::ws→mr b s<ct b.tbl (db b w).system (db b w).units
theorem serve_done (b:Book) (s:Stand):Srv b (serve b s):=by
 have:∀(n:Nat) (s:Stand),s.waits.length≤n→Srv b (gu b n s):=by
  intro n
  induction n with
  |zero=>
   intro s hn w ws hw
   have h0:s.waits=w::ws:=hw
   rw [h0] at hn
   simp at hn
  |succ n ih=>
   intro s hn
   simp only [gu]
   cases hw:s.waits with
   |nil=>
    intro w ws h
    simp only at h
    rw [hw] at h; cases h
   |cons w ws=>
    simp only
    split
    ·rename_i hf
     intro v vs h
     rw [hw] at h; cases h
     exact hf
    ·rw [hw] at hn
     simp only [List.length_cons] at hn
     exact ih _ (by simp only; omega)
 exact this _ s (Nat.le_refl _)
theorem Srv.pass {b:Book} {s:Stand} (h:Srv b s) (d:Int):Srv b (pass b s d):=by
 have:∀(n:Nat) (s:Stand),Srv b s→Srv b (lj b d n s):=by
  intro n
  induction n with
  |zero=>intro s h; exact h
  |succ n ih=>
   intro s h
   simp only [lj]
   split
   ·exact h
   ·exact ih _ (serve_done b _)
 exact this _ s h
theorem Wa.start {b:Book} (hs:0≤b.supply∧b.supply≤10000):Wa b (start b):=⟨fun g hg=>by simp [Tryz.start] at hg,by simp [ads,Tryz.start]; omega,fun w hw=>by simp [Tryz.start] at hw,by simp [Tryz.start]⟩
theorem Wa_up {b:Book} (hB:aq b=true) {d:Int} {u:Stand} (h:upS b d=.inr u):∃n,Cut b d n∧J b (b.events.take n) u∧Fd b (b.events.take n) u∧Wa b u∧Srv b u:=by
 have hs:=aaf hB
 have h12:=(l8 hB).events
 obtain ⟨n,t,h1,h2,⟨h3,h4,h5,h6⟩,rfl⟩:=ay6 hB (I:=fun done s=>Fd b done s∧Wg b s∧Wa b s∧Srv b s) (I':=fun done s=>Fd b done s∧Wg b s∧Wa b s) ⟨Fd.start b,Wg.start b,Wa.start hs,fun w ws h=>by simp [start] at h⟩ (fun _ _ d _ _ h=>⟨h.1.pass d,h.2.1.pass d,h.2.2.1.pass hs d,h.2.2.2.pass d⟩)
  (fun _ s h=>⟨h.1.serve,h.2.1.serve,h.2.2.serve hs,serve_done b s⟩)
  (fun n hn s _ hJ ⟨hF,hG,hA,_⟩ hev he hg hn'=>by
   have hlen:(b.events.take n).length=n:=by simp; omega
   have hsz:=hJ.sz
   unfold size at hsz
   exact ⟨hF.do_ hev (aks hB (List.getElem_mem hn)) (aew hB) hg hn',hG.do_ he hg hev.kind hev.grant hn',hA.do_ hs hG hev he (by omega) (fun i hi=>(hF.es i hi).2) hg hn'⟩) h
 exact ⟨n,h1,h2.pass d,h3.pass d,h5.pass hs d,h6.pass d⟩
end Go.Gm.Tryz
end
section
namespace Go.Gm.Tryz
open Go.Proofs
structure Fe (b:Book) (d:Int) (s:Stand):Prop where
 cnt:∀i:Nat,(s.fell.map Prod.fst).count (i:Int)=if i<s.grants.length∧(gAt s i).is=3 then 1 else 0
 rng:∀p∈s.fell,0≤p.1∧0≤p.2∧p.2≤d
section
variable {b:Book} {s:Stand} {d:Int} {done:List Ev}
def Lo (m:Int) (s:Stand):Prop:=∀i,i<s.grants.length→(gAt s i).is=2→m≤bl s i
end
structure Kp (u:List (Int×Int)) (m:Int) (s:Stand):Prop where
 ln:s.last.length=s.grants.length
 lo:Lo m s
 fe:∃more,s.fell=u++more∧∀p∈more,m<p.2
section
variable {b:Book} {s:Stand} {u:List (Int×Int)} {m:Int}
end
end Go.Gm.Tryz
end
section
namespace Go.Gm.Tryz
open Go.Proofs
def diedTo (b:Book) (p d:Int) (i:Nat):Bool:=(b.events.take i).any fun e=>decide (e.kind=3∧e.day≤d∧e.person=p)
end Go.Gm.Tryz
end
section
namespace Go.Gm.Tryz
open Go.Proofs
def anyTo (f:Ev→Bool) (l:List Ev) (i:Nat):Bool:=(l.take i).any f
end Go.Gm.Tryz
end
section
namespace Go.Gm.Tryz
open Go.Proofs
theorem water_some {t:Tbl} {sys u:Int} (h:0≤ct t sys u):ce t=true∧gi t sys u=true∧∃l,ju t sys u=some l∧pi t l=true∧jr t l=ct t sys u:=by
 unfold ct at h ⊢
 by_cases ha:gi t sys u=true
 ·rw [if_pos ha] at h ⊢
  have ht:ce t=true:=by simp only [gi,Bool.and_eq_true] at ha; exact ha.1.1
  cases hf:ju t sys u with
  |none=>rw [hf] at h; simp at h
  |some l=>exact ⟨ht,ha,l,rfl,ahy (by have:=(kd ht).1; omega) (xm hf).1,rfl⟩
 ·rw [if_neg ha] at h
  omega
def usedTo (b:Book) (l:List GSt) (i:Nat):Int:=((l.take i).map (td b)).sum
end Go.Gm.Tryz
end
section
namespace Go.Gm.Tryz
open Go.Proofs
def cntL (n:Nat) (xs:List Int) (i:Nat):List Int:=(List.range n).map fun k:Nat=>(((xs.take i).count (k:Int):Nat):Int)
end Go.Gm.Tryz
end
section
namespace Go.Gm.Tryz
open Go.Proofs
theorem rOther_con (s:Int) (hs:bj s=true) (H:GH):C 158 [vi s] H (vi (ns s)) H:=by
 refine au tok mix a2s (F:=bat) (c:=_) rfl (n:=5) rfl (rs:= [.tmp 2]) rfl (ac rfl) ?_
 unfold bj at hs
 rw [decide_eq_true_eq] at hs
 simp
 refine ba (fun h=>?_) (fun h=>?_)
 ·simp [ns,h]
 ·have:s=2:=by omega
  subst this
  simp [ns]
def turnF (t:Tbl) (s u:Int) (k:Nat):Option (Int×Int):=(((bp t.rows.length).take k).filter fun x=>decide (cp t s x=u)).foldl (ny t s) none
theorem turnF_zero {t:Tbl} {s u:Int}:turnF t s u 0=none:=rfl
theorem turnF_succ {t:Tbl} {s u:Int} {k:Nat} (h:k<(bp t.rows.length).length):turnF t s u (k+1)=if cp t s (bp t.rows.length)[k]=u then ny t s (turnF t s u k) (bp t.rows.length)[k] else turnF t s u k:=by
 unfold turnF
 rw [List.take_succ_eq_append_getElem h,List.filter_append,List.foldl_append]
 split
 ·rename_i hc; simp [hc]
 ·rename_i hc; simp [hc]
theorem turnF_all {t:Tbl} {s u:Int}:turnF t s u (bp t.rows.length).length=an4 t s u:=by
 rw [turnF,List.take_length]
 rfl
def spanC (o:Option (Int×Int)):List Value:= [vi (o.getD (0,0)).1,vi (o.getD (0,0)).2]
theorem rTurn_con (l:TLoc) (t:Tbl) (ht:ce t=true) (hrows:t.rows.length≤4) (s:Int) (hs:bj s=true) (u:Int) (H:GH) (hT:gc H l t):ay Tryz.prog 103 [qx l t,vi s,vi u] H fun x H'=>Sub H H'∧x=.ret (.tuple #[.agg #[vi ((an4 t s u).getD (0,0)).1,vi ((an4 t s u).getD (0,0)).2],.bool (an4 t s u).isSome]):=by
 rcases l with ⟨⟨ra,rf⟩⟩
 refine an tok mix a2e (F:=axb) (c:=_) rfl (n:=54) rfl (rs:= [.cell 6 66,.tmp 7]) rfl ?_
 simp
 generalize hH1:GH.push (GH.push H _) _=H1
 have hs1:Sub H H1:=by subst hH1; exact Sub.push (Sub.push (.refl H) _) _
 have k1:H1.get H.next=some (.arr { cells:= [.slice ra t.rows.length rf,vi t.draw],ty:=24 }):=by subst hH1; simp (disch:=omega)
 have k1':H1.get (H.next+1)=some (.arr { cells:= [vi 0,vi 0],ty:=66 }):=by subst hH1; simp (disch:=omega)
 have hn1:H1.next=H.next+2:=by subst hH1; simp
 clear hH1
 have hT1:=hT.mono hs1
 refine (al3 ⟨⟨ra,rf⟩⟩ t hrows H1 hT1).mono ?_
 rintro x H2 ⟨hs2,v,rfl,hL⟩
 have hlen:=ahx hrows
 obtain ⟨ls,hl1,hl2,hl3⟩:=hL
 obtain ⟨al,fl,rfl,hEl⟩:=hl1.elems (fun _=>rfl)
 have hll:ls.length=(bp t.rows.length).length:=by rw [←hl2,List.length_map]
 have hn2:=hs2.1
 simp (disch:=omega)
 generalize hH3:GH.push H2 _=H3
 have hs3:Sub H2 H3:=by subst hH3; exact Sub.push (.refl H2) _
 have k3:H3.get H2.next=some (.arr { cells:=spanC (turnF t s u 0),ty:=66 }):=by subst hH3; simp [spanC,turnF_zero]
 have hn3:H3.next=H2.next+1:=by subst hH3; simp
 clear hH3
 have hs13:=hs2.trans hs3
 refine cv tok mix (by kernel_rfl) ls.length (fun i ρ m H'=>ρ 1=vi s∧ρ 2=vi u∧ρ 3=.pointer (some (ga H.next 0 0))∧ρ 6=.pointer (some (ga (H.next+1) 0 0))∧ρ 8=.slice al ls.length fl∧ρ 9=.pointer (some (ga H2.next 0 0))∧ρ 10=.bool (turnF t s u i).isSome∧ρ 11=vi i∧m= []∧H'.next=H3.next∧(∀g,g≠H2.next→H'.get g=H3.get g)∧H'.get H2.next=some (.arr { cells:=spanC (turnF t s u i),ty:=66 })) (i0:=0) (by omega)
  ⟨by simp,by simp,by simp,by simp,by simp,by simp,by simp [turnF_zero],by simp,rfl,rfl,fun _ _=>rfl,k3⟩ ?_
 rintro i ρ m H4 hi ⟨e1,e2,e3,e6,e8,e9,e10,e11,rfl,hn4,hk4,k4⟩
 have hs4:Sub H2 H4:=⟨by omega,fun g hg=>by rw [hk4 g (by omega),hs3.2 g hg]⟩
 have hs14:=hs2.trans hs4
 have hg4:=(hs14.2 H.next (by omega)).trans k1
 have hg4':=(hs14.2 (H.next+1) (by omega)).trans k1'
 simp (disch:=omega) [e8,e11]
 refine ba (fun hlt=>?_) (fun hge=>?_)
 ·obtain ⟨b,rfl,hb,hrd⟩:=(hEl.mono hs4).at i hlt
  have hil:i<(bp t.rows.length).length:=by omega
  have hps:(ls[i]).2=(bp t.rows.length)[i]'(by omega):=by
   have:(ls.map Prod.snd)[i]'(by simpa using hlt)=(bp t.rows.length)[i]'(by omega):=by simp only [hl2]
   rwa [List.getElem_map] at this
  have hok:=p9 (t:=t) (List.getElem_mem hil)
  have hI4:Elems H4 (ls[i]).1.a 1 ca (bp t.rows.length)[i]:=by
   have:=(hl3 _ (List.getElem_mem hlt)).1.mono hs4
   rwa [hps] at this
  have hil2:(ls[i]).2.length=((bp t.rows.length)[i]'hil).length:=by rw [hps]
  have hcon:=ag8 ⟨⟨ra,rf⟩⟩ t ht s _ hok (ls[i]).1.a (ls[i]).1.fl H4 (hT1.mono hs14) hI4
  have hcon2:=ag8 ⟨⟨ra,rf⟩⟩ t ht (ns s) _ hok (ls[i]).1.a (ls[i]).1.fl H4 (hT1.mono hs14) hI4
  rw [←hil2] at hcon hcon2
  have hsu:=turnF_succ (s:=s) (u:=u) hil
  have hltI:(i:Int)<ls.length:=by omega
  simp (disch:=omega) [e1,e2,e3,e8,e11,hg4,hrd]
  refine hcon.go ?_
  simp (disch:=omega)
  refine ck (fun h6=>?_) (fun h6=>?_)<;>(try simp only [decide_eq_true_eq,decide_eq_false_iff_not] at h6)
  ·have h7:¬cp t s (bp t.rows.length)[i]=u:=by simpa using h6
   rw [if_neg h7] at hsu
   simp (disch:=omega) [e1,e2,e3,e6,e8,e9,e10,e11,aj,hsu]
   exact ⟨hlt,hn4,hk4,k4⟩
  ·have h7:cp t s (bp t.rows.length)[i]=u:=by simpa using h6
   rw [if_pos h7] at hsu
   simp (disch:=omega) [e1,e3,e8,e11,hg4,hrd]
   refine (rOther_con s hs _).go ?_
   simp (disch:=omega) [e3,hg4,hrd]
   refine hcon2.go ?_
   simp (disch:=omega) [e10]
   have fin:∀H5:GH,H5.next=H4.next→(∀g,g≠H2.next→H5.get g=H4.get g)→(H5.next=H3.next∧∀g,g≠H2.next→H5.get g=H3.get g):=fun H5 q1 q2=>⟨q1.trans hn4,fun g hg=>(q2 g hg).trans (hk4 g hg)⟩
   cases hto:turnF t s u i with
   |none=>
    rw [hto] at hsu k4
    simp (disch:=omega) [spanC] at k4
    simp (disch:=omega) [e1,e2,e3,e6,e8,e9,e11,aj,hsu,k4,ny,spanC]
    exact ⟨hlt,hn4,fun g hg=>by rw [if_neg hg]; exact hk4 g hg⟩
   |some p=>
    rw [hto] at hsu k4
    simp (disch:=omega) [spanC] at k4
    simp (disch:=omega) [e1,e2,e3,e6,e8,e9,e11,aj,hsu,k4,ny,spanC]
    exact ⟨hlt,hn4,fun g hg=>by rw [if_neg hg]; exact hk4 g hg⟩
 ·have:i=ls.length:=by omega
  subst this
  rw [hll,turnF_all] at k4 e10
  simp (disch:=omega) [e6,e9,e10,k4,spanC,hg4']
  exact Sub.put (hs1.trans hs14) (by omega) _
theorem turnR_span {t:Tbl} {sys u:Int} (h:gi t sys u=true):((rq t sys u).1,(rq t sys u).2.1)=(an4 t sys u).getD (0,0):=by
 unfold rq
 rw [if_pos h]
 cases an4 t sys u<;>rfl
def accAt (b:Book) (s:Stand) (person sys:Int) (i:Nat):Int×Int:=(s.grants.take i).foldl (jf b person sys) (0,0)
theorem accAt_zero {b:Book} {s:Stand} {person sys:Int}:accAt b s person sys 0=(0,0):=rfl
theorem accAt_all {b:Book} {s:Stand} {person sys:Int}:accAt b s person sys s.grants.length=a04 b s person sys:=by rw [accAt,List.take_length]; rfl
theorem accAt_succ {b:Book} {s:Stand} {person sys:Int} {i:Nat} (h:i<s.grants.length):accAt b s person sys (i+1)=jf b person sys (accAt b s person sys i) s.grants[i]:=by
 unfold accAt
 rw [List.take_succ_eq_append_getElem h,List.foldl_append]
 rfl
theorem rHolds_con {H:GH} {l:BLoc} {b:Book} (hb:BookIn H l b) (hB:aq b=true) (hrows:b.tbl.rows.length≤4) {day:Int} {s:Stand} (hu:upS b day=.inr s) (hW:Wa b s) (person sys:Int):
  ay Tryz.prog 50 [dl l b,vi person,vi sys,vi day] H fun x H'=>Sub H H'∧x=.ret (.agg #[vi (a04 b s person sys).1,vi (a04 b s person sys).2]):=by
 rcases l with ⟨⟨⟨ra,rf⟩⟩,⟨oa,of'⟩,⟨va',vf'⟩⟩
 refine an tok mix a93 (F:=g50) (c:=_) rfl (n:=73) rfl (rs:= [.cell 8 66]) rfl ?_
 simp
 generalize hH2:GH.push (GH.push H _) _=H2
 have hs2:Sub H H2:=by subst hH2; exact Sub.push (Sub.push (.refl H) _) _
 have k0:H2.get H.next=some (.arr { cells:=bq ⟨⟨⟨ra,rf⟩⟩,⟨oa,of'⟩,⟨va',vf'⟩⟩ b,ty:=28 }):=by subst hH2; simp (disch:=omega)
 have k8:H2.get (H.next+1)=some (.arr { cells:= [vi 0,vi 0],ty:=66 }):=by subst hH2; simp
 have hn2:H2.next=H.next+2:=by subst hH2; simp
 clear hH2
 refine (ag9 (hb.mono hs2) hB hrows hu).mono ?_
 rintro x H3 ⟨h3,N,sg,O,hN,rfl,hS,hWf,hWg⟩
 obtain ⟨v1,v2,vl,vo,vg,va',vw,vb,vd,hS,_⟩:=hS
 have hg:=hS.g
 have hsl:=hS.sgl.2
 have hln:=hWf.len
 obtain ⟨ag,fg,rfl,hEg⟩:=hS.grants.elems (fun _=>rfl)
 simp
 have hn3:=h3.1
 generalize hH4:GH.push H3 _=H4
 have hs4:Sub H3 H4:=by subst hH4; exact Sub.push (.refl H3) _
 have k4:H4.get H3.next=some (.arr { cells:= [vi 0,vi 0],ty:=66 }):=by subst hH4; simp
 have hn4:H4.next=H3.next+1:=by subst hH4; simp
 clear hH4
 refine cv tok mix (by kernel_rfl) s.grants.length (fun i ρ m H'=>ρ 1=vi person∧ρ 2=vi sys∧ρ 4=.pointer (some (ga H.next 0 0))∧ρ 8=.pointer (some (ga (H.next+1) 0 0))∧ρ 9=.pointer (some (ga sg 0 0))∧ρ 10=.pointer (some (ga H3.next 0 0))∧ρ 11=vi i∧m= []∧Sub H3 H'∧H3.next<H'.next∧
   H'.get H3.next=some (.arr { cells:= [vi (accAt b s person sys i).1,vi (accAt b s person sys i).2],ty:=66 })) (i0:=0) (by omega) (by simp [k4,accAt_zero]; exact ⟨hs4,by omega⟩) ?_
 rintro i ρ m H' hi ⟨e1,e2,e4,e8,e9,e10,e11,rfl,hsub,hlt3,hacc⟩
 have hg':=(hS.sub hsub).g
 have kb:=(hsub.2 _ (by omega)).trans ((h3.2 _ (by omega)).trans k0)
 simp (disch:=omega) [e9,e11,hg']
 refine ba (fun hlt=>?_) (fun hge=>?_)
 ·obtain ⟨a,rfl,hal,hrd⟩:=(hEg.mono hsub).at i hlt
  have hltI:(i:Int)<s.grants.length:=by omega
  have et:=accAt_succ (b:=b) (person:=person) (sys:=sys) hlt
  have hwa:=hW.gw _ (List.getElem_mem hlt)
  generalize hG:s.grants[i]=G at*
  generalize hA:accAt b s person sys i=A at*
  simp (disch:=omega) [e9,e11,hg',hrd]
  generalize hH5:GH.put _ _ _=H5
  have s5:Sub H' H5:=by subst hH5; exact ⟨by simp,fun g hg=>by simp (disch:=omega)⟩
  have k5:H5.get H'.next=some (.arr { cells:=kg G,ty:=53 }):=by subst hH5; simp
  have hn5:H5.next=H'.next+1:=by subst hH5; simp
  clear hH5
  have kb5:=(s5.2 _ (by omega)).trans kb
  have hacc5:=(s5.2 _ (by omega)).trans hacc
  by_cases h1:G.is=1
  ·by_cases h2:G.person=person
   ·obtain ⟨htb,hsa,_⟩:=water_some (hwa (by omega))
    have hsys:bj G.system=true:=by simp only [gi,Bool.and_eq_true] at hsa; exact hsa.1.2
    have hsp:=turnR_span hsa
    simp (disch:=omega) [e1,h1,h2,k5]
    generalize hH6:GH.put _ _ _=H6
    have s6:Sub H5 H6:=by subst hH6; exact ⟨by simp,fun g hg=>by simp (disch:=omega)⟩
    have k6:H6.get H5.next=some (.arr { cells:= [vi G.units,vi G.units],ty:=66 }):=by subst hH6; simp
    have hn6:H6.next=H5.next+1:=by subst hH6; simp
    clear hH6
    have k56:=(s6.2 _ (by omega)).trans k5
    have kb6:=(s6.2 _ (by omega)).trans kb5
    have hacc6:=(s6.2 _ (by omega)).trans hacc5
    by_cases h4:G.system=sys
    ·simp (disch:=omega) [e1,e2,e4,e8,e9,e10,e11,h4,k6,hacc6,aj]
     refine ⟨hlt,Sub.put (hsub.trans (s5.trans s6)) (Nat.le_refl _) _,by omega,?_,?_⟩<;>(rw [et]; simp [jf,h1,h2,ann,h4])
    ·simp (disch:=omega) [e2,e4,h4,k56,kb6]
     refine (rTurn_con ⟨⟨ra,rf⟩⟩ b.tbl htb hrows G.system hsys G.units H6 ((hb.mono hs2).t.mono (h3.trans (hsub.trans (s5.trans s6))))).mono ?_
     rintro x H7 ⟨s7,rfl⟩
     have k57:=(s7.2 _ (by omega)).trans k56
     have k67:=(s7.2 _ (by omega)).trans k6
     have hacc7:=(s7.2 _ (by omega)).trans hacc6
     have hn7:=s7.1
     simp (disch:=omega) [e1,e2,e4,e8,e9,e10,e11,k67,hacc7,aj]
     have hq1:=congrArg Prod.fst hsp
     have hq2:=congrArg Prod.snd hsp
     simp only at hq1 hq2
     refine ⟨hlt,Sub.put (Sub.put (hsub.trans (s5.trans (s6.trans s7))) (by omega) _) (Nat.le_refl _) _,by omega,?_,?_⟩<;>(rw [et]; simp [jf,h1,h2,ann,h4,hq1,hq2])
   ·simp (disch:=omega) [e1,e2,e4,e8,e9,e10,e11,h1,h2,k5,aj]
    exact ⟨hlt,hsub.trans s5,by omega,by rw [et]; simpa [jf,h1,h2] using hacc5⟩
  ·simp (disch:=omega) [e1,e2,e4,e8,e9,e10,e11,h1,aj]
   exact ⟨hlt,hsub.trans s5,by omega,by rw [et]; simpa [jf,h1] using hacc5⟩
 ·have:i=s.grants.length:=by omega
  subst this
  rw [accAt_all] at hacc
  have k8':=(hsub.2 _ (by omega)).trans ((h3.2 _ (by omega)).trans k8)
  simp (disch:=omega) [e8,e10,hacc,k8']
  exact Sub.put (hs2.trans (h3.trans hsub)) (by omega) _
theorem span_eql (a b c d:Int):dx T .eql 66 (.agg #[vi a,vi b]) (.agg #[vi c,vi d])=some (.bool (decide (a=c∧b=d))):=by
 have e:jq T 66 (.agg #[vi a,vi b]) (.agg #[vi c,vi d])=some (decide (a=c∧b=d)):=by
  simp [jq,cq,fi]
  rw [Bool.eq_iff_iff]; simp
 simp [dx,e]
theorem holds_law {H:GH} {l:BLoc} {b:Book} (hb:BookIn H l b) (hfx:FxOk H.fx) (person sys day:Int):C 12 [dl l b,vi person,vi sys,vi day] H (.bool true) H:=by
 refine au tok mix a9n (F:=g12) (c:=_) rfl (n:=73) rfl (rs:= [.tmp 8]) rfl (ac rfl) ?_
 rcases l with ⟨⟨⟨ra,rf⟩⟩,⟨oa,of'⟩,⟨va,vf⟩⟩
 simp
 generalize hH1:GH.push H _=H1
 have hs1:Sub H H1:=by subst hH1; exact Sub.push (.refl H) _
 have k0:H1.get H.next=some (.arr { cells:=bq ⟨⟨⟨ra,rf⟩⟩,⟨oa,of'⟩,⟨va,vf⟩⟩ b,ty:=28 }):=by subst hH1; simp
 have hn1:H1.next=H.next+1:=by subst hH1; simp
 have hf1:FxOk H1.fx:=by subst hH1; exact hfx
 have hb1:=hb.mono hs1
 clear hH1
 with_reducible refine (uc ⟨⟨⟨_,_⟩⟩,⟨_,_⟩,⟨_,_⟩⟩ b _ hb1).go ?_
 simp
 cases hsh:nw b
 ·simp
  refine (cx hf1).go ?_
  simp
  exact hs1
 obtain ⟨h15,h14,h8,h4⟩:=qv hsh
 simp [k0]
 refine (an9 hb1 person sys day).go ?_
 generalize hq:vz b (im b day (az b person&&bj sys)) person sys=q
 simp (disch:=omega)
 generalize hH3:GH.put _ _ _=H3
 have s3:Sub H1 H3:=by subst hH3; exact ⟨by simp,fun g hg=>by simp (disch:=omega)⟩
 have k9:H3.get H1.next=some (.arr { cells:= [vi q.1,vi q.2.1],ty:=66 }):=by subst hH3; simp
 have hf3:FxOk H3.fx:=by subst hH3; exact hf1
 have hn3:H3.next=H1.next+1:=by subst hH3; simp
 clear hH3
 have k3:=(s3.2 H.next (by omega)).trans k0
 have hs3:=hs1.trans s3
 have hb3:=hb.mono hs3
 simp (disch:=omega) [k0]
 with_reducible refine (py ⟨⟨⟨_,_⟩⟩,⟨_,_⟩,⟨_,_⟩⟩ b _ hb3 (by omega)).go ?_
 simp
 have bad:∀n:Int,n≠0→im b day (az b person&&bj sys)=.err n→q=(0,0,n):=fun n hn ho=>by rw [←hq,ho]; rfl
 cases hB:aq b
 ·rw [bad 2 (by decide) (oy (by simp [fz,hB]))] at k9
  simp (disch:=omega) [bad 2 (by decide) (oy (by simp [fz,hB])),k9,span_eql]
  refine (cx hf3).go ?_
  simp
  exact hs3
 simp (disch:=omega) [k3]
 with_reducible refine (ji ⟨⟨⟨_,_⟩⟩,⟨_,_⟩,⟨_,_⟩⟩ b _ _).go ?_
 simp
 cases hp:az b person
 ·rw [bad 2 (by decide) (oy (by simp [fz,hp]))] at k9
  simp (disch:=omega) [bad 2 (by decide) (oy (by simp [fz,hp])),k9,span_eql]
  refine (cx hf3).go ?_
  simp
  exact hs3
 simp
 refine (jn _ _).go ?_
 simp
 cases hy:bj sys
 ·rw [bad 2 (by decide) (oy (by simp [fz,hy]))] at k9
  simp (disch:=omega) [bad 2 (by decide) (oy (by simp [fz,hy])),k9,span_eql]
  refine (cx hf3).go ?_
  simp
  exact hs3
 simp
 refine (sq _ _).go ?_
 simp
 cases hd:fu day
 ·rw [bad 2 (by decide) (oy (by simp [fz,hd]))] at k9
  simp (disch:=omega) [bad 2 (by decide) (oy (by simp [fz,hd])),k9,span_eql]
  refine (cx hf3).go ?_
  simp
  exact hs3
 simp (disch:=omega) [k3]
 with_reducible refine (wm ⟨⟨⟨_,_⟩⟩,⟨_,_⟩,⟨_,_⟩⟩ b _ hb3 hsh).go ?_
 simp
 cases hR:nt b
 ·rw [bad 7 (by decide) (qq hB hR hd (by simp [hp,hy]))] at k9
  simp (disch:=omega) [bad 7 (by decide) (qq hB hR hd (by simp [hp,hy])),k9,span_eql]
  refine (cx hf3).go ?_
  simp
  exact hs3
 obtain ⟨_,hwr⟩:=zt hR
 obtain ⟨s,hs⟩:=yr hB hwr day
 have ho:=zo hB hwr hs hd (ok:=az b person&&bj sys) (by simp [hp,hy])
 obtain ⟨n,_,_,_,hW,_⟩:=Wa_up hB hs
 rw [ho] at hq
 subst hq
 simp only [vz] at k9 ⊢
 simp (disch:=omega) [k3,k9]
 refine (rHolds_con hb3 hB (h4 hB) hs hW person sys).fx.mono ?_
 rintro x H4 ⟨⟨s4,rfl⟩,f4⟩
 have hf4:FxOk H4.fx:=by rw [f4]; exact hf3
 have k94:=(s4.2 _ (by omega)).trans k9
 simp (disch:=omega) [k94,span_eql]
 refine (cx hf4).go ?_
 simp
 exact hs3.trans s4
end Go.Gm.Tryz
end
section
namespace Go.Gm.Tryz
open Go.Proofs Go.Proofs.YtmnfgajihkfahaaGreatDoor Go.RowKit
theorem grantHolds_spec:LawSpec Rows.grantHoldsSpec 4:=⟨rfl,fun H xs h=>by
 match xs,h with
 | [_,_,_,_],_=>rfl⟩
set_option maxRecDepth 100000 in
theorem grantHolds_lifted (os:Os) (started:os.Started) (H:Type) (enc:TypeId×Value→H):
  ReturnsInHanded {} Tryz.checked os 12 .any (fun w args=>(Rows.grantHoldsSpec.pre enc Tryz.prog Tryz.f12 [] false w args∧laidMetH Tryz.prog li w)∧sizedMet enc Tryz.prog Tryz.f12 (OpenSpec.ofChange Rows.grantHoldsSpec) false w args)
   (Rows.grantHoldsSpec.post enc Tryz.prog Tryz.f12 false true false false):=by
 refine fk (C:=Tryz.checked) (X:=fun w _=>laidMetH Tryz.prog li w) (fun _ _ _ hh h=>h.of_heap hh) own started (by kernel_rfl) Tryz.func12
  (ChangeSpec.witness_shaped (enc:=enc) (C:=Tryz.checked) (os:=os) (X:=fun w _=>laidMetH Tryz.prog li w) false (World.laidAll Tryz.prog os li) #[.agg #[.slice none 0 0,.int .i64 0,.int .i64 0,.int .i64 0,.int .i64 0,.slice none 0 0,.slice none 0 0],.int .i64 0,.int .i64 0,.int .i64 0] 9 (World.laidAll_os _ _ _)
   (World.shaped_of_ZipB (by kernel_rfl) (by kernel_rfl)) (by kernel_rfl) (by kernel_rfl) (by kernel_rfl)
   (by rw [MakeChecks.laidMetH_plain _ _ _ (by kernel_rfl)]; exact laidMet_laidAll _ (by kernel_rfl) (by kernel_rfl))) ?_
 intro W base args ds gs before hsh hval _ hw hL
 obtain ⟨fx,hfx,hok,hW⟩:=anh hL hsh
 refine tw (P:=Tryz.prog) (fn:=Tryz.f12) (ds:= [sh,dI,dI,dI]) abw (by rw [Tryz.params12]; exact .cons abt (.cons rz (.cons (.int Tryz.underlying51) (.cons rz .nil)))) (by kernel_rfl) Tryz.underlying4 (by
  rw [Tryz.params12]
  intro t ht
  have hall:([28,3,51,3].all fun t=>Tryz.prog.readableRec t&&decide (t<Tryz.prog.types.size))=true:=by kernel_rfl
  have:=List.all_eq_true.1 hall t (by simpa using ht)
  simpa using this) grantHolds_spec hW hfx ?_ hval hw
 intro G gss hG hLie
 have hfG:FxOk G.fx:=by rw [hG]; exact hok
 cases hLie with
 |cons h1 h2=>
 cases h2 with
 |cons h2 h3=>
 cases h3 with
 |cons h3 h4=>
 cases h4 with
 |cons h4 h5=>
 cases h5
 obtain ⟨l,b,e,hb,_,_,k3⟩:=yb h1
 obtain ⟨n,rfl⟩:=ew h2
 obtain ⟨m,rfl⟩:=ew h3
 obtain ⟨o,rfl⟩:=ew h4
 show ay Tryz.prog 12 [ahz sh _,vi n,vi m,vi o] G _
 rw [e]
 exact (holds_law hb hfG n m o).mono fun x _ h=>h.1
theorem grantHolds_inPlace:(Rows.grantHoldsRow.inPlace==Tryz.prog.inPlace 12)=true:=by kernel_rfl
theorem grantHolds_unf:(Rows.grantHoldsRow.unfollowed==Tryz.prog.unfollowed 12)=true:=by kernel_rfl
theorem grantHolds_rec:(Rows.grantHoldsRow.recurses==Tryz.prog.recurses 12)=true:=by kernel_rfl
theorem grantHolds_named:(Rows.grantHoldsRow.named==Tryz.prog.varsNamed 12)=true:=by kernel_rfl
theorem grantHolds_joined:joinedFacts Tryz.prog 12 Tryz.f12 Rows.grantHoldsSpec Rows.grantHoldsRow=true:=by
 unfold joinedFacts
 exact am (am (am (am (am (am (am (am (am (am (am (am (am (am (am (am (am (am (am (am (am (am (am (am (am (am (am (am (am (am (am (by kernel_rfl) (by kernel_rfl)) (by kernel_rfl)) (by kernel_rfl)) (by kernel_rfl)) (by kernel_rfl)) (by kernel_rfl)) (by kernel_rfl)) (by kernel_rfl)) grantHolds_inPlace) grantHolds_unf) grantHolds_rec) grantHolds_named) (by kernel_rfl)) (by kernel_rfl)) (by kernel_rfl)) (by kernel_rfl)) (by kernel_rfl)) (by kernel_rfl)) (by kernel_rfl)) (by kernel_rfl)) (by kernel_rfl)) (by kernel_rfl)) (by kernel_rfl)) (by kernel_rfl)) af9) (by rw [agc]; exact beq_self_eq_true _)) (by rw [anr]; exact beq_self_eq_true _)) (by kernel_rfl)) (by kernel_rfl)) (by kernel_rfl)) (by kernel_rfl)
theorem grantHolds_holds:Rows.GrantHoldsSaid:=
 OpenClaim.holds_of_wide 12 Tryz.f12 rfl rfl rfl rfl rfl rfl rfl ⟨rfl,rfl,rfl,rfl,rfl⟩ rfl rfl rfl rfl rfl (by kernel_rfl) Tryz.func12 grantHolds_joined
  (of_decide_eq_true (by kernel_rfl)) (by unfold Func.isWrapper; first|(rw [if_pos (by decide+kernel)]; kernel_rfl)|(rw [if_neg (by decide+kernel)]; exact ⟨rfl,rfl⟩))
  (fun os started H enc _=>grantHolds_lifted os started H enc)
end Go.Gm.Tryz
namespace Go.Proofs.YtmnfgajihkfahaaGreatDoor
open Go.Gm.Tryz
set_option maxRecDepth 100000 in
theorem grantHolds_card_holds:Rows.GrantHoldsCardSaid:=
 Claim7.holds_tied_plain_at .later [] [.data,.data,.data,.data,.pinned] true (true, "c50a2473247fd563652536c5189614d6c43fc7c925362f406516d21693885498") true
  grantHolds_holds (fun _ h=>by cases h) (by kernel_rfl) (fun _ h=>by cases h) grantHolds_row_tie rfl ⟨rfl,rfl⟩ anq rfl
  (fun f fn hf hfn=>by
   obtain rfl:f=12:=Option.some.inj ((show Tryz.prog.funcNamed "quinaria/quinarialaw06.GrantHolds"=some 12 by kernel_rfl).symm.trans hf)|>.symm
   obtain rfl:fn=Tryz.f12:=(Option.some.inj (Tryz.func12.symm.trans hfn)).symm
   exact ⟨agv,fun j t ht=>by
    rw [Tryz.params12] at ht
    have hm:t∈ [28,3,51,3]:=by simpa using Array.mem_of_getElem? ht
    have hall:([28,3,51,3].all fun u=> !Tryz.prog.wantsStandIn u)=true:=by kernel_rfl
    exact (show Tryz.prog.wantsStandIn t=false by simpa using List.all_eq_true.1 hall t hm)⟩)
  (by kernel_rfl)
end Go.Proofs.YtmnfgajihkfahaaGreatDoor
end
end
