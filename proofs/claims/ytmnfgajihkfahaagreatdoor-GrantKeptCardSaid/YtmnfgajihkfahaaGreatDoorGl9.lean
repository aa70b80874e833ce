/- The function GrantKept, called with any register and any day, returns true, and never panics: by the model of the language, for every input that the card fits, and under the card's conditions alone. -/
import Derived.Test.YtmnfgajihkfahaaGreatDoorBa6
import Derived.Test.YtmnfgajihkfahaaGreatDoorTie
noncomputable section
section
namespace Go.Gm.Tryz
open Go.Proofs
@[simp] theorem blz:ah 13 g9.plans=some [(0,[]),(1,[]),(2,[]),(3,[]),(4,[]),(5,[]),(6,[]),(7,[]),(8,[]),(9,[]),(10,[]),(11,[]),(12,[]),(13,[]),(14,[]),(15,[]),(16,[]),(17,[])]:=ai rfl
@[simp] theorem bl0:ah 22 g9.plans=some [(0,[]),(1,[]),(2,[]),(3,[]),(4,[]),(5,[]),(6,[]),(7,[]),(8,[]),(9,[]),(10,[]),(11,[]),(12,[]),(13,[]),(14,[]),(15,[]),(16,[]),(17,[]),(18,[]),(19,[]),(20,[]),(21,[]),(22,[]),(23,[])]:=ai rfl
@[simp] theorem bl1:ah 24 g9.plans=some [(0,[]),(1,[]),(2,[]),(3,[]),(4,[]),(5,[]),(6,[]),(7,[]),(8,[])]:=ai rfl
end Go.Gm.Tryz
end
section
namespace Go.Gm.Tryz
open Go.Proofs
theorem day_step {b:Book} (hB:aq b=true) {i:Nat} (hi:i+1<b.events.length):b.events[i].day≤b.events[i+1].day:=by
 simp only [aq,Bool.and_eq_true,List.all_eq_true,List.mem_range] at hB
 have:=hB.1.2 (i+1) hi
 unfold mc at this
 rw [bc hi,Nat.add_sub_cancel,bc (show i<b.events.length by omega)] at this
 simp at this
 exact this.2
theorem day_mono {b:Book} (hB:aq b=true) {i:Nat}:∀(k:Nat) (h:i+k<b.events.length),(b.events[i]'(by omega)).day≤b.events[i+k].day:=by
 intro k
 induction k with
 |zero=>intro h; exact Int.le_refl _
 |succ k ih=>intro h; exact Int.le_trans (ih (by omega)) (day_step hB h)
theorem Cut.mem {b:Book} (hB:aq b=true) {d:Int} {n:Nat} (h:Cut b d n) {e:Ev}:e∈b.events.take n↔e∈b.events∧e.day≤d:=by
 constructor
 ·exact fun he=>⟨List.mem_of_mem_take he,h.lo e he⟩
 ·rintro ⟨he,hd⟩
  obtain ⟨i,hi,rfl⟩:=List.mem_iff_getElem.1 he
  by_cases hc:i<n
  ·exact List.mem_take_iff_getElem.2 ⟨i,by omega,rfl⟩
  ·have h1:=h.hi (by omega)
   have h2:=day_mono hB (i:=n) (i - n) (by omega)
   have e:n+(i - n)=i:=by omega
   simp only [e] at h2
   omega
theorem J.alive {b:Book} (hB:aq b=true) {d:Int} {n:Nat} {u:Stand} (hc:Cut b d n) (h:J b (b.events.take n) u) {p:Int} (hp:Liv b u p):az b p=true∧bnd b p d=false:=by
 have hbo:=(l8 hB).persons
 refine ⟨?_,?_⟩
 ·have:=hp.1; have:=hp.2.1
  simp (disch:=omega) only [az,inI,aj,decide_eq_true_eq]
  omega
 ·unfold bnd
  rw [List.any_eq_false]
  intro e he hd
  simp only [decide_eq_true_eq] at hd
  have h1:=h.dead e ((hc.mem hB).2 ⟨he,hd.2.1⟩) hd.1
  rw [hd.2.2,hp.2.2] at h1
  cases h1
end Go.Gm.Tryz
end
section
namespace Go.Gm.Tryz
open Go.Proofs
theorem zt {b:Book} (h:nt b=true):aq b=true∧dw b=none:=by
 simp only [nt,Bool.and_eq_true,Option.isNone_iff_eq_none] at h
 exact h
theorem qv {b:Book} (h:nw b=true):b.tbl.rows.length≤15∧b.events.length≤14∧b.owners.length≤8∧(aq b=true→b.tbl.rows.length≤4):=by
 have h':=h
 simp [nw] at h'
 refine ⟨by omega,by omega,by omega,fun hB=>?_⟩
 have ht:=xj hB
 simp [ht] at h'
 omega
end Go.Gm.Tryz
end
section
namespace Go.Gm.Tryz
open Go.Proofs
structure Wa (b:Book) (s:Stand):Prop where
 gw:∀g∈s.grants,g.is≠3→0≤ct b.tbl g.system g.units
 fr:ads b s≤b.supply
 ww:∀w∈s.waits,0≤ct b.tbl (db b w).system (db b w).units
 ln:s.grants.length+s.waits.length≤100
theorem sum_set {f:GSt→Int}:∀ {l:List GSt} {i:Nat} {y:GSt} (h:i<l.length),((l.set i y).map f).sum=(l.map f).sum - f l[i]+f y:=by
 intro l
 induction l with
 |nil=>intro i y h; simp at h
 |cons x l ih=>
  intro i y h
  cases i with
  |zero=>simp; omega
  |succ i=>
   simp only [List.length_cons] at h
   have:=ih (i:=i) (y:=y) (by omega)
   simp only [List.set_cons_succ,List.map_cons,List.sum_cons,List.getElem_cons_succ,this]
   omega
section
variable {b:Book} {s:Stand}
theorem Wa.use (h:Wa b s) {i:Nat} (hi:i<s.grants.length):0≤td b (gAt s i):=by
 unfold td
 split
 ·omega
 ·rename_i h3; exact h.gw _ (qj hi) h3
theorem used_set {s t:Stand} {i:Nat} {y:GSt} (hi:i<s.grants.length) (h:t.grants=s.grants.set i y):ads b t=ads b s - td b (gAt s i)+td b y:=by
 unfold ads
 rw [h,sum_set hi,gAt,bc hi]
theorem used_app {s t:Stand} {y:GSt} (h:t.grants=s.grants++ [y]):ads b t=ads b s+td b y:=by
 unfold ads
 rw [h,List.map_append,List.sum_append]
 simp
theorem Wa.add (h:Wa b s) (hs:0≤b.supply∧b.supply≤10000) {p e sy u:Int} (h0:0≤ct b.tbl sy u) (h1:ct b.tbl sy u≤mr b s) {t:Stand} (hg:t.grants=s.grants++ [⟨1,p,e,sy,u⟩]) (hw:∀w∈t.waits,w∈s.waits) (hl:s.grants.length+1+t.waits.length≤100):Wa b t:=by
 have hln:=h.ln
 rw [ain hs (by omega)] at h1
 refine ⟨fun g hgm h3=>?_,?_,fun w hw'=>h.ww w (hw w hw'),by rw [hg]; simp; omega⟩
 ·rw [hg] at hgm
  rcases List.mem_append.1 hgm with hgm|hgm
  ·exact h.gw g hgm h3
  ·simp at hgm; subst hgm; exact h0
 ·rw [used_app hg]
  simp only [td]
  rw [if_neg (by decide)]
  omega
theorem Wa.serve1 (hs:0≤b.supply∧b.supply≤10000) (s:Stand) (w:Int) (ws:List Int) (h:Wa b s) (hw:s.waits=w::ws) (hf:ct b.tbl (db b w).system (db b w).units≤mr b s):Wa b { ek s (db b w).person (-1) (db b w).system (db b w).units with waits:=ws }:=by
 have hln:=h.ln
 rw [hw] at hln
 simp only [List.length_cons] at hln
 exact h.add hs (h.ww w (by rw [hw]; simp)) hf rfl (fun v hv=>by rw [hw]; exact List.mem_cons_of_mem _ hv) (by simp only; omega)
theorem Wa.serve (hs:0≤b.supply∧b.supply≤10000) (h:Wa b s):Wa b (serve b s):=t8 (I:=Wa b) (fun s w ws h hw hf=>Wa.serve1 hs s w ws h hw hf) h
theorem Wa.set (h:Wa b s) {i:Nat} (hi:i<s.grants.length) {y:GSt} (hy:y.is≠3→0≤ct b.tbl y.system y.units) (hu:td b y≤td b (gAt s i)) {t:Stand} (hg:t.grants=s.grants.set i y) (hw:t.waits=s.waits):Wa b t:=
 ⟨fun g hgm h3=>by
  rw [hg] at hgm
  rcases List.mem_or_eq_of_mem_set hgm with hgm|rfl
  ·exact h.gw g hgm h3
  ·exact hy h3,by have:=h.fr; rw [used_set hi hg]; omega,fun w hw'=>h.ww w (hw▸hw'),by have:=h.ln; rw [hg,hw]; simpa using this⟩
theorem Wa.endG (h:Wa b s) {g:Nat} (hg:g<s.grants.length) (d:Int):Wa b (endG s g d):=
 h.set hg (y:= { gAt s g with is:=3,person:= -1 }) (fun hc=>absurd rfl hc) (by
  have:=h.use hg
  have e:td b { gAt s g with is:=3,person:= -1 }=0:=by simp [td]
  omega) rfl rfl
theorem Wa.pass (hs:0≤b.supply∧b.supply≤10000) (h:Wa b s) (d:Int):Wa b (pass b s d):=
 so (I:=Wa b) (fun s w ws h hw hf=>Wa.serve1 hs s w ws h hw hf) (fun _s _g h hg _ _=>h.endG hg _) h
theorem Wa.map (h:Wa b s) {f:GSt→GSt} (hf:∀g,(f g).is=g.is∧(f g).system=g.system∧(f g).units=g.units) {t:Stand} (ht:t.grants=s.grants.map f) (hw:t.waits=s.waits):Wa b t:=by
 have hu:ads b t=ads b s:=by
  unfold ads
  rw [ht,List.map_map]
  congr 2
  funext g
  simp only [Function.comp,td,(hf g).1,(hf g).2.1,(hf g).2.2]
 refine ⟨fun g hgm h3=>?_,by rw [hu]; exact h.fr,fun w hw'=>h.ww w (hw▸hw'),by have:=h.ln; rw [ht,hw]; simpa using this⟩
 rw [ht] at hgm
 obtain ⟨x,hx,rfl⟩:=List.mem_map.1 hgm
 rw [(hf x).1] at h3
 rw [(hf x).2.1,(hf x).2.2]
 exact h.gw x hx h3
theorem Wa.own (h:Wa b s) (n:Nat) (p:Int):Wa b (jz s n p):=
 h.map (f:=fun x=>if x.estate=(n:Int) then { x with person:=p } else x) (fun g=>by split<;>exact ⟨rfl,rfl,rfl⟩) rfl rfl
theorem useG_of {g h:GSt} (h1:(g.is=3)↔(h.is=3)) (h2:g.system=h.system) (h3:g.units=h.units):td b g=td b h:=by
 unfold td
 simp only [h1,h2,h3]
theorem Wa.do_ (hs:0≤b.supply∧b.supply≤10000) (h:Wa b s) (hW:Wg b s) {e:Ev} (hev:EvOk b s e) (he:bv b e=true) (hl:s.grants.length+s.waits.length<100) (hes:∀i,i<s.grants.length→(gAt s i).is=1∨(gAt s i).estate= -1) (hg:cu b s e=true) {n:Nat} (hn:db b n=e):Wa b (doS b s e n):=by
 unfold cu at hg
 unfold doS
 by_cases k1:e.kind=1
 ·rw [if_pos k1] at hg ⊢
  simp only [Bool.and_eq_true,q9,decide_eq_true_eq] at hg
  exact h.add hs hg.2.1 hg.2.2.1 rfl (fun w hw=>hw) (by simp only [air,ek]; omega)
 rw [if_neg k1] at hg ⊢
 by_cases k2:e.kind=2
 ·rw [if_pos k2] at hg ⊢
  simp only [Bool.and_eq_true,q9,decide_eq_true_eq] at hg
  exact h.add hs hg.2.1 hg.2.2.1 rfl (fun w hw=>hw) (by simp only [qd,ek]; omega)
 rw [if_neg k2] at hg ⊢
 by_cases k3:e.kind=3
 ·rw [if_pos k3]
  exact af4 (I:=Wa b) (fun s h=>⟨h.gw,h.fr,h.ww,h.ln⟩) (fun s i h _ _=>h.own i e.other) (fun s h=>⟨h.gw,h.fr,fun w hw=>h.ww w (List.mem_filter.1 hw).1,by
    have:=List.length_filter_le (jg b e) s.waits
    have:=h.ln
    simp only [mn]; omega⟩)
   (fun s i h hi _ _=>(h.endG hi e.day).serve hs) (fun s i h hi h1 h2 h3=>h.set hi (y:= { gAt s i with is:=2,person:=e.other }) (fun _=>h.gw (gAt s i) (qj hi) (by omega)) (by
    rw [useG_of (g:= { gAt s i with is:=2,person:=e.other }) (h:=gAt s i) (by simp only; omega) rfl rfl]
    exact Int.le_refl _) rfl rfl) h
 rw [if_neg k3] at hg ⊢
 by_cases k4:e.kind=4
 ·rw [if_pos k4]; exact h.own _ _
 rw [if_neg k4] at hg ⊢
 by_cases k5:e.kind=5
 ·rw [if_pos k5] at hg ⊢
  have hu:=ae3 he k5
  simp [nn,yi] at hg
  obtain ⟨g1,g2,g3,g4,g5,g6,g7⟩:=hg
  have hge:=hev.grant
  have hgd:s.grants[e.grant.toNat]?.getD default=gAt s e.grant.toNat:=by simp [gAt]
  rw [hgd] at g2 g3 g5 g6 g7
  have hlt:e.grant.toNat<s.grants.length:=by omega
  have hm:=hW.gr _ (qj hlt)
  have hwr:IntKind.i64.wrap ((gAt s e.grant.toNat).units - e.units)=(gAt s e.grant.toNat).units - e.units:=aj _ (by omega) (by omega)
  rw [hwr] at g6 g7
  have w1:=aqb b.tbl (gAt s e.grant.toNat).system e.units
  have w2:=aqb b.tbl (gAt s e.grant.toNat).system ((gAt s e.grant.toNat).units - e.units)
  have w3:=aqb b.tbl (gAt s e.grant.toNat).system (gAt s e.grant.toNat).units
  have q1:IntKind.i64.wrap (ct b.tbl (gAt s e.grant.toNat).system e.units+ct b.tbl (gAt s e.grant.toNat).system ((gAt s e.grant.toNat).units - e.units))=ct b.tbl (gAt s e.grant.toNat).system e.units+ct b.tbl (gAt s e.grant.toNat).system ((gAt s e.grant.toNat).units - e.units):=aj _ (by omega) (by omega)
  rw [q1] at g7
  have q2:IntKind.i64.wrap (ct b.tbl (gAt s e.grant.toNat).system e.units+ct b.tbl (gAt s e.grant.toNat).system ((gAt s e.grant.toNat).units - e.units) - ct b.tbl (gAt s e.grant.toNat).system (gAt s e.grant.toNat).units)=ct b.tbl (gAt s e.grant.toNat).system e.units+ct b.tbl (gAt s e.grant.toNat).system ((gAt s e.grant.toNat).units - e.units) - ct b.tbl (gAt s e.grant.toNat).system (gAt s e.grant.toNat).units:=aj _ (by omega) (by omega)
  rw [q2] at g7
  have hln:=h.ln
  rw [ain hs (by omega)] at g7
  have hsu:=used_set (b:=b) (s:=s) (t:= { s with owners:=s.owners++ [e.person],grants:=s.grants.set e.grant.toNat { gAt s e.grant.toNat with units:=IntKind.i64.wrap ((gAt s e.grant.toNat).units - e.units) } }) hlt rfl
  have hds:(fy s e).grants=s.grants.set e.grant.toNat { gAt s e.grant.toNat with units:=IntKind.i64.wrap ((gAt s e.grant.toNat).units - e.units) }++ [⟨1,e.person,s.owners.length,(gAt s e.grant.toNat).system,e.units⟩]:=rfl
  refine ⟨fun g hgm h3=>?_,?_,h.ww,by rw [hds]; simp [fy,ek]; omega⟩
  ·rw [hds] at hgm
   rcases List.mem_append.1 hgm with hgm|hgm
   ·rcases List.mem_or_eq_of_mem_set hgm with hgm|rfl
    ·exact h.gw g hgm h3
    ·simp only [hwr]; exact g6
   ·simp at hgm; subst hgm; exact g5
  ·have hap:=used_app (b:=b) (s:= { s with owners:=s.owners++ [e.person],grants:=s.grants.set e.grant.toNat { gAt s e.grant.toNat with units:=IntKind.i64.wrap ((gAt s e.grant.toNat).units - e.units) } }) (t:=fy s e) hds
   rw [hap,hsu]
   have hus:=h.use hlt
   have e3:td b (⟨1,e.person,s.owners.length,(gAt s e.grant.toNat).system,e.units⟩:GSt)=ct b.tbl (gAt s e.grant.toNat).system e.units:=by simp [td]
   rw [e3]
   have hfr:=h.fr
   have his:(gAt s e.grant.toNat).is=1:=by have:=hes _ hlt; omega
   have e4:td b (gAt s e.grant.toNat)=ct b.tbl (gAt s e.grant.toNat).system (gAt s e.grant.toNat).units:=by unfold td; rw [if_neg (by omega)]
   have e5:td b { gAt s e.grant.toNat with units:=IntKind.i64.wrap ((gAt s e.grant.toNat).units - e.units) }=ct b.tbl (gAt s e.grant.toNat).system ((gAt s e.grant.toNat).units - e.units):=by
    unfold td; simp only; rw [if_neg (by omega),hwr]
   rw [e4,e5]
   omega
 rw [if_neg k5] at hg ⊢
 by_cases k6:e.kind=6
 ·rw [if_pos k6]; exact h.map (f:=gh e) (fun g=>by unfold gh; split<;>exact ⟨rfl,rfl,rfl⟩) rfl rfl
 rw [if_neg k6] at hg ⊢
 by_cases k7:e.kind=7
 ·rw [if_pos k7] at hg ⊢
  simp only [Bool.and_eq_true,decide_eq_true_eq] at hg
  have hge:=hev.grant
  have hlt:e.grant.toNat<s.grants.length:=by omega
  have h2:(gAt s e.grant.toNat).is=2:=hg.2.1
  exact h.set hlt (y:= { gAt s e.grant.toNat with is:=1 }) (fun _=>h.gw (gAt s e.grant.toNat) (qj hlt) (by omega)) (by
   rw [useG_of (g:= { gAt s e.grant.toNat with is:=1 }) (h:=gAt s e.grant.toNat) (by simp only; omega) rfl rfl]
   exact Int.le_refl _) rfl rfl
 rw [if_neg k7] at hg ⊢
 simp only [Bool.and_eq_true,decide_eq_true_eq] at hg
 refine ⟨h.gw,h.fr,fun w hw=>?_,by simp [aaz]; omega⟩
 simp only [aaz,List.mem_append,List.mem_singleton] at hw
 rcases hw with hw|rfl
 ·exact h.ww w hw
 ·rw [hn]; exact hg.2
end
def Srv (b:Book) (s:Stand):Prop:=∀w ws,s.waits=w::ws→mr b s<ct b.tbl (db b w).system (db b w).units
theorem serve_done (b:Book) (s:Stand):Srv b (serve b s):=by
 have:∀(n:Nat) (s:Stand),s.waits.length≤n→Srv b (gu b n s):=by
  intro n
  induction n with
  |zero=>
   intro s hn w ws hw
   have h0:s.waits=w::ws:=hw
   rw [h0] at hn
   simp at hn
  |succ n ih=>
   intro s hn
   simp only [gu]
   cases hw:s.waits with
   |nil=>
    intro w ws h
    simp only at h
    rw [hw] at h; cases h
   |cons w ws=>
    simp only
    split
    ·rename_i hf
     intro v vs h
     rw [hw] at h; cases h
     exact hf
    ·rw [hw] at hn
     simp only [List.length_cons] at hn
     exact ih _ (by simp only; omega)
 exact this _ s (Nat.le_refl _)
theorem Srv.pass {b:Book} {s:Stand} (h:Srv b s) (d:Int):Srv b (pass b s d):=by
 have:∀(n:Nat) (s:Stand),Srv b s→Srv b (lj b d n s):=by
  intro n
  induction n with
  |zero=>intro s h; exact h
  |succ n ih=>
   intro s h
   simp only [lj]
   split
   ·exact h
   ·exact ih _ (serve_done b _)
 exact this _ s h
theorem Wa.start {b:Book} (hs:0≤b.supply∧b.supply≤10000):Wa b (start b):=⟨fun g hg=>by simp [Tryz.start] at hg,by simp [ads,Tryz.start]; omega,fun w hw=>by simp [Tryz.start] at hw,by simp [Tryz.start]⟩
theorem Wa_up {b:Book} (hB:aq b=true) {d:Int} {u:Stand} (h:upS b d=.inr u):∃n,Cut b d n∧J b (b.events.take n) u∧Fd b (b.events.take n) u∧Wa b u∧Srv b u:=by
 have hs:=aaf hB
 have h12:=(l8 hB).events
 obtain ⟨n,t,h1,h2,⟨h3,h4,h5,h6⟩,rfl⟩:=ay6 hB (I:=fun done s=>Fd b done s∧Wg b s∧Wa b s∧Srv b s) (I':=fun done s=>Fd b done s∧Wg b s∧Wa b s) ⟨Fd.start b,Wg.start b,Wa.start hs,fun w ws h=>by simp [start] at h⟩ (fun _ _ d _ _ h=>⟨h.1.pass d,h.2.1.pass d,h.2.2.1.pass hs d,h.2.2.2.pass d⟩)
  (fun _ s h=>⟨h.1.serve,h.2.1.serve,h.2.2.serve hs,serve_done b s⟩)
  (fun n hn s _ hJ ⟨hF,hG,hA,_⟩ hev he hg hn'=>by
   have hlen:(b.events.take n).length=n:=by simp; omega
   have hsz:=hJ.sz
   unfold size at hsz
   exact ⟨hF.do_ hev (aks hB (List.getElem_mem hn)) (aew hB) hg hn',hG.do_ he hg hev.kind hev.grant hn',hA.do_ hs hG hev he (by omega) (fun i hi=>(hF.es i hi).2) hg hn'⟩) h
 exact ⟨n,h1,h2.pass d,h3.pass d,h5.pass hs d,h6.pass d⟩
end Go.Gm.Tryz
end
section
namespace Go.Gm.Tryz
open Go.Proofs
structure Fe (b:Book) (d:Int) (s:Stand):Prop where
 cnt:∀i:Nat,(s.fell.map Prod.fst).count (i:Int)=if i<s.grants.length∧(gAt s i).is=3 then 1 else 0
 rng:∀p∈s.fell,0≤p.1∧0≤p.2∧p.2≤d
section
variable {b:Book} {s:Stand} {d:Int} {done:List Ev}
def Lo (m:Int) (s:Stand):Prop:=∀i,i<s.grants.length→(gAt s i).is=2→m≤bl s i
end
structure Kp (u:List (Int×Int)) (m:Int) (s:Stand):Prop where
 ln:s.last.length=s.grants.length
 lo:Lo m s
 fe:∃more,s.fell=u++more∧∀p∈more,m<p.2
section
variable {b:Book} {s:Stand} {u:List (Int×Int)} {m:Int}
end
end Go.Gm.Tryz
end
section
namespace Go.Gm.Tryz
open Go.Proofs
def diedTo (b:Book) (p d:Int) (i:Nat):Bool:=(b.events.take i).any fun e=>decide (e.kind=3∧e.day≤d∧e.person=p)
theorem diedTo_zero {b:Book} {p d:Int}:diedTo b p d 0=false:=rfl
theorem diedTo_all {b:Book} {p d:Int}:diedTo b p d b.events.length=bnd b p d:=by rw [diedTo,List.take_length,bnd]
theorem diedTo_succ {b:Book} {p d:Int} {i:Nat} (h:i<b.events.length) (h0:diedTo b p d i=false):diedTo b p d (i+1)=decide (b.events[i].kind=3∧b.events[i].day≤d∧b.events[i].person=p):=by
 unfold diedTo at h0 ⊢
 rw [List.take_succ_eq_append_getElem h,List.any_append,h0,Bool.false_or]
 simp
theorem diedTo_true {b:Book} {p d:Int} {i:Nat} (h:diedTo b p d i=true):bnd b p d=true:=by
 obtain ⟨e,he,hp⟩:=List.any_eq_true.1 h
 exact List.any_eq_true.2 ⟨e,List.mem_of_mem_take he,hp⟩
theorem died_con (l:BLoc) (b:Book) (p d:Int) (H:GH) (hb:BookIn H l b) (hl:b.events.length≤1000):C 37 [dl l b,vi p,vi d] H (.bool (bnd b p d)) H:=by
 rcases l with ⟨⟨⟨ra,rf⟩⟩,⟨oa,of'⟩,⟨va,vf⟩⟩
 refine au tok mix a9z (F:=g37) (c:=_) rfl (n:=42) rfl (rs:= [.tmp 6]) rfl (ac rfl) ?_
 simp
 generalize hH1:GH.push H _=H1
 have hs1:Sub H H1:=by subst hH1; exact Sub.push (.refl H) _
 have k0:H1.get H.next=some (.arr { cells:=bq ⟨⟨⟨ra,rf⟩⟩,⟨oa,of'⟩,⟨va,vf⟩⟩ b,ty:=28 }):=by subst hH1; simp
 have hb1:=hb.mono hs1
 clear hH1
 refine cv tok mix (by kernel_rfl) b.events.length (fun i ρ m H'=>ρ 1=vi p∧ρ 2=vi d∧ρ 3=.pointer (some (ga H.next 0 0))∧ρ 7=vi i∧m= []∧H'=H1∧diedTo b p d i=false) (i0:=0) (by omega) (by simp [diedTo_zero]) ?_
 rintro i ρ m H1 hi ⟨e1,e2,e3,e7,rfl,rfl,hlo⟩
 simp (disch:=omega) [e3,e7,k0]
 by_cases hlt:i<b.events.length
 ·obtain ⟨a,ha,hab,hrd⟩:=hb1.events.at i hlt
  simp only at ha
  subst ha
  have key:=diedTo_succ (p:=p) (d:=d) hlt hlo
  simp (disch:=omega) [hlt,e3,e7,k0,hrd]
  by_cases h3:b.events[i].kind=3
  ·simp (disch:=omega) [h3,e2,e3,e7,k0,hrd]
   by_cases hd:b.events[i].day≤d
   ·simp (disch:=omega) [hd,e1,e3,e7,k0,hrd]
    refine ba (fun hp=>?_) (fun hp=>?_)
    ·simp
     exact ⟨diedTo_true (i:=i+1) (by rw [key]; simp [h3,hd,hp]),hs1⟩
    ·simp (disch:=omega) [e1,e2,e3,e7,aj]
     rw [key]; simp [h3,hd,hp]
   ·simp (disch:=omega) [hd,e1,e2,e3,e7,aj]
    rw [key]; simp [h3,hd]
  ·simp (disch:=omega) [h3,e1,e2,e3,e7,aj]
   rw [key]; simp [h3]
 ·have:i=b.events.length:=by omega
  subst this
  rw [diedTo_all] at hlo
  simp
  exact ⟨hlo,hs1⟩
end Go.Gm.Tryz
end
section
namespace Go.Gm.Tryz
open Go.Proofs
def anyTo (f:Ev→Bool) (l:List Ev) (i:Nat):Bool:=(l.take i).any f
end Go.Gm.Tryz
end
section
namespace Go.Gm.Tryz
open Go.Proofs
theorem water_some {t:Tbl} {sys u:Int} (h:0≤ct t sys u):ce t=true∧gi t sys u=true∧∃l,ju t sys u=some l∧pi t l=true∧jr t l=ct t sys u:=by
 unfold ct at h ⊢
 by_cases ha:gi t sys u=true
 ·rw [if_pos ha] at h ⊢
  have ht:ce t=true:=by simp only [gi,Bool.and_eq_true] at ha; exact ha.1.1
  cases hf:ju t sys u with
  |none=>rw [hf] at h; simp at h
  |some l=>exact ⟨ht,ha,l,rfl,ahy (by have:=(kd ht).1; omega) (xm hf).1,rfl⟩
 ·rw [if_neg ha] at h
  omega
theorem used_pos {b:Book}:∀l:List GSt,(∀g∈l,0≤td b g)→0≤(l.map (td b)).sum:=by
 intro l
 induction l with
 |nil=>intro _; simp
 |cons g l ih=>intro h; have:=ih fun x hx=>h x (List.mem_cons_of_mem _ hx); have:=h g (by simp); simp; omega
def usedTo (b:Book) (l:List GSt) (i:Nat):Int:=((l.take i).map (td b)).sum
theorem usedTo_zero {b:Book} {l:List GSt}:usedTo b l 0=0:=by simp [usedTo]
theorem usedTo_all {b:Book} {l:List GSt}:usedTo b l l.length=(l.map (td b)).sum:=by rw [usedTo,List.take_length]
theorem usedTo_succ {b:Book} {l:List GSt} {i:Nat} (h:i<l.length):usedTo b l (i+1)=usedTo b l i+td b l[i]:=by
 unfold usedTo
 rw [List.take_succ_eq_append_getElem h,List.map_append,List.sum_append]
 simp
theorem usedTo_bd {b:Book} {l:List GSt} {i:Nat} (h:i≤l.length): -(i:Int)≤usedTo b l i∧usedTo b l i≤6000*i:=by
 have:=aho b (l.take i)
 rw [List.length_take,Nat.min_eq_left h] at this
 exact this
theorem kept_law {H:GH} {l:BLoc} {b:Book} (hb:BookIn H l b) (hfx:FxOk H.fx) (day:Int):C 9 [dl l b,vi day] H (.bool true) H:=by
 refine au tok mix bk2 (F:=g9) (c:=_) rfl (n:=229) rfl (rs:= [.tmp 4]) rfl (ac rfl) ?_
 rcases l with ⟨⟨⟨ra,rf⟩⟩,⟨oa,of'⟩,⟨va,vf⟩⟩
 simp
 generalize hH1:GH.push H _=H1
 have hs1:Sub H H1:=by subst hH1; exact Sub.push (.refl H) _
 have k0:H1.get H.next=some (.arr { cells:=bq ⟨⟨⟨ra,rf⟩⟩,⟨oa,of'⟩,⟨va,vf⟩⟩ b,ty:=28 }):=by subst hH1; simp
 have hn1:H1.next=H.next+1:=by subst hH1; simp
 have hf1:FxOk H1.fx:=by subst hH1; exact hfx
 have hb1:=hb.mono hs1
 clear hH1
 with_reducible refine (uc ⟨⟨⟨_,_⟩⟩,⟨_,_⟩,⟨_,_⟩⟩ b _ hb1).go ?_
 simp
 cases hsh:nw b
 ·simp
  refine (cx hf1).go ?_
  simp
  exact hs1
 obtain ⟨h15,h14,h8,h4⟩:=qv hsh
 simp [k0]
 with_reducible refine (wm ⟨⟨⟨_,_⟩⟩,⟨_,_⟩,⟨_,_⟩⟩ b _ hb1 hsh).go ?_
 simp
 cases hR:nt b
 ·simp
  refine (cx hf1).go ?_
  simp
  exact hs1
 simp
 refine (sq _ _).go ?_
 simp
 cases hd:fu day
 ·simp
  refine (cx hf1).go ?_
  simp
  exact hs1
 obtain ⟨hB,hwr⟩:=zt hR
 obtain ⟨s,hs⟩:=yr hB hwr day
 have ho:=zo hB hwr hs hd (ok:=true) rfl
 obtain ⟨n,hn,hJ,hF,hW,hV⟩:=Wa_up hB hs
 simp (disch:=omega) [k0]
 refine (ab5 hb1 day).fx.mono ?_
 rintro x H2 ⟨⟨s2,v,rfl,hv⟩,f2⟩
 have k2:=(s2.2 H.next (by omega)).trans k0
 have hn2:=s2.1
 have hf2:FxOk H2.fx:=by rw [f2]; exact hf1
 have hs2:=hs1.trans s2
 have hb2:=hb.mono hs2
 have hsu:=aaf hB
 have hln:=hJ.wf.len
 have hfree:mr b s=b.supply - ads b s:=ain hsu (by omega)
 have hub:=aho b s.grants
 have hu0:0≤ads b s:=used_pos _ fun g hg=>by
  unfold td
  split
  ·omega
  ·rename_i h3; exact hW.gw g hg h3
 have hu1:ads b s=(s.grants.map (td b)).sum:=rfl
 have hfr:=hW.fr
 have hwrap:IntKind.i64.wrap (b.supply - mr b s)=ads b s:=by
  rw [hfree,show b.supply - (b.supply - ads b s)=ads b s by omega]; simp (disch:=omega) only [aj]
 simp (disch:=omega) [k2]
 refine (aen hb2 day).go ?_
 simp (disch:=omega) [k2]
 refine (aac hb2 day).fx.mono ?_
 rintro x H3 ⟨⟨s3,w,rfl,hw⟩,f3⟩
 have k3:=(s3.2 H.next (by omega)).trans k2
 have hn3:=s3.1
 have hf3:FxOk H3.fx:=by rw [f3]; exact hf2
 have hs3:=hs2.trans s3
 have hb3:=hb.mono hs3
 have hv3:=hv.sub s3
 rw [ho] at hv3 hw ⊢
 obtain ⟨a1,q1,rfl,hE1⟩:=hv3
 obtain ⟨a2,q2,rfl,hE2⟩:=hw
 simp only [o8,ml,tg,hwrap] at hE1 hE2 ⊢
 have L0:s.grants.length+s.waits.length≤b.events.length:=by have:=hJ.sz; have:=List.length_take_le n b.events; have:=List.length_take_le' n b.events; simp only [size] at*; omega
 have L1:¬b.events.length<s.grants.length:=by omega
 have L2:¬b.events.length<s.waits.length:=by omega
 have L3:¬mr b s<0:=by omega
 have L4:¬b.supply<mr b s:=by omega
 have L5:b.supply - mr b s=ads b s:=by omega
 simp (disch:=omega) [k3,L1,L2,L3,L4,L5,aj]
 refine cv tok mix (by kernel_rfl) s.grants.length (fun i ρ m H'=>ρ 1=vi day∧ρ 2=.pointer (some (ga H.next 0 0))∧ρ 5=.slice a1 s.grants.length q1∧ρ 7=vi (ads b s)∧ρ 8=vi (mr b s)∧ρ 10=.slice a2 s.waits.length q2∧ρ 12=vi (usedTo b s.grants i)∧ρ 13=vi i∧m= []∧Sub H3 H'∧FxOk H'.fx) (i0:=0) (by omega) (by simp [hf3,usedTo_zero]) ?_
 rintro i ρ m H4 hi ⟨e1,e2,e5,e7,e8,e10,e12,e13,rfl,hs4,hf4⟩
 have hb4:=hb3.mono hs4
 have hn4:=hs4.1
 have k4:=(hs4.2 H.next (by omega)).trans k3
 simp (disch:=omega) [e5,e13]
 refine ba (fun hlt=>?_) (fun hge=>?_)
 ·obtain ⟨a,rfl,hab,hrd⟩:=(hE1.mono hs4).at i hlt
  have hlt':(i:Int)<s.grants.length:=by omega
  have hsum:=usedTo_succ (b:=b) hlt
  have hsb:=usedTo_bd (b:=b) hi
  simp (disch:=omega) [e5,e13,hrd]
  by_cases c3:s.grants[i].is=3
  ·have hz:td b s.grants[i]=0:=by simp [td,c3]
   rw [hz,Int.add_zero] at hsum
   simp (disch:=omega) [c3,e1,e2,e5,e7,e8,e10,e12,e13,aj,hsum]
   exact ⟨hlt,hs4,hf4⟩
  have hw0:=hW.gw _ (List.getElem_mem hlt) c3
  obtain ⟨ht,hsa,sl,hfs,hset,hgi⟩:=water_some hw0
  have hz:td b s.grants[i]=ct b.tbl s.grants[i].system s.grants[i].units:=by simp [td,c3]
  have hzb:=aqb b.tbl s.grants[i].system s.grants[i].units
  rw [hz] at hsum
  simp (disch:=omega) [c3,e2,e5,e13,hrd,k4]
  with_reducible refine (awo ⟨⟨_,_⟩⟩ b.tbl _ _ _ hb4.t).fx.mono ?_
  rintro x H5 ⟨⟨s5,v5,r5,rfl,h5⟩,f5⟩
  rw [if_pos hsa,hfs] at h5
  obtain ⟨rfl,a5,q5,rfl,hE5⟩:=h5
  have k5:=(s5.2 H.next (by omega)).trans k4
  have hf5:FxOk H5.fx:=by rw [f5]; exact hf4
  simp (disch:=omega) [e2,k5]
  with_reducible refine (an8 ⟨⟨_,_⟩⟩ b.tbl sl _ _ _ (hb4.mono s5).t hE5).go ?_
  have g1:¬ct b.tbl s.grants[i].system s.grants[i].units<0:=by omega
  have g2:¬10000<ct b.tbl s.grants[i].system s.grants[i].units:=by omega
  simp (disch:=omega) [ht,hset,hgi,g1,g2,e1,e2,e5,e7,e8,e10,e12,e13,aj,hsum]
  exact ⟨hlt,hs4.trans s5,hf5⟩
 have:i=s.grants.length:=by omega
 subst this
 rw [usedTo_all,←hu1] at e12
 have hs5:=hs3.trans hs4
 simp (disch:=omega) [e7,e10,e12]
 cases hws:s.waits with
 |nil=>
  simp
  refine (cx hf4).go ?_
  simp
  exact hs5
 |cons w ws=>
  rw [hws] at hE2 e10
  have hwm:w∈s.waits:=by rw [hws]; simp
  have hwr':=hJ.wf.w w hwm
  obtain ⟨k,rfl⟩:∃k:Nat,w=k:=⟨w.toNat,by omega⟩
  have hk:k<b.events.length:=by omega
  have hkI:(k:Int)<b.events.length:=by omega
  have hk0:¬(k:Int)<0:=by omega
  have hk1:¬b.events.length≤k:=by omega
  have hev:db b k=b.events[k]:=abr hk
  have h8k:=(hF.wt _ hwm).2
  have hw0:=hW.ww _ hwm
  have hlate:=hV _ _ hws
  have hliv:=(hJ.alive hB hn (hJ.jx.wt _ hwm)).2
  rw [hev] at h8k hw0 hlate hliv
  obtain ⟨ht,hsa,sl,hfs,hset,hgi⟩:=water_some hw0
  obtain ⟨aw,rfl,haw,hrw⟩:=(hE2.mono hs4).at 0 (by simp)
  obtain ⟨ae,hae,hab,hre⟩:=hb4.events.at k hk
  simp only at hae
  subst hae
  simp at hrw
  simp (disch:=omega) [e2,e10,k4,hrw,hre,hk0,hk1,h8k]
  generalize hH5:GH.put _ _ _=H5
  have s5:Sub H4 H5:=by subst hH5; exact ⟨by simp,fun g hg=>by simp (disch:=omega)⟩
  have k5:H5.get H4.next=some (.arr { cells:=jb b.events[k],ty:=57 }):=by subst hH5; simp [h8k]
  have hf5:FxOk H5.fx:=by subst hH5; exact hf4
  have kb5:=(s5.2 H.next (by omega)).trans k4
  have hn5:H5.next=H4.next+1:=by subst hH5; simp
  clear hH5
  with_reducible refine (awo ⟨⟨_,_⟩⟩ b.tbl _ _ _ (hb4.mono s5).t).fx.mono ?_
  rintro x H6 ⟨⟨s6,v6,r6,rfl,h6⟩,f6⟩
  rw [if_pos hsa,hfs] at h6
  obtain ⟨rfl,a6,q6,rfl,hE6⟩:=h6
  have k6:=(s6.2 H4.next (by omega)).trans k5
  have kb6:=(s6.2 H.next (by omega)).trans kb5
  have hf6:FxOk H6.fx:=by rw [f6]; exact hf5
  have hb6:=(hb4.mono s5).mono s6
  simp (disch:=omega) [e2,kb6]
  with_reducible refine (an8 ⟨⟨_,_⟩⟩ b.tbl sl _ _ _ hb6.t hE6).go ?_
  simp (disch:=omega) [ht,hset,hgi,e8,hlate,e2,kb6,k6,e1]
  with_reducible refine (died_con ⟨⟨⟨_,_⟩⟩,⟨_,_⟩,⟨_,_⟩⟩ b _ _ _ hb6 (by omega)).go ?_
  simp (disch:=omega) [hliv]
  refine (cx hf6).go ?_
  simp
  exact hs5.trans (s5.trans s6)
end Go.Gm.Tryz
end
section
namespace Go.Gm.Tryz
open Go.Proofs Go.Proofs.YtmnfgajihkfahaaGreatDoor Go.RowKit
theorem grantKept_spec:LawSpec Rows.grantKeptSpec 2:=⟨rfl,fun H xs h=>by
 match xs,h with
 | [_,_],_=>rfl⟩
set_option maxRecDepth 100000 in
theorem grantKept_lifted (os:Os) (started:os.Started) (H:Type) (enc:TypeId×Value→H):
  ReturnsInHanded {} Tryz.checked os 9 .any (fun w args=>(Rows.grantKeptSpec.pre enc Tryz.prog Tryz.f9 [] false w args∧laidMetH Tryz.prog li w)∧sizedMet enc Tryz.prog Tryz.f9 (OpenSpec.ofChange Rows.grantKeptSpec) false w args)
   (Rows.grantKeptSpec.post enc Tryz.prog Tryz.f9 false true false false):=by
 refine fk (C:=Tryz.checked) (X:=fun w _=>laidMetH Tryz.prog li w) (fun _ _ _ hh h=>h.of_heap hh) own started (by kernel_rfl) Tryz.func9
  (ChangeSpec.witness_shaped (enc:=enc) (C:=Tryz.checked) (os:=os) (X:=fun w _=>laidMetH Tryz.prog li w) false (World.laidAll Tryz.prog os li) #[.agg #[.slice none 0 0,.int .i64 0,.int .i64 0,.int .i64 0,.int .i64 0,.slice none 0 0,.slice none 0 0],.int .i64 0] 9 (World.laidAll_os _ _ _)
   (World.shaped_of_ZipB (by kernel_rfl) (by kernel_rfl)) (by kernel_rfl) (by kernel_rfl) (by kernel_rfl)
   (by rw [MakeChecks.laidMetH_plain _ _ _ (by kernel_rfl)]; exact laidMet_laidAll _ (by kernel_rfl) (by kernel_rfl))) ?_
 intro W base args ds gs before hsh hval _ hw hL
 obtain ⟨fx,hfx,hok,hW⟩:=anh hL hsh
 refine tw (P:=Tryz.prog) (fn:=Tryz.f9) (ds:= [sh,dI]) abw (by rw [Tryz.params9]; exact .cons abt (.cons rz .nil)) (by kernel_rfl) Tryz.underlying4 (by
  rw [Tryz.params9]
  intro t ht
  have hall:([28,3].all fun t=>Tryz.prog.readableRec t&&decide (t<Tryz.prog.types.size))=true:=by kernel_rfl
  have:=List.all_eq_true.1 hall t (by simpa using ht)
  simpa using this) grantKept_spec hW hfx ?_ hval hw
 intro G gss hG hLie
 have hfG:FxOk G.fx:=by rw [hG]; exact hok
 cases hLie with
 |cons h1 h2=>
 cases h2 with
 |cons h2 h3=>
 cases h3
 obtain ⟨l,b,e,hb,_,_,k3⟩:=yb h1
 obtain ⟨n,rfl⟩:=ew h2
 show ay Tryz.prog 9 [ahz sh _,vi n] G _
 rw [e]
 exact (kept_law hb hfG n).mono fun x _ h=>h.1
theorem grantKept_inPlace:(Rows.grantKeptRow.inPlace==Tryz.prog.inPlace 9)=true:=by kernel_rfl
theorem grantKept_unf:(Rows.grantKeptRow.unfollowed==Tryz.prog.unfollowed 9)=true:=by kernel_rfl
theorem grantKept_rec:(Rows.grantKeptRow.recurses==Tryz.prog.recurses 9)=true:=by kernel_rfl
theorem grantKept_named:(Rows.grantKeptRow.named==Tryz.prog.varsNamed 9)=true:=by kernel_rfl
theorem grantKept_joined:joinedFacts Tryz.prog 9 Tryz.f9 Rows.grantKeptSpec Rows.grantKeptRow=true:=by
 unfold joinedFacts
 exact am (am (am (am (am (am (am (am (am (am (am (am (am (am (am (am (am (am (am (am (am (am (am (am (am (am (am (am (am (am (am (by kernel_rfl) (by kernel_rfl)) (by kernel_rfl)) (by kernel_rfl)) (by kernel_rfl)) (by kernel_rfl)) (by kernel_rfl)) (by kernel_rfl)) (by kernel_rfl)) grantKept_inPlace) grantKept_unf) grantKept_rec) grantKept_named) (by kernel_rfl)) (by kernel_rfl)) (by kernel_rfl)) (by kernel_rfl)) (by kernel_rfl)) (by kernel_rfl)) (by kernel_rfl)) (by kernel_rfl)) (by kernel_rfl)) (by kernel_rfl)) (by kernel_rfl)) (by kernel_rfl)) af9) (by rw [agc]; exact beq_self_eq_true _)) (by rw [anr]; exact beq_self_eq_true _)) (by kernel_rfl)) (by kernel_rfl)) (by kernel_rfl)) (by kernel_rfl)
theorem grantKept_holds:Rows.GrantKeptSaid:=
 OpenClaim.holds_of_wide 9 Tryz.f9 rfl rfl rfl rfl rfl rfl rfl ⟨rfl,rfl,rfl,rfl,rfl⟩ rfl rfl rfl rfl rfl (by kernel_rfl) Tryz.func9 grantKept_joined
  (of_decide_eq_true (by kernel_rfl)) (by unfold Func.isWrapper; first|(rw [if_pos (by decide+kernel)]; kernel_rfl)|(rw [if_neg (by decide+kernel)]; exact ⟨rfl,rfl⟩))
  (fun os started H enc _=>grantKept_lifted os started H enc)
end Go.Gm.Tryz
namespace Go.Proofs.YtmnfgajihkfahaaGreatDoor
open Go.Gm.Tryz
set_option maxRecDepth 100000 in
theorem grantKept_card_holds:Rows.GrantKeptCardSaid:=
 Claim7.holds_tied_plain_at .later [] [.data,.data,.data,.data,.pinned] true (true, "c50a2473247fd563652536c5189614d6c43fc7c925362f406516d21693885498") true
  grantKept_holds (fun _ h=>by cases h) (by kernel_rfl) (fun _ h=>by cases h) grantKept_row_tie rfl ⟨rfl,rfl⟩ anq rfl
  (fun f fn hf hfn=>by
   obtain rfl:f=9:=Option.some.inj ((show Tryz.prog.funcNamed "quinaria/quinarialaw06.GrantKept"=some 9 by kernel_rfl).symm.trans hf)|>.symm
   obtain rfl:fn=Tryz.f9:=(Option.some.inj (Tryz.func9.symm.trans hfn)).symm
   exact ⟨agv,fun j t ht=>by
    rw [Tryz.params9] at ht
    have hm:t∈ [28,3]:=by simpa using Array.mem_of_getElem? ht
    have hall:([28,3].all fun u=> !Tryz.prog.wantsStandIn u)=true:=by kernel_rfl
    exact (show Tryz.prog.wantsStandIn t=false by simpa using List.all_eq_true.1 hall t hm)⟩)
  (by kernel_rfl)
end Go.Proofs.YtmnfgajihkfahaaGreatDoor
end
end
