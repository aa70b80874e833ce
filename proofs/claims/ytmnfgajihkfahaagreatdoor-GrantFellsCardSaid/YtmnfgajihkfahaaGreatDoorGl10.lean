/- The function GrantFells, called with any register and any two days, returns true, and never panics: by the model of the language, for every input that the card fits, and under the card's conditions alone. -/
import Derived.Test.YtmnfgajihkfahaaGreatDoorBa6
import Derived.Test.YtmnfgajihkfahaaGreatDoorTie
noncomputable section
section
namespace Go.Gm.Tryz
open Go.Proofs
theorem zt {b:Book} (h:nt b=true):aq b=true∧dw b=none:=by
 simp only [nt,Bool.and_eq_true,Option.isNone_iff_eq_none] at h
 exact h
theorem qv {b:Book} (h:nw b=true):b.tbl.rows.length≤15∧b.events.length≤14∧b.owners.length≤8∧(aq b=true→b.tbl.rows.length≤4):=by
 have h':=h
 simp [nw] at h'
 refine ⟨by omega,by omega,by omega,fun hB=>?_⟩
 have ht:=xj hB
 simp [ht] at h'
 omega
theorem qq {b:Book} (hB:aq b=true) (h:nt b=false) {d:Int} (hd:fu d=true) {ok:Bool} (hk:ok=true):im b d ok=.err 7:=by
 cases hw:dw b with
 |none=>simp [nt,hB,hw] at h
 |some n=>exact apd hB hw hd hk
end Go.Gm.Tryz
end
section
namespace Go.Gm.Tryz
open Go.Proofs
structure Fe (b:Book) (d:Int) (s:Stand):Prop where
 cnt:∀i:Nat,(s.fell.map Prod.fst).count (i:Int)=if i<s.grants.length∧(gAt s i).is=3 then 1 else 0
 rng:∀p∈s.fell,0≤p.1∧0≤p.2∧p.2≤d
section
variable {b:Book} {s:Stand} {d:Int} {done:List Ev}
theorem Fe.app (h:Fe b d s) {y:GSt} (hy:y.is≠3) {t:Stand} (hg:t.grants=s.grants++ [y]) (hf:t.fell=s.fell):Fe b d t:=by
 refine ⟨fun i=>?_,by rw [hf]; exact h.rng⟩
 have hl:t.grants.length=s.grants.length+1:=by rw [hg]; simp
 rw [hf,h.cnt i]
 by_cases hi:i≤s.grants.length
 ·rw [xn hg hi]
  by_cases hc:i=s.grants.length
  ·subst hc
   rw [if_neg (by omega),if_neg (by simp [hy])]
  ·rw [if_neg hc,hl]
   have:(i<s.grants.length∧(gAt s i).is=3)↔(i<s.grants.length+1∧(gAt s i).is=3):=⟨fun h=>⟨by omega,h.2⟩,fun h=>⟨by omega,h.2⟩⟩
   simp only [this]
 ·rw [if_neg (by omega),if_neg (by omega)]
theorem Fe.serve (h:Fe b d s):Fe b d (serve b s):=t8 (I:=Fe b d) (fun s w ws h _ _=>h.app (by simp) rfl rfl) h
theorem Fe.endG (h:Fe b d s) {g:Nat} (hg:g<s.grants.length) (h2:(gAt s g).is=2) {x:Int} (hx:0≤x∧x≤d):Fe b d (endG s g x):=by
 have hgr:(Tryz.endG s g x).grants=s.grants.set g { gAt s g with is:=3,person:= -1 }:=rfl
 refine ⟨fun i=>?_,fun p hp=>?_⟩
 ·have e:((Tryz.endG s g x).fell.map Prod.fst)=s.fell.map Prod.fst++ [(g:Int)]:=by simp [Tryz.endG]
  rw [e,List.count_append,h.cnt i,mw hg hgr,hgr,List.length_set]
  by_cases hc:i=g
  ·subst hc
   rw [if_neg (by omega),if_pos rfl,if_pos ⟨hg,rfl⟩]
   simp
  ·rw [if_neg hc,List.count_singleton]
   have:((g:Int)==(i:Int))=false:=by simp; omega
   rw [this]
   simp
 ·simp only [Tryz.endG,List.mem_append,List.mem_singleton] at hp
  rcases hp with hp|rfl
  ·exact h.rng p hp
  ·exact ⟨by simp only; omega,hx⟩
theorem Fe.same (h:Fe b d s) {t:Stand} (hl:t.grants.length=s.grants.length) (hg:∀i,i<s.grants.length→((gAt t i).is=3↔(gAt s i).is=3)) (hf:t.fell=s.fell):Fe b d t:=by
 refine ⟨fun i=>?_,by rw [hf]; exact h.rng⟩
 rw [hf,h.cnt i,hl]
 by_cases hi:i<s.grants.length
 ·simp only [hg i hi]
 ·rw [if_neg (by omega),if_neg (by omega)]
theorem Fe.set (h:Fe b d s) {i:Nat} (hi:i<s.grants.length) {y:GSt} (hy:y.is=3↔(gAt s i).is=3) {t:Stand} (hg:t.grants=s.grants.set i y) (hf:t.fell=s.fell):Fe b d t:=
 h.same (by rw [hg]; simp) (fun j hj=>by
  rw [mw hi hg]
  split
  ·rename_i hc; subst hc; exact hy
  ·exact Iff.rfl) hf
theorem Fe.map (h:Fe b d s) {f:GSt→GSt} (hf:∀g,(f g).is=g.is) {t:Stand} (ht:t.grants=s.grants.map f) (hfl:t.fell=s.fell):Fe b d t:=
 h.same (by rw [ht]; simp) (fun j hj=>by rw [tv ht hj,hf]) hfl
theorem Fe.own (h:Fe b d s) (n:Nat) (p:Int):Fe b d (jz s n p):=
 h.map (f:=fun x=>if x.estate=(n:Int) then { x with person:=p } else x) (fun g=>by split<;>rfl) rfl rfl
def Lo (m:Int) (s:Stand):Prop:=∀i,i<s.grants.length→(gAt s i).is=2→m≤bl s i
theorem Fe.pass {m:Int} (hm:0≤m) (h:Fe b d s) (hl:Lo m s) (hb:s.last.length=s.grants.length) {x:Int} (hx:x≤d) (hd:d≤36500):Fe b d (pass b s x)∧Lo m (pass b s x):=by
 have:=so (b:=b) (d:=x) (I:=fun t=>Fe b d t∧Lo m t∧t.last.length=t.grants.length) (fun s w ws ⟨h1,h2,h3⟩ _ _=>⟨h1.app (y:=⟨1,(db b w).person,-1,(db b w).system,(db b w).units⟩) (by simp) rfl rfl,fun i hi k=>by
   have hg:({ ek s (db b w).person (-1) (db b w).system (db b w).units with waits:=ws }:Stand).grants=s.grants++ [⟨1,(db b w).person,-1,(db b w).system,(db b w).units⟩]:=rfl
   rw [hg] at hi
   simp only [List.length_append,List.length_cons,List.length_nil] at hi
   rw [xn hg (by omega)] at k
   split at k
   ·cases k
   ·rw [ai4 (s:=s) rfl (by omega)]
    exact h2 i (by omega) k,by simp [ek,h3]⟩)
  (fun s g ⟨h1,h2,h3⟩ hg k hf=>by
   have hsp:=aih s x
   have hlo:=h2 g hg k
   have hlt:bl s g<x:=by
    rcases hsp with ⟨h,_⟩|⟨j,e,_,h,_⟩
    ·omega
    ·have:j=g:=by omega
     subst this
     exact h.2
   have hw:IntKind.i64.wrap (bl s g+1)=bl s g+1:=aj _ (by omega) (by omega)
   refine ⟨h1.endG hg k (by rw [hw]; omega),fun i hi k2=>?_,by simp [Tryz.endG,h3]⟩
   have hgr:(Tryz.endG s g (IntKind.i64.wrap (bl s g+1))).grants=s.grants.set g { gAt s g with is:=3,person:= -1 }:=rfl
   rw [mw hg hgr] at k2
   rw [hgr,List.length_set] at hi
   split at k2
   ·cases k2
   ·exact h2 i hi k2) (s:=s) ⟨h,hl,hb⟩
 exact ⟨this.1,this.2.1⟩
theorem Fe.do_ (h:Fe b d s) {e:Ev} (hev:EvOk b s e) (hd:0≤e.day∧e.day≤d) (hg:cu b s e=true) (n:Nat):Fe b d (doS b s e n):=by
 unfold cu at hg
 unfold doS
 by_cases k1:e.kind=1
 ·rw [if_pos k1]; exact h.app (by simp) rfl rfl
 rw [if_neg k1] at hg ⊢
 by_cases k2:e.kind=2
 ·rw [if_pos k2]; exact h.app (by simp) rfl rfl
 rw [if_neg k2] at hg ⊢
 by_cases k3:e.kind=3
 ·rw [if_pos k3]
  exact af4 (I:=Fe b d) (fun s h=>⟨h.cnt,h.rng⟩) (fun s i h _ _=>h.own i e.other) (fun s h=>⟨h.cnt,h.rng⟩)
   (fun s i h hi h2 _=>(h.endG hi h2 hd).serve) (fun s i h hi h1 h2 h3=>h.set hi (y:= { gAt s i with is:=2,person:=e.other }) (by simp only; omega) rfl rfl) h
 rw [if_neg k3] at hg ⊢
 by_cases k4:e.kind=4
 ·rw [if_pos k4]; exact h.own _ _
 rw [if_neg k4] at hg ⊢
 by_cases k5:e.kind=5
 ·rw [if_pos k5] at hg ⊢
  simp [nn] at hg
  have hge:=hev.grant
  have hlt:e.grant.toNat<s.grants.length:=by omega
  exact Fe.app (s:= { s with owners:=s.owners++ [e.person],grants:=s.grants.set e.grant.toNat { s.grants.getD e.grant.toNat default with units:=IntKind.i64.wrap ((s.grants.getD e.grant.toNat default).units - e.units) } })
   (h.set hlt (y:= { gAt s e.grant.toNat with units:=IntKind.i64.wrap ((gAt s e.grant.toNat).units - e.units) }) Iff.rfl rfl rfl) (y:=⟨1,e.person,s.owners.length,(s.grants.getD e.grant.toNat default).system,e.units⟩) (by simp) rfl rfl
 rw [if_neg k5] at hg ⊢
 by_cases k6:e.kind=6
 ·rw [if_pos k6]; exact h.map (f:=gh e) (fun g=>by unfold gh; split<;>rfl) rfl rfl
 rw [if_neg k6] at hg ⊢
 by_cases k7:e.kind=7
 ·rw [if_pos k7] at hg ⊢
  simp only [Bool.and_eq_true,decide_eq_true_eq] at hg
  have hge:=hev.grant
  have hlt:e.grant.toNat<s.grants.length:=by omega
  have h2:(gAt s e.grant.toNat).is=2:=hg.2.1
  exact h.set hlt (y:= { gAt s e.grant.toNat with is:=1 }) (by simp only; omega) rfl rfl
 rw [if_neg k7]
 exact ⟨h.cnt,h.rng⟩
theorem Fd.lo (h:Fd b done s) (hB:aq b=true) (hd:∀e∈done,e∈b.events):Lo 0 s:=fun i hi h2=>by
 obtain ⟨e,he,_,_,hl⟩:=h.op i hi h2
 have:=aks hB (hd e he)
 have:=aew hB
 omega
end
theorem a84 {b:Book} (hB:aq b=true) {d:Int} (hd:d≤36500) {u:Stand} (h:upS b d=.inr u):Fe b d u:=by
 obtain ⟨n,t,h1,h2,⟨h3,h4,h5⟩,rfl⟩:=ay6 hB (I:=fun done s=>Fd b done s∧Fe b d s∧∀e∈done,e∈b.events) (I':=fun done s=>Fd b done s∧Fe b d s∧∀e∈done,e∈b.events)
  ⟨Fd.start b,⟨fun i=>by simp [start],fun p hp=>by simp [start] at hp⟩,fun e he=>by simp at he⟩
  (fun done s x hx _ ⟨hF,hE,hs⟩=>⟨hF.pass x,(hE.pass (Int.le_refl 0) (hF.lo hB hs) hF.ll hx hd).1,hs⟩) (fun _ _ ⟨hF,hE,hs⟩=>⟨hF.serve,hE.serve,hs⟩)
  (fun n hn s hdn _ ⟨hF,hE,hs⟩ hev _ hg hn'=>⟨hF.do_ hev (aks hB (List.getElem_mem hn)) (aew hB) hg hn',hE.do_ hev ⟨(aks hB (List.getElem_mem hn)).1,hdn⟩ hg n,fun e he=>by
   rcases List.mem_append.1 he with he|he
   ·exact hs e he
   ·simp at he; subst he; exact List.getElem_mem hn⟩) h
 exact (h4.pass (Int.le_refl 0) (h3.lo hB h5) h3.ll (Int.le_refl d) hd).1
structure Kp (u:List (Int×Int)) (m:Int) (s:Stand):Prop where
 ln:s.last.length=s.grants.length
 lo:Lo m s
 fe:∃more,s.fell=u++more∧∀p∈more,m<p.2
section
variable {b:Book} {s:Stand} {u:List (Int×Int)} {m:Int}
end
end Go.Gm.Tryz
end
section
namespace Go.Gm.Tryz
open Go.Proofs
theorem apq {H:GH} {l:BLoc} {b:Book} (hb:BookIn H l b) (hB:aq b=true) (hrows:b.tbl.rows.length≤4) {from_ to:Int} {s:Stand} (hu:upS b to=.inr s):
  ay Tryz.prog 47 [dl l b,vi from_,vi to] H fun x H'=>Sub H H'∧∃v,x=.ret v∧ni H' v 1 ca (ane s from_ to):=by
 rcases l with ⟨⟨⟨ra,rf⟩⟩,⟨oa,of'⟩,⟨va',vf'⟩⟩
 refine an tok mix az0 (F:=g47) (c:=_) rfl (n:=43) rfl (rs:= [.tmp 6]) rfl ?_
 simp
 generalize hH2:GH.push _ _=H2
 have hs2:Sub H H2:=by subst hH2; exact Sub.push (.refl H) _
 clear hH2
 refine (ag9 (hb.mono hs2) hB hrows hu).mono ?_
 rintro x H3 ⟨h3,N,sg,O,hN,rfl,hS,hWf,hWg⟩
 obtain ⟨v1,v2,vl,vo,vg,va',vw,vb,vd,hS,_⟩:=hS
 have hg:=hS.g
 have hsl:=hS.sgl.2
 have hlen:s.fell.length≤100:=by
  have h1:=hWf.fe
  have h2:=List.countP_le_length (p:=fun x:GSt=>decide (x.is=3)) (l:=s.grants)
  have h3:=hWf.len
  omega
 obtain ⟨ab,fb,rfl,hEb⟩:=hS.back.elems (fun _=>rfl)
 obtain ⟨ad,fd,rfl,hEd⟩:=hS.days.elems (fun _=>rfl)
 simp only [List.length_map] at hg
 simp
 refine cv tok mix (by kernel_rfl) s.fell.length (fun i ρ m H'=>ρ 1=vi from_∧ρ 2=vi to∧ρ 7=.pointer (some (ga sg 0 0))∧ρ 9=vi i∧m= []∧Sub H3 H'∧bg H' H3.next (ρ 8) 3 1 ca (((s.fell.take i).filter fun p=>inI p.2 from_ to).map Prod.fst)) (i0:=0) (by omega) (by simp [bg.nil]) ?_
 rintro i ρ m H' hi ⟨e1,e2,e7,e9,rfl,hsub,hown⟩
 have hg':=(hS.sub hsub).g
 simp only [List.length_map] at hg'
 have hsl':=(hS.sub hsub).sgl.2
 simp (disch:=omega) [e7,e9,hg']
 refine ba (fun hlt=>?_) (fun hge=>?_)
 ·obtain ⟨a,rfl,hal,hrd⟩:=(hEd.mono hsub).at i (by simpa using hlt)
  obtain ⟨a',rfl,hal',hrd'⟩:=(hEb.mono hsub).at i (by simpa using hlt)
  rw [List.getElem_map] at hrd hrd'
  have et:s.fell.take (i+1)=s.fell.take i++ [s.fell[i]]:=List.take_succ_eq_append_getElem hlt
  have hlen':=hown.len
  have hf:=List.length_filter_le (fun p:Int×Int=>inI p.2 from_ to) (s.fell.take i)
  simp only [List.length_map,List.length_take] at hlen' hf
  simp (disch:=omega) [e1,e2,e7,e9,hg',hrd]
  refine (o6 _ _ _ _).go ?_
  simp (disch:=omega)
  refine ck (fun h5=>?_) (fun h5=>?_)
  ·obtain ⟨v',H'',happ,hown',hnx,hfr,_⟩:=(hown.push (.arr { cells:= [vi s.fell[i].fst],ty:=3 })).app (by simp) (by simp) (by decide) s.fell[i].fst (by have:=hsub.1; simp; omega)
   simp only [ca] at happ
   generalize hv8:ρ 8=v8 at*
   have d8:8*(1+j8 v8)≤1000000:=by omega
   have d9:1+j8 v8≤1000000:=by omega
   simp (disch:=omega) [e1,e2,e7,e9,hg',hrd',hv8,d8,d9,happ,aj,hlt]
   refine ⟨⟨by have:=hsub.1; simp at hnx; omega,fun g hg=>?_⟩,?_⟩
   ·rw [hfr g (by have:=hsub.1; simp; omega) (fun hc=>by have:=hown.blk_lt hc; omega),GH.get_push_lt _ _ (by have:=hsub.1; omega),hsub.2 g hg]
   ·have ef:([s.fell[i]].filter fun p=>inI p.2 from_ to)= [s.fell[i]]:=by simp [h5]
    rw [et,List.filter_append,ef,List.map_append]; exact hown'
  ·simp (disch:=omega) [e1,e2,e7,e9,aj,hlt]
   refine ⟨hsub,?_⟩
   have ef:([s.fell[i]].filter fun p=>inI p.2 from_ to)= []:=by simp [h5]
   rw [et,List.filter_append,ef,List.append_nil]; exact hown
 ·have:i=s.fell.length:=by omega
  subst this
  rw [List.take_length] at hown
  simp
  exact ⟨hs2.trans (h3.trans hsub),hown.listR (fun _=>rfl)⟩
theorem aoo {H:GH} {l:BLoc} {b:Book} (hb:BookIn H l b) (hfx:FxOk H.fx) (from_ to:Int):C 10 [dl l b,vi from_,vi to] H (.bool true) H:=by
 refine au tok mix azf (F:=g10) (c:=_) rfl (n:=68) rfl (rs:= [.tmp 6]) rfl (ac rfl) ?_
 rcases l with ⟨⟨⟨ra,rf⟩⟩,⟨oa,of'⟩,⟨va,vf⟩⟩
 simp
 generalize hH1:GH.push H _=H1
 have hs1:Sub H H1:=by subst hH1; exact Sub.push (.refl H) _
 have k0:H1.get H.next=some (.arr { cells:=bq ⟨⟨⟨ra,rf⟩⟩,⟨oa,of'⟩,⟨va,vf⟩⟩ b,ty:=28 }):=by subst hH1; simp
 have hn1:H1.next=H.next+1:=by subst hH1; simp
 have hf1:FxOk H1.fx:=by subst hH1; exact hfx
 have hb1:=hb.mono hs1
 clear hH1
 with_reducible refine (uc ⟨⟨⟨_,_⟩⟩,⟨_,_⟩,⟨_,_⟩⟩ b _ hb1).go ?_
 simp
 cases hsh:nw b
 ·simp
  refine (cx hf1).go ?_
  simp
  exact hs1
 obtain ⟨h15,h14,h8,h4⟩:=qv hsh
 simp [k0]
 refine (aht hb1 from_ to).fx.mono ?_
 rintro x H3 ⟨⟨s3,w,rfl,hw⟩,f3⟩
 have k3:=(s3.2 H.next (by omega)).trans k0
 have hn3:=s3.1
 have hf3:FxOk H3.fx:=by rw [f3]; exact hf1
 have hs3:=hs1.trans s3
 have hb3:=hb.mono hs3
 simp (disch:=omega) [k3]
 with_reducible refine (py ⟨⟨⟨_,_⟩⟩,⟨_,_⟩,⟨_,_⟩⟩ b _ hb3 (by omega)).go ?_
 simp
 have bad:∀n:Int,n≠0→im b to (inI from_ 0 to)=.err n→∃a2 q2,w=.slice a2 0 q2∧(aal (im b to (inI from_ 0 to)) from_ to).2=n:=fun n hn ho=>by
  rw [ho] at hw
  obtain ⟨a2,q2,e2,_⟩:=hw
  exact ⟨a2,q2,e2,by rw [ho]; rfl⟩
 cases hB:aq b
 ·obtain ⟨a2,q2,rfl,e2⟩:=bad 2 (by decide) (oy (by simp [fz,hB]))
  simp [e2]
  refine (cx hf3).go ?_
  simp
  exact hs3
 simp
 refine (sq _ _).go ?_
 simp
 cases hd1:fu from_
 ·have hin:fz b to (inI from_ 0 to)=false:=by
   unfold fz
   cases hd2:fu to
   ·simp
   ·have:inI from_ 0 to=false:=by simp [fu,inI] at hd1 hd2 ⊢; omega
    simp [this]
  obtain ⟨a2,q2,rfl,e2⟩:=bad 2 (by decide) (oy hin)
  simp [e2]
  refine (cx hf3).go ?_
  simp
  exact hs3
 simp
 refine (sq _ _).go ?_
 simp
 cases hd2:fu to
 ·obtain ⟨a2,q2,rfl,e2⟩:=bad 2 (by decide) (oy (by simp [fz,hd2]))
  simp [e2]
  refine (cx hf3).go ?_
  simp
  exact hs3
 simp
 by_cases hft:to<from_
 ·have hin:fz b to (inI from_ 0 to)=false:=by
   have:inI from_ 0 to=false:=by simp [inI]; omega
   simp [fz,this]
  obtain ⟨a2,q2,rfl,e2⟩:=bad 2 (by decide) (oy hin)
  simp [hft,e2]
  refine (cx hf3).go ?_
  simp
  exact hs3
 have hk:inI from_ 0 to=true:=by simp [fu,inI] at hd1 ⊢; omega
 simp (disch:=omega) [hft,k3]
 with_reducible refine (wm ⟨⟨⟨_,_⟩⟩,⟨_,_⟩,⟨_,_⟩⟩ b _ hb3 hsh).go ?_
 simp
 cases hR:nt b
 ·obtain ⟨a2,q2,rfl,e2⟩:=bad 7 (by decide) (qq hB hR hd2 hk)
  simp [e2]
  refine (cx hf3).go ?_
  simp
  exact hs3
 obtain ⟨_,hwr⟩:=zt hR
 obtain ⟨s,hs⟩:=yr hB hwr to
 have ho:=zo hB hwr hs hd2 hk
 rw [ho] at hw ⊢
 simp (disch:=omega) [k3,aal]
 refine (apq hb3 hB (h4 hB) hs (from_:=from_)).fx.mono ?_
 rintro x H4 ⟨⟨s4,v,rfl,hv⟩,f4⟩
 have hf4:FxOk H4.fx:=by rw [f4]; exact hf3
 have hs4:=hs3.trans s4
 obtain ⟨a1,q1,rfl,hE1⟩:=hw.sub s4
 obtain ⟨a2,q2,rfl,hE2⟩:=hv
 simp only [aal] at hE1 ⊢
 have hlen:(ane s from_ to).length≤1000000:=by
  have hF:=(a84 hB (by simp [fu,inI] at hd2; omega) hs)
  obtain ⟨n,hc,hJ⟩:=bks hB hs
  have h1:=hJ.wf.fe
  have h2:=List.countP_le_length (p:=fun x:GSt=>decide (x.is=3)) (l:=s.grants)
  have h3:=hJ.wf.len
  have:=List.length_filter_le (fun p:Int×Int=>inI p.2 from_ to) s.fell
  simp only [ane,List.length_map]
  omega
 simp
 refine (nv _ _ hlen _ _ _ _ _ hE1 hE2).go ?_
 simp
 refine (cx hf4).go ?_
 simp
 exact hs4
end Go.Gm.Tryz
end
section
namespace Go.Gm.Tryz
open Go.Proofs Go.Proofs.YtmnfgajihkfahaaGreatDoor Go.RowKit
theorem aa4:LawSpec Rows.grantFellsSpec 3:=⟨rfl,fun H xs h=>by
 match xs,h with
 | [_,_,_],_=>rfl⟩
set_option maxRecDepth 100000 in
theorem xp (os:Os) (started:os.Started) (H:Type) (enc:TypeId×Value→H):
  ReturnsInHanded {} Tryz.checked os 10 .any (fun w args=>(Rows.grantFellsSpec.pre enc Tryz.prog Tryz.f10 [] false w args∧laidMetH Tryz.prog li w)∧sizedMet enc Tryz.prog Tryz.f10 (OpenSpec.ofChange Rows.grantFellsSpec) false w args)
   (Rows.grantFellsSpec.post enc Tryz.prog Tryz.f10 false true false false):=by
 refine fk (C:=Tryz.checked) (X:=fun w _=>laidMetH Tryz.prog li w) (fun _ _ _ hh h=>h.of_heap hh) own started (by kernel_rfl) Tryz.func10
  (ChangeSpec.witness_shaped (enc:=enc) (C:=Tryz.checked) (os:=os) (X:=fun w _=>laidMetH Tryz.prog li w) false (World.laidAll Tryz.prog os li) #[.agg #[.slice none 0 0,.int .i64 0,.int .i64 0,.int .i64 0,.int .i64 0,.slice none 0 0,.slice none 0 0],.int .i64 0,.int .i64 0] 9 (World.laidAll_os _ _ _)
   (World.shaped_of_ZipB (by kernel_rfl) (by kernel_rfl)) (by kernel_rfl) (by kernel_rfl) (by kernel_rfl)
   (by rw [MakeChecks.laidMetH_plain _ _ _ (by kernel_rfl)]; exact laidMet_laidAll _ (by kernel_rfl) (by kernel_rfl))) ?_
 intro W base args ds gs before hsh hval _ hw hL
 obtain ⟨fx,hfx,hok,hW⟩:=anh hL hsh
 refine tw (P:=Tryz.prog) (fn:=Tryz.f10) (ds:= [sh,dI,dI]) abw (by rw [Tryz.params10]; exact .cons abt (.cons rz (.cons rz .nil))) (by kernel_rfl) Tryz.underlying4 (by
  rw [Tryz.params10]
  intro t ht
  have hall:([28,3,3].all fun t=>Tryz.prog.readableRec t&&decide (t<Tryz.prog.types.size))=true:=by kernel_rfl
  have:=List.all_eq_true.1 hall t (by simpa using ht)
  simpa using this) aa4 hW hfx ?_ hval hw
 intro G gss hG hLie
 have hfG:FxOk G.fx:=by rw [hG]; exact hok
 cases hLie with
 |cons h1 h2=>
 cases h2 with
 |cons h2 h3=>
 cases h3 with
 |cons h3 h4=>
 cases h4
 obtain ⟨l,b,e,hb,_,_,k3⟩:=yb h1
 obtain ⟨n,rfl⟩:=ew h2
 obtain ⟨m,rfl⟩:=ew h3
 show ay Tryz.prog 10 [ahz sh _,vi n,vi m] G _
 rw [e]
 exact (aoo hb hfG n m).mono fun x _ h=>h.1
theorem vk:(Rows.grantFellsRow.inPlace==Tryz.prog.inPlace 10)=true:=by kernel_rfl
theorem acv:(Rows.grantFellsRow.unfollowed==Tryz.prog.unfollowed 10)=true:=by kernel_rfl
theorem acu:(Rows.grantFellsRow.recurses==Tryz.prog.recurses 10)=true:=by kernel_rfl
theorem ze:(Rows.grantFellsRow.named==Tryz.prog.varsNamed 10)=true:=by kernel_rfl
theorem xo:joinedFacts Tryz.prog 10 Tryz.f10 Rows.grantFellsSpec Rows.grantFellsRow=true:=by
 unfold joinedFacts
 exact am (am (am (am (am (am (am (am (am (am (am (am (am (am (am (am (am (am (am (am (am (am (am (am (am (am (am (am (am (am (am (by kernel_rfl) (by kernel_rfl)) (by kernel_rfl)) (by kernel_rfl)) (by kernel_rfl)) (by kernel_rfl)) (by kernel_rfl)) (by kernel_rfl)) (by kernel_rfl)) vk) acv) acu) ze) (by kernel_rfl)) (by kernel_rfl)) (by kernel_rfl)) (by kernel_rfl)) (by kernel_rfl)) (by kernel_rfl)) (by kernel_rfl)) (by kernel_rfl)) (by kernel_rfl)) (by kernel_rfl)) (by kernel_rfl)) (by kernel_rfl)) af9) (by rw [agc]; exact beq_self_eq_true _)) (by rw [anr]; exact beq_self_eq_true _)) (by kernel_rfl)) (by kernel_rfl)) (by kernel_rfl)) (by kernel_rfl)
theorem zd:Rows.GrantFellsSaid:=
 OpenClaim.holds_of_wide 10 Tryz.f10 rfl rfl rfl rfl rfl rfl rfl ⟨rfl,rfl,rfl,rfl,rfl⟩ rfl rfl rfl rfl rfl (by kernel_rfl) Tryz.func10 xo
  (of_decide_eq_true (by kernel_rfl)) (by unfold Func.isWrapper; first|(rw [if_pos (by decide+kernel)]; kernel_rfl)|(rw [if_neg (by decide+kernel)]; exact ⟨rfl,rfl⟩))
  (fun os started H enc _=>xp os started H enc)
end Go.Gm.Tryz
namespace Go.Proofs.YtmnfgajihkfahaaGreatDoor
open Go.Gm.Tryz
set_option maxRecDepth 100000 in
theorem grantFells_card_holds:Rows.GrantFellsCardSaid:=
 Claim7.holds_tied_plain_at .later [] [.data,.data,.data,.data,.pinned] true (true, "c50a2473247fd563652536c5189614d6c43fc7c925362f406516d21693885498") true
  zd (fun _ h=>by cases h) (by kernel_rfl) (fun _ h=>by cases h) grantFells_row_tie rfl ⟨rfl,rfl⟩ anq rfl
  (fun f fn hf hfn=>by
   obtain rfl:f=10:=Option.some.inj ((show Tryz.prog.funcNamed "quinaria/quinarialaw06.GrantFells"=some 10 by kernel_rfl).symm.trans hf)|>.symm
   obtain rfl:fn=Tryz.f10:=(Option.some.inj (Tryz.func10.symm.trans hfn)).symm
   exact ⟨agv,fun j t ht=>by
    rw [Tryz.params10] at ht
    have hm:t∈ [28,3,3]:=by simpa using Array.mem_of_getElem? ht
    have hall:([28,3,3].all fun u=> !Tryz.prog.wantsStandIn u)=true:=by kernel_rfl
    exact (show Tryz.prog.wantsStandIn t=false by simpa using List.all_eq_true.1 hall t hm)⟩)
  (by kernel_rfl)
end Go.Proofs.YtmnfgajihkfahaaGreatDoor
end
end
