/- The function GrantBack, called with any register and any three days, returns true, and never panics: by the model of the language, for every input that the card fits, and under the card's conditions alone. -/
import Derived.Test.YtmnfgajihkfahaaGreatDoorBa6
import Derived.Test.YtmnfgajihkfahaaGreatDoorTie
noncomputable section
section
namespace Go.Gm.Tryz
open Go.Proofs
theorem runS_append {b:Book}:∀ {es fs:List Ev} {n:Nat} {s:Stand},ahf b (es++fs) n s=match ahf b es n s with| .inl k=>.inl k| .inr t=>ahf b fs (n+es.length) t:=by
 intro es
 induction es with
 |nil=>intro fs n s; rfl
 |cons e es ih=>
  intro fs n s
  simp only [List.cons_append,ahf]
  split
  ·rw [ih]
   simp only [List.length_cons]
   rw [show n+1+es.length=n+(es.length+1) by omega]
  ·rfl
end Go.Gm.Tryz
end
section
namespace Go.Gm.Tryz
open Go.Proofs
theorem upFrom_append {b:Book} {d:Int}:∀ {es fs:List Ev} {n:Nat} {s:Stand},(∀e∈es,e.day≤d)→iu b d (es++fs) n s=match ahf b es n s with| .inl k=>.inl k| .inr t=>iu b d fs (n+es.length) t:=by
 intro es
 induction es with
 |nil=>intro fs n s _; rfl
 |cons e es ih=>
  intro fs n s hd
  have h1:¬e.day>d:=by have:=hd e (by simp); omega
  simp only [List.cons_append,iu,ahf,if_neg h1]
  split
  ·rw [ih fun x hx=>hd x (by simp [hx])]
   simp only [List.length_cons]
   rw [show n+1+es.length=n+(es.length+1) by omega]
  ·rfl
theorem up_split (b:Book) {d:Int} {n:Nat} (hn:n≤b.events.length) (h:∀e∈b.events.take n,e.day≤d):
  (∃k,ahf b (b.events.take n) 0 (start b)=.inl k∧upS b d=.inl k)∨∃t,ahf b (b.events.take n) 0 (start b)=.inr t∧upS b d=iu b d (b.events.drop n) n t:=by
 have hl:(b.events.take n).length=n:=by simp; omega
 have e:upS b d=iu b d (b.events.take n++b.events.drop n) 0 (start b):=by rw [List.take_append_drop]; rfl
 rw [e,upFrom_append h]
 cases hr:ahf b (b.events.take n) 0 (start b) with
 |inl k=>exact .inl ⟨k,rfl,rfl⟩
 |inr t=>exact .inr ⟨t,rfl,by simp only [hl,Nat.zero_add]⟩
end Go.Gm.Tryz
end
section
namespace Go.Gm.Tryz
open Go.Proofs
theorem day_step {b:Book} (hB:aq b=true) {i:Nat} (hi:i+1<b.events.length):b.events[i].day≤b.events[i+1].day:=by
 simp only [aq,Bool.and_eq_true,List.all_eq_true,List.mem_range] at hB
 have:=hB.1.2 (i+1) hi
 unfold mc at this
 rw [bc hi,Nat.add_sub_cancel,bc (show i<b.events.length by omega)] at this
 simp at this
 exact this.2
theorem day_mono {b:Book} (hB:aq b=true) {i:Nat}:∀(k:Nat) (h:i+k<b.events.length),(b.events[i]'(by omega)).day≤b.events[i+k].day:=by
 intro k
 induction k with
 |zero=>intro h; exact Int.le_refl _
 |succ k ih=>intro h; exact Int.le_trans (ih (by omega)) (day_step hB h)
end Go.Gm.Tryz
end
section
namespace Go.Gm.Tryz
open Go.Proofs
theorem findAt_mono {s:Stand} {d1 d2:Int} (h:d1≤d2) (h0:0≤lm s d1):lm s d2=lm s d1:=by
 rcases aih s d1 with ⟨h1,_⟩|⟨j,e1,h2,h3,h4⟩
 ·omega
 have h3':El s d2 j:=⟨h3.1,Int.lt_of_lt_of_le h3.2 h⟩
 rcases aih s d2 with ⟨_,h5⟩|⟨k,e2,h6,h7,h8⟩
 ·exact absurd h3' (h5 j h2)
 have a1:=h8 j h2 h3'
 have h7':El s d1 k:=⟨h7.1,by have:=h3.2; have:=a1.1; omega⟩
 have a2:=h4 k h6 h7'
 rw [e1,e2]
 rcases Nat.lt_trichotomy j k with h|h|h
 ·have:=a1.2 h; omega
 ·rw [h]
 ·have:=a2.2 h; omega
theorem pass_unfold (b:Book) (s:Stand) (d:Int):pass b s d=if lm s d<0 then s else pass b (endS b s (lm s d).toNat (IntKind.i64.wrap (bl s (lm s d)+1))) d:=by
 unfold pass
 split
 ·rename_i h
  cases k9 s with
  |zero=>rfl
  |succ n=>simp only [lj]; rw [if_pos h]
 ·rename_i h
  rcases aih s d with ⟨h1,_⟩|⟨j,e1,h2,h3,h4⟩
  ·omega
  have hop:=acn (b:=b) (s:=s) (g:=j) h2 (by have:=h3.1; rwa [gAt,bc h2] at this) (IntKind.i64.wrap (bl s (lm s d)+1))
  have ej:(lm s d).toNat=j:=by omega
  rw [ej,←hop]
  simp only [lj]
  rw [if_neg h,ej]
theorem pass_done (b:Book) (d:Int):∀(n:Nat) (s:Stand),k9 s=n→lm (pass b s d) d<0:=by
 intro n
 induction n with
 |zero=>
  intro s hn
  rcases aih s d with ⟨h1,_⟩|⟨j,e1,h2,h3,h4⟩
  ·rw [pass_unfold,if_pos h1]; exact h1
  ·have hop:=acn (b:=b) (s:=s) (g:=j) h2 (by have:=h3.1; rwa [gAt,bc h2] at this) 0
   omega
 |succ n ih=>
  intro s hn
  rw [pass_unfold]
  split
  ·assumption
  ·rename_i h
   rcases aih s d with ⟨h1,_⟩|⟨j,e1,h2,h3,h4⟩
   ·omega
   have hop:=acn (b:=b) (s:=s) (g:=j) h2 (by have:=h3.1; rwa [gAt,bc h2] at this) (IntKind.i64.wrap (bl s (lm s d)+1))
   have ej:(lm s d).toNat=j:=by omega
   refine ih _ ?_
   rw [ej]
   omega
theorem pass_last (b:Book) (s:Stand) (d:Int) {i:Nat} (hi:i<(pass b s d).grants.length) (h2:(gAt (pass b s d) i).is=2):d≤bl (pass b s d) i:=by
 rcases aih (pass b s d) d with ⟨_,h⟩|⟨j,e1,_⟩
 ·have:=h i hi
  unfold El at this
  omega
 ·have:=pass_done b d _ s rfl
  omega
theorem pass_pass (b:Book) {d1 d2:Int} (h:d1≤d2):∀(n:Nat) (s:Stand),k9 s=n→pass b (pass b s d1) d2=pass b s d2:=by
 intro n
 induction n with
 |zero=>
  intro s hn
  rcases aih s d1 with ⟨h1,_⟩|⟨j,e1,h2,h3,h4⟩
  ·rw [pass_unfold b s d1,if_pos h1]
  ·have hop:=acn (b:=b) (s:=s) (g:=j) h2 (by have:=h3.1; rwa [gAt,bc h2] at this) 0
   omega
 |succ n ih=>
  intro s hn
  rcases aih s d1 with ⟨h1,_⟩|⟨j,e1,h2,h3,h4⟩
  ·rw [pass_unfold b s d1,if_pos h1]
  ·have hop:=acn (b:=b) (s:=s) (g:=j) h2 (by have:=h3.1; rwa [gAt,bc h2] at this) (IntKind.i64.wrap (bl s (lm s d1)+1))
   have em:=findAt_mono h (s:=s) (by omega)
   rw [pass_unfold b s d1,if_neg (by omega),pass_unfold b s d2,em,if_neg (by omega)]
   refine ih _ ?_
   have ej:(lm s d1).toNat=j:=by omega
   rw [ej]
   omega
section
variable {b:Book} {s:Stand} {done:List Ev}
end
theorem Fd_up {b:Book} (hB:aq b=true) {d:Int} {u:Stand} (h:upS b d=.inr u):∃n,Cut b d n∧J b (b.events.take n) u∧Fd b (b.events.take n) u∧∀i,i<u.grants.length→(gAt u i).is=2→d≤bl u i:=by
 obtain ⟨n,t,h1,h2,h3,rfl⟩:=ay6 hB (I:=Fd b) (I':=Fd b) (Fd.start b) (fun _ _ _ _ _ h=>h.pass _) (fun _ _ h=>h.serve) (fun n hn s _ _ hF hev _ hg hn'=>hF.do_ hev (aks hB (List.getElem_mem hn)) (aew hB) hg hn') h
 exact ⟨n,h1,h2.pass d,h3.pass d,fun i hi h2=>pass_last b t d hi h2⟩
end Go.Gm.Tryz
end
section
namespace Go.Gm.Tryz
open Go.Proofs
theorem zt {b:Book} (h:nt b=true):aq b=true∧dw b=none:=by
 simp only [nt,Bool.and_eq_true,Option.isNone_iff_eq_none] at h
 exact h
theorem qv {b:Book} (h:nw b=true):b.tbl.rows.length≤15∧b.events.length≤14∧b.owners.length≤8∧(aq b=true→b.tbl.rows.length≤4):=by
 have h':=h
 simp [nw] at h'
 refine ⟨by omega,by omega,by omega,fun hB=>?_⟩
 have ht:=xj hB
 simp [ht] at h'
 omega
end Go.Gm.Tryz
end
section
namespace Go.Gm.Tryz
open Go.Proofs
structure Wa (b:Book) (s:Stand):Prop where
 gw:∀g∈s.grants,g.is≠3→0≤ct b.tbl g.system g.units
 fr:ads b s≤b.supply
 ww:∀w∈s.waits,0≤ct b.tbl (db b w).system (db b w).units
 ln:s.grants.length+s.waits.length≤100
section
variable {b:Book} {s:Stand}
end
def Srv (b:Book) (s:Stand):Prop:=∀w ws,s.waits=w::ws→mr b s<ct b.tbl (db b w).system (db b w).units
end Go.Gm.Tryz
end
section
namespace Go.Gm.Tryz
open Go.Proofs
structure Fe (b:Book) (d:Int) (s:Stand):Prop where
 cnt:∀i:Nat,(s.fell.map Prod.fst).count (i:Int)=if i<s.grants.length∧(gAt s i).is=3 then 1 else 0
 rng:∀p∈s.fell,0≤p.1∧0≤p.2∧p.2≤d
section
variable {b:Book} {s:Stand} {d:Int} {done:List Ev}
theorem Fe.app (h:Fe b d s) {y:GSt} (hy:y.is≠3) {t:Stand} (hg:t.grants=s.grants++ [y]) (hf:t.fell=s.fell):Fe b d t:=by
 refine ⟨fun i=>?_,by rw [hf]; exact h.rng⟩
 have hl:t.grants.length=s.grants.length+1:=by rw [hg]; simp
 rw [hf,h.cnt i]
 by_cases hi:i≤s.grants.length
 ·rw [xn hg hi]
  by_cases hc:i=s.grants.length
  ·subst hc
   rw [if_neg (by omega),if_neg (by simp [hy])]
  ·rw [if_neg hc,hl]
   have:(i<s.grants.length∧(gAt s i).is=3)↔(i<s.grants.length+1∧(gAt s i).is=3):=⟨fun h=>⟨by omega,h.2⟩,fun h=>⟨by omega,h.2⟩⟩
   simp only [this]
 ·rw [if_neg (by omega),if_neg (by omega)]
theorem Fe.serve (h:Fe b d s):Fe b d (serve b s):=t8 (I:=Fe b d) (fun s w ws h _ _=>h.app (by simp) rfl rfl) h
theorem Fe.endG (h:Fe b d s) {g:Nat} (hg:g<s.grants.length) (h2:(gAt s g).is=2) {x:Int} (hx:0≤x∧x≤d):Fe b d (endG s g x):=by
 have hgr:(Tryz.endG s g x).grants=s.grants.set g { gAt s g with is:=3,person:= -1 }:=rfl
 refine ⟨fun i=>?_,fun p hp=>?_⟩
 ·have e:((Tryz.endG s g x).fell.map Prod.fst)=s.fell.map Prod.fst++ [(g:Int)]:=by simp [Tryz.endG]
  rw [e,List.count_append,h.cnt i,mw hg hgr,hgr,List.length_set]
  by_cases hc:i=g
  ·subst hc
   rw [if_neg (by omega),if_pos rfl,if_pos ⟨hg,rfl⟩]
   simp
  ·rw [if_neg hc,List.count_singleton]
   have:((g:Int)==(i:Int))=false:=by simp; omega
   rw [this]
   simp
 ·simp only [Tryz.endG,List.mem_append,List.mem_singleton] at hp
  rcases hp with hp|rfl
  ·exact h.rng p hp
  ·exact ⟨by simp only; omega,hx⟩
theorem Fe.same (h:Fe b d s) {t:Stand} (hl:t.grants.length=s.grants.length) (hg:∀i,i<s.grants.length→((gAt t i).is=3↔(gAt s i).is=3)) (hf:t.fell=s.fell):Fe b d t:=by
 refine ⟨fun i=>?_,by rw [hf]; exact h.rng⟩
 rw [hf,h.cnt i,hl]
 by_cases hi:i<s.grants.length
 ·simp only [hg i hi]
 ·rw [if_neg (by omega),if_neg (by omega)]
theorem Fe.set (h:Fe b d s) {i:Nat} (hi:i<s.grants.length) {y:GSt} (hy:y.is=3↔(gAt s i).is=3) {t:Stand} (hg:t.grants=s.grants.set i y) (hf:t.fell=s.fell):Fe b d t:=
 h.same (by rw [hg]; simp) (fun j hj=>by
  rw [mw hi hg]
  split
  ·rename_i hc; subst hc; exact hy
  ·exact Iff.rfl) hf
theorem Fe.map (h:Fe b d s) {f:GSt→GSt} (hf:∀g,(f g).is=g.is) {t:Stand} (ht:t.grants=s.grants.map f) (hfl:t.fell=s.fell):Fe b d t:=
 h.same (by rw [ht]; simp) (fun j hj=>by rw [tv ht hj,hf]) hfl
theorem Fe.own (h:Fe b d s) (n:Nat) (p:Int):Fe b d (jz s n p):=
 h.map (f:=fun x=>if x.estate=(n:Int) then { x with person:=p } else x) (fun g=>by split<;>rfl) rfl rfl
def Lo (m:Int) (s:Stand):Prop:=∀i,i<s.grants.length→(gAt s i).is=2→m≤bl s i
theorem Fe.pass {m:Int} (hm:0≤m) (h:Fe b d s) (hl:Lo m s) (hb:s.last.length=s.grants.length) {x:Int} (hx:x≤d) (hd:d≤36500):Fe b d (pass b s x)∧Lo m (pass b s x):=by
 have:=so (b:=b) (d:=x) (I:=fun t=>Fe b d t∧Lo m t∧t.last.length=t.grants.length) (fun s w ws ⟨h1,h2,h3⟩ _ _=>⟨h1.app (y:=⟨1,(db b w).person,-1,(db b w).system,(db b w).units⟩) (by simp) rfl rfl,fun i hi k=>by
   have hg:({ ek s (db b w).person (-1) (db b w).system (db b w).units with waits:=ws }:Stand).grants=s.grants++ [⟨1,(db b w).person,-1,(db b w).system,(db b w).units⟩]:=rfl
   rw [hg] at hi
   simp only [List.length_append,List.length_cons,List.length_nil] at hi
   rw [xn hg (by omega)] at k
   split at k
   ·cases k
   ·rw [ai4 (s:=s) rfl (by omega)]
    exact h2 i (by omega) k,by simp [ek,h3]⟩)
  (fun s g ⟨h1,h2,h3⟩ hg k hf=>by
   have hsp:=aih s x
   have hlo:=h2 g hg k
   have hlt:bl s g<x:=by
    rcases hsp with ⟨h,_⟩|⟨j,e,_,h,_⟩
    ·omega
    ·have:j=g:=by omega
     subst this
     exact h.2
   have hw:IntKind.i64.wrap (bl s g+1)=bl s g+1:=aj _ (by omega) (by omega)
   refine ⟨h1.endG hg k (by rw [hw]; omega),fun i hi k2=>?_,by simp [Tryz.endG,h3]⟩
   have hgr:(Tryz.endG s g (IntKind.i64.wrap (bl s g+1))).grants=s.grants.set g { gAt s g with is:=3,person:= -1 }:=rfl
   rw [mw hg hgr] at k2
   rw [hgr,List.length_set] at hi
   split at k2
   ·cases k2
   ·exact h2 i hi k2) (s:=s) ⟨h,hl,hb⟩
 exact ⟨this.1,this.2.1⟩
theorem Fe.do_ (h:Fe b d s) {e:Ev} (hev:EvOk b s e) (hd:0≤e.day∧e.day≤d) (hg:cu b s e=true) (n:Nat):Fe b d (doS b s e n):=by
 unfold cu at hg
 unfold doS
 by_cases k1:e.kind=1
 ·rw [if_pos k1]; exact h.app (by simp) rfl rfl
 rw [if_neg k1] at hg ⊢
 by_cases k2:e.kind=2
 ·rw [if_pos k2]; exact h.app (by simp) rfl rfl
 rw [if_neg k2] at hg ⊢
 by_cases k3:e.kind=3
 ·rw [if_pos k3]
  exact af4 (I:=Fe b d) (fun s h=>⟨h.cnt,h.rng⟩) (fun s i h _ _=>h.own i e.other) (fun s h=>⟨h.cnt,h.rng⟩)
   (fun s i h hi h2 _=>(h.endG hi h2 hd).serve) (fun s i h hi h1 h2 h3=>h.set hi (y:= { gAt s i with is:=2,person:=e.other }) (by simp only; omega) rfl rfl) h
 rw [if_neg k3] at hg ⊢
 by_cases k4:e.kind=4
 ·rw [if_pos k4]; exact h.own _ _
 rw [if_neg k4] at hg ⊢
 by_cases k5:e.kind=5
 ·rw [if_pos k5] at hg ⊢
  simp [nn] at hg
  have hge:=hev.grant
  have hlt:e.grant.toNat<s.grants.length:=by omega
  exact Fe.app (s:= { s with owners:=s.owners++ [e.person],grants:=s.grants.set e.grant.toNat { s.grants.getD e.grant.toNat default with units:=IntKind.i64.wrap ((s.grants.getD e.grant.toNat default).units - e.units) } })
   (h.set hlt (y:= { gAt s e.grant.toNat with units:=IntKind.i64.wrap ((gAt s e.grant.toNat).units - e.units) }) Iff.rfl rfl rfl) (y:=⟨1,e.person,s.owners.length,(s.grants.getD e.grant.toNat default).system,e.units⟩) (by simp) rfl rfl
 rw [if_neg k5] at hg ⊢
 by_cases k6:e.kind=6
 ·rw [if_pos k6]; exact h.map (f:=gh e) (fun g=>by unfold gh; split<;>rfl) rfl rfl
 rw [if_neg k6] at hg ⊢
 by_cases k7:e.kind=7
 ·rw [if_pos k7] at hg ⊢
  simp only [Bool.and_eq_true,decide_eq_true_eq] at hg
  have hge:=hev.grant
  have hlt:e.grant.toNat<s.grants.length:=by omega
  have h2:(gAt s e.grant.toNat).is=2:=hg.2.1
  exact h.set hlt (y:= { gAt s e.grant.toNat with is:=1 }) (by simp only; omega) rfl rfl
 rw [if_neg k7]
 exact ⟨h.cnt,h.rng⟩
theorem Fd.lo (h:Fd b done s) (hB:aq b=true) (hd:∀e∈done,e∈b.events):Lo 0 s:=fun i hi h2=>by
 obtain ⟨e,he,_,_,hl⟩:=h.op i hi h2
 have:=aks hB (hd e he)
 have:=aew hB
 omega
end
theorem a84 {b:Book} (hB:aq b=true) {d:Int} (hd:d≤36500) {u:Stand} (h:upS b d=.inr u):Fe b d u:=by
 obtain ⟨n,t,h1,h2,⟨h3,h4,h5⟩,rfl⟩:=ay6 hB (I:=fun done s=>Fd b done s∧Fe b d s∧∀e∈done,e∈b.events) (I':=fun done s=>Fd b done s∧Fe b d s∧∀e∈done,e∈b.events)
  ⟨Fd.start b,⟨fun i=>by simp [start],fun p hp=>by simp [start] at hp⟩,fun e he=>by simp at he⟩
  (fun done s x hx _ ⟨hF,hE,hs⟩=>⟨hF.pass x,(hE.pass (Int.le_refl 0) (hF.lo hB hs) hF.ll hx hd).1,hs⟩) (fun _ _ ⟨hF,hE,hs⟩=>⟨hF.serve,hE.serve,hs⟩)
  (fun n hn s hdn _ ⟨hF,hE,hs⟩ hev _ hg hn'=>⟨hF.do_ hev (aks hB (List.getElem_mem hn)) (aew hB) hg hn',hE.do_ hev ⟨(aks hB (List.getElem_mem hn)).1,hdn⟩ hg n,fun e he=>by
   rcases List.mem_append.1 he with he|he
   ·exact hs e he
   ·simp at he; subst he; exact List.getElem_mem hn⟩) h
 exact (h4.pass (Int.le_refl 0) (h3.lo hB h5) h3.ll (Int.le_refl d) hd).1
structure Kp (u:List (Int×Int)) (m:Int) (s:Stand):Prop where
 ln:s.last.length=s.grants.length
 lo:Lo m s
 fe:∃more,s.fell=u++more∧∀p∈more,m<p.2
section
variable {b:Book} {s:Stand} {u:List (Int×Int)} {m:Int}
theorem Kp.app (h:Kp u m s) {y:GSt} (hy:y.is≠2) {t:Stand} (hg:t.grants=s.grants++ [y]) (hl:t.last=s.last++ [0]) (hf:t.fell=s.fell):Kp u m t:=by
 have hlen:t.grants.length=s.grants.length+1:=by rw [hg]; simp
 have hll:=h.ln
 refine ⟨by rw [hl,hlen]; simp [hll],fun i hi k=>?_,by rw [hf]; exact h.fe⟩
 rw [xn hg (by omega)] at k
 split at k
 ·exact absurd k hy
 ·rw [ai4 hl (by omega)]
  exact h.lo i (by omega) k
theorem Kp.serve (h:Kp u m s):Kp u m (serve b s):=t8 (I:=Kp u m) (fun s w ws h _ _=>h.app (by simp) rfl rfl rfl) h
theorem Kp.endG (h:Kp u m s) {g:Nat} (hg:g<s.grants.length) {x:Int} (hx:m<x):Kp u m (endG s g x):=by
 have hgr:(Tryz.endG s g x).grants=s.grants.set g { gAt s g with is:=3,person:= -1 }:=rfl
 refine ⟨by rw [hgr,List.length_set]; exact h.ln,fun i hi k=>?_,?_⟩
 ·rw [mw hg hgr] at k
  rw [hgr,List.length_set] at hi
  split at k
  ·cases k
  ·exact h.lo i hi k
 ·obtain ⟨more,e,hm⟩:=h.fe
  refine ⟨more++ [((g:Int),x)],by simp [Tryz.endG,e],fun p hp=>?_⟩
  rcases List.mem_append.1 hp with hp|hp
  ·exact hm p hp
  ·simp at hp; subst hp; exact hx
theorem Kp.pass (hm:0≤m) (h:Kp u m s) {x:Int} (hx:x≤36500):Kp u m (pass b s x):=
 so (I:=Kp u m) (fun s w ws h _ _=>h.app (by simp) rfl rfl rfl) (fun s g h hg k hf=>by
  have hlo:=h.lo g hg k
  have hlt:bl s g<x:=by
   rcases aih s x with ⟨h,_⟩|⟨j,e,_,h,_⟩
   ·omega
   ·have:j=g:=by omega
    subst this
    exact h.2
  exact h.endG hg (by rw [aj _ (by omega) (by omega)]; omega)) h
theorem Kp.same (h:Kp u m s) {t:Stand} (hl:t.grants.length=s.grants.length) (hg:∀i,i<s.grants.length→(gAt t i).is=2→(gAt s i).is=2) (hla:t.last=s.last) (hf:t.fell=s.fell):Kp u m t:=
 ⟨by rw [hla,hl]; exact h.ln,fun i hi k=>by
  have:bl t i=bl s i:=by unfold bl; rw [hla]
  rw [this]
  exact h.lo i (by omega) (hg i (by omega) k),by rw [hf]; exact h.fe⟩
theorem Kp.map (h:Kp u m s) {f:GSt→GSt} (hf:∀g,(f g).is=g.is) {t:Stand} (ht:t.grants=s.grants.map f) (hl:t.last=s.last) (hfl:t.fell=s.fell):Kp u m t:=
 h.same (by rw [ht]; simp) (fun j hj k=>by rw [tv ht hj,hf] at k; exact k) hl hfl
theorem Kp.own (h:Kp u m s) (n:Nat) (p:Int):Kp u m (jz s n p):=
 h.map (f:=fun x=>if x.estate=(n:Int) then { x with person:=p } else x) (fun g=>by split<;>rfl) rfl rfl rfl
theorem Kp.set (h:Kp u m s) {i:Nat} (hi:i<s.grants.length) {y:GSt} (hy:y.is=2→(gAt s i).is=2) {t:Stand} (hg:t.grants=s.grants.set i y) (hl:t.last=s.last) (hf:t.fell=s.fell):Kp u m t:=
 h.same (by rw [hg]; simp) (fun j hj k=>by
  rw [mw hi hg] at k
  split at k
  ·rename_i hc; subst hc; exact hy k
  ·exact k) hl hf
theorem Kp.do_ (h:Kp u m s) {e:Ev} (hev:EvOk b s e) (hd:m<e.day∧e.day≤36500) (hm:0≤m) (ht:0≤b.term∧b.term≤1000) (hg:cu b s e=true) (n:Nat):Kp u m (doS b s e n):=by
 unfold cu at hg
 unfold doS
 by_cases k1:e.kind=1
 ·rw [if_pos k1]; exact h.app (by simp) rfl rfl rfl
 rw [if_neg k1] at hg ⊢
 by_cases k2:e.kind=2
 ·rw [if_pos k2]; exact h.app (by simp) rfl rfl rfl
 rw [if_neg k2] at hg ⊢
 by_cases k3:e.kind=3
 ·rw [if_pos k3]
  refine af4 (I:=Kp u m) (fun s h=>⟨h.ln,h.lo,h.fe⟩) (fun s i h _ _=>h.own i e.other) (fun s h=>⟨h.ln,h.lo,h.fe⟩)
   (fun s i h hi h2 _=>(h.endG hi hd.1).serve) (fun s i h hi h1 h2 h3=>?_) h
  have hln:=h.ln
  refine ⟨by simp [hln],fun j hj k=>?_,h.fe⟩
  simp only [List.length_set] at hj
  rw [aug (s:=s) (i:=i) (by omega) rfl]
  rw [mw (s:=s) hi rfl] at k
  split
  ·rw [aj _ (by omega) (by omega)]; omega
  ·rename_i hc
   rw [if_neg hc] at k
   exact h.lo j hj k
 rw [if_neg k3] at hg ⊢
 by_cases k4:e.kind=4
 ·rw [if_pos k4]; exact h.own _ _
 rw [if_neg k4] at hg ⊢
 by_cases k5:e.kind=5
 ·rw [if_pos k5] at hg ⊢
  simp [nn] at hg
  have hge:=hev.grant
  have hlt:e.grant.toNat<s.grants.length:=by omega
  exact Kp.app (s:= { s with owners:=s.owners++ [e.person],grants:=s.grants.set e.grant.toNat { s.grants.getD e.grant.toNat default with units:=IntKind.i64.wrap ((s.grants.getD e.grant.toNat default).units - e.units) } })
   (h.set hlt (y:= { gAt s e.grant.toNat with units:=IntKind.i64.wrap ((gAt s e.grant.toNat).units - e.units) }) id rfl rfl rfl) (y:=⟨1,e.person,s.owners.length,(s.grants.getD e.grant.toNat default).system,e.units⟩) (by simp) rfl rfl rfl
 rw [if_neg k5] at hg ⊢
 by_cases k6:e.kind=6
 ·rw [if_pos k6]; exact h.map (f:=gh e) (fun g=>by unfold gh; split<;>rfl) rfl rfl rfl
 rw [if_neg k6] at hg ⊢
 by_cases k7:e.kind=7
 ·rw [if_pos k7] at hg ⊢
  simp only [Bool.and_eq_true,decide_eq_true_eq] at hg
  have hge:=hev.grant
  have hlt:e.grant.toNat<s.grants.length:=by omega
  exact h.set hlt (y:= { gAt s e.grant.toNat with is:=1 }) (fun hc=>by cases hc) rfl rfl rfl
 rw [if_neg k7]
 exact ⟨h.ln,h.lo,h.fe⟩
end
theorem upFrom_kp {b:Book} (hB:aq b=true) {u0:List (Int×Int)} {m to:Int} (hm:0≤m) (hmt:m≤to) (hto:to≤36500) {v:Stand}:∀(es:List Ev) (n:Nat) (s:Stand),es=b.events.drop n→n≤b.events.length→(∀e∈es,m<e.day)→J b (b.events.take n) s→Kp u0 m (pass b s m)→iu b to es n s=.inr v→Kp u0 m v:=by
 intro es
 have hbo:=l8 hB
 have h12:=hbo.events
 have h6:=hbo.owners
 induction es with
 |nil=>
  intro n s _ _ _ _ hk h
  simp only [iu] at h
  cases h
  rw [←pass_pass b hmt _ s rfl]
  exact hk.pass hm hto
 |cons e es ih=>
  intro n s he hn hd hJ hk h
  have hl:=congrArg List.length he
  simp only [List.length_drop,List.length_cons] at hl
  have hlt:n<b.events.length:=by omega
  rw [List.drop_eq_getElem_cons hlt] at he
  cases he
  have hde:=hd b.events[n] (List.mem_cons_self ..)
  simp only [iu] at h
  split at h
  ·cases h
   rw [←pass_pass b hmt _ s rfl]
   exact hk.pass hm hto
  ·rename_i hle
   split at h
   ·rename_i hg
    have hlen:(b.events.take n).length=n:=by simp; omega
    have hJ':=hJ.pass b.events[n].day
    have ho:=hJ'.ow
    have hev:=xk (s:=pass b s b.events[n].day) hbo.persons hJ'.ll (hbo.ev n hlt)
    have htk:b.events.take (n+1)=b.events.take n++ [b.events[n]]:=List.take_succ_eq_append_getElem hlt
    have hk':Kp u0 m (pass b s b.events[n].day):=by
     rw [←pass_pass b (Int.le_of_lt hde) _ s rfl]
     exact hk.pass hm (by omega)
    refine ih (n+1) _ rfl (by omega) (fun x hx=>hd x (List.mem_cons_of_mem _ hx)) (by rw [htk]; exact (hJ'.do_ hbo (hbo.ev n hlt) hg (abr hlt) hlt (by omega) (by omega)).serve) ?_ h
    exact ((hk'.do_ hev ⟨hde,by omega⟩ hm (aew hB) hg n).serve).pass hm (by omega)
   ·cases h
theorem run_J {b:Book} (hB:aq b=true):∀ {n:Nat} {t:Stand},n≤b.events.length→ahf b (b.events.take n) 0 (start b)=.inr t→J b (b.events.take n) t:=by
 have hbo:=l8 hB
 have h12:=hbo.events
 have h6:=hbo.owners
 intro n
 induction n with
 |zero=>intro t _ h; simp only [List.take_zero,ahf] at h ⊢; cases h; exact J.start hB
 |succ n ih=>
  intro t hn h
  have hlt:n<b.events.length:=by omega
  have htk:b.events.take (n+1)=b.events.take n++ [b.events[n]]:=List.take_succ_eq_append_getElem hlt
  have hlen:(b.events.take n).length=n:=by simp; omega
  rw [htk,runS_append] at h
  cases hr:ahf b (b.events.take n) 0 (start b) with
  |inl k=>rw [hr] at h; cases h
  |inr s=>
   rw [hr] at h
   have hJ:=ih (by omega) hr
   simp only [ahf,hlen,Nat.zero_add] at h
   split at h
   ·rename_i hg
    cases h
    have hJ':=hJ.pass b.events[n].day
    have ho:=hJ'.ow
    rw [htk]
    exact (hJ'.do_ hbo (hbo.ev n hlt) hg (abr hlt) hlt (by omega) (by omega)).serve
   ·cases h
theorem back_split {b:Book} (hB:aq b=true) {from_ mid to:Int} (h0:0≤from_) (h1:from_≤mid) (h2:mid<to) (hto:to≤36500) {u v:Stand} (hu:upS b mid=.inr u) (hv:upS b to=.inr v):
  ane v from_ to=ane u from_ mid++ane v (mid+1) to:=by
 obtain ⟨n,hc,_⟩:=bks hB hu
 have hL:=(a84 hB (by omega) hu).rng
 have hlt:∀e∈b.events.take n,e.day≤to:=fun e he=>by have:=hc.lo e he; omega
 rcases up_split b hc.le hc.lo with ⟨k,_,eu⟩|⟨t,hr,eu⟩
 ·rw [eu] at hu; cases hu
 rcases up_split b hc.le hlt with ⟨k,hr',_⟩|⟨t',hr',ev⟩
 ·rw [hr] at hr'; cases hr'
 ·rw [hr] at hr'
  cases hr'
  have hdr:∀e∈b.events.drop n,mid<e.day:=fun e he=>by
   obtain ⟨i,hi,rfl⟩:=List.mem_iff_getElem.1 he
   simp only [List.length_drop] at hi
   have:=hc.hi (by omega)
   have:=day_mono hB (i:=n) i (by omega)
   rw [List.getElem_drop]
   omega
  have hup:u=pass b t mid:=by
   rw [hu] at eu
   cases hd:b.events.drop n with
   |nil=>rw [hd,iu] at eu; cases eu; rfl
   |cons e es=>rw [hd,iu,if_pos (hdr e (by rw [hd]; simp))] at eu; cases eu; rfl
  have hJt:=run_J hB hc.le hr
  have hk:Kp u.fell mid (pass b t mid):=by
   rw [←hup]
   obtain ⟨n',hc',hJ',hF',hl'⟩:=Fd_up hB hu
   exact ⟨hF'.ll,fun i hi k=>hl' i hi k,[],by simp,fun p hp=>by simp at hp⟩
  obtain ⟨more,e,hm⟩:=(upFrom_kp hB (by omega) (by omega) hto (b.events.drop n) n t rfl hc.le hdr hJt hk (ev.symm.trans hv)).fe
  unfold ane
  rw [e,List.filter_append,List.map_append,List.filter_append,List.map_append]
  have e1:u.fell.filter (fun p=>inI p.2 from_ to)=u.fell.filter (fun p=>inI p.2 from_ mid):=List.filter_congr fun p hp=>by
   have:=hL p hp
   unfold inI
   rw [Bool.eq_iff_iff]; simp only [decide_eq_true_eq]; omega
  have e2:u.fell.filter (fun p=>inI p.2 (mid+1) to)= []:=by
   rw [List.filter_eq_nil_iff]
   intro p hp
   have:=hL p hp
   unfold inI
   simp only [decide_eq_true_eq]; omega
  have e3:more.filter (fun p=>inI p.2 from_ to)=more.filter (fun p=>inI p.2 (mid+1) to):=List.filter_congr fun p hp=>by
   have:=hm p hp
   unfold inI
   rw [Bool.eq_iff_iff]; simp only [decide_eq_true_eq]; omega
  rw [e1,e2,e3]
  simp
end Go.Gm.Tryz
end
section
namespace Go.Gm.Tryz
open Go.Proofs
def diedTo (b:Book) (p d:Int) (i:Nat):Bool:=(b.events.take i).any fun e=>decide (e.kind=3∧e.day≤d∧e.person=p)
end Go.Gm.Tryz
end
section
namespace Go.Gm.Tryz
open Go.Proofs
def anyTo (f:Ev→Bool) (l:List Ev) (i:Nat):Bool:=(l.take i).any f
end Go.Gm.Tryz
end
section
namespace Go.Gm.Tryz
open Go.Proofs
def usedTo (b:Book) (l:List GSt) (i:Nat):Int:=((l.take i).map (td b)).sum
end Go.Gm.Tryz
end
section
namespace Go.Gm.Tryz
open Go.Proofs
theorem fx_append {H H':GH} {ety:TypeId} {es n:Nat} {s v:Value} {new:List Value} (h:gv H ety es s n new=some (v,H')):H'.fx=H.fx:=by
 unfold gv at h
 repeat' split at h
 all_goals first|(cases h; rfl)|cases h
theorem fx_write {H H':GH} {a:Addr} {new:List Value} (h:H.write a new=some H'):H'.fx=H.fx:=by
 unfold GH.write at h
 repeat' split at h
 all_goals first|(cases h; rfl)|cases h
def cntL (n:Nat) (xs:List Int) (i:Nat):List Int:=(List.range n).map fun k:Nat=>(((xs.take i).count (k:Int):Nat):Int)
theorem cntL_len {n:Nat} {xs:List Int} {i:Nat}:(cntL n xs i).length=n:=by simp [cntL]
theorem cntL_zero {n:Nat} {xs:List Int}:cntL n xs 0=List.replicate n 0:=by
 apply List.ext_getElem<;>simp [cntL]
theorem cntL_at {n:Nat} {xs:List Int} {i k:Nat} (h:k<(cntL n xs i).length):(cntL n xs i)[k]=(((xs.take i).count (k:Int):Nat):Int):=by simp [cntL]
theorem cntL_succ {n:Nat} {xs:List Int} {i q:Nat} (h:i<xs.length) (hq:xs[i]=(q:Int)) (hn:q<n):cntL n xs (i+1)=(cntL n xs i).set q ((cntL n xs i)[q]'(by rw [cntL_len]; exact hn)+1):=by
 apply List.ext_getElem
 ·simp [cntL]
 ·intro k h1 h2
  rw [cntL_at,List.getElem_set,List.take_succ_eq_append_getElem h,List.count_append,hq]
  by_cases hc:q=k
  ·subst hc
   rw [if_pos rfl,cntL_at]
   simp
  ·rw [if_neg hc,cntL_at]
   have:List.count (k:Int) [(q:Int)]=0:=by
    rw [List.count_eq_zero]
    simp
    omega
   rw [this]
   simp
theorem fell_all {b:Book} {d:Int} {s:Stand} (h:Fe b d s):ane s 0 d=s.fell.map Prod.fst:=by
 unfold ane
 rw [List.filter_eq_self.2]
 intro p hp
 have:=h.rng p hp
 simp [inI]
 omega
theorem back_law {H:GH} {l:BLoc} {b:Book} (hb:BookIn H l b) (hfx:FxOk H.fx) (from_ mid to:Int):C 11 [dl l b,vi from_,vi mid,vi to] H (.bool true) H:=by
 refine au tok mix a9m (F:=g11) (c:=_) rfl (n:=208) rfl (rs:= [.tmp 8]) rfl (ac rfl) ?_
 rcases l with ⟨⟨⟨ra,rf⟩⟩,⟨oa,of'⟩,⟨va,vf⟩⟩
 simp
 generalize hH1:GH.push H _=H1
 have hs1:Sub H H1:=by subst hH1; exact Sub.push (.refl H) _
 have k0:H1.get H.next=some (.arr { cells:=bq ⟨⟨⟨ra,rf⟩⟩,⟨oa,of'⟩,⟨va,vf⟩⟩ b,ty:=28 }):=by subst hH1; simp
 have hn1:H1.next=H.next+1:=by subst hH1; simp
 have hf1:FxOk H1.fx:=by subst hH1; exact hfx
 have hb1:=hb.mono hs1
 clear hH1
 with_reducible refine (uc ⟨⟨⟨_,_⟩⟩,⟨_,_⟩,⟨_,_⟩⟩ b _ hb1).go ?_
 simp
 cases hsh:nw b
 ·simp
  refine (cx hf1).go ?_
  simp
  exact hs1
 obtain ⟨h15,h14,h8,h4⟩:=qv hsh
 simp [k0]
 with_reducible refine (wm ⟨⟨⟨_,_⟩⟩,⟨_,_⟩,⟨_,_⟩⟩ b _ hb1 hsh).go ?_
 simp
 cases hR:nt b
 ·simp
  refine (cx hf1).go ?_
  simp
  exact hs1
 simp
 refine (sq _ _).go ?_
 simp
 cases hd1:fu from_
 ·simp
  refine (cx hf1).go ?_
  simp
  exact hs1
 simp
 refine (sq _ _).go ?_
 simp
 cases hd:fu to
 ·simp
  refine (cx hf1).go ?_
  simp
  exact hs1
 simp
 by_cases hfm:mid<from_
 ·simp [hfm]
  refine (cx hf1).go ?_
  simp
  exact hs1
 by_cases hmt:to≤mid
 ·simp [hfm,hmt]
  refine (cx hf1).go ?_
  simp
  exact hs1
 obtain ⟨hB,hwr⟩:=zt hR
 have hb1f:0≤from_∧from_≤36500:=by simpa [fu,inI] using hd1
 have hb1t:0≤to∧to≤36500:=by simpa [fu,inI] using hd
 have hdm:fu mid=true:=by simp [fu,inI]; omega
 obtain ⟨s,hs⟩:=yr hB hwr to
 have ho:=zo hB hwr hs hd (ok:=true) rfl
 obtain ⟨u,hu⟩:=yr hB hwr mid
 have hou:=zo hB hwr hu hdm (ok:=true) rfl
 obtain ⟨n,hn,hJ⟩:=bks hB hs
 have hFe:=a84 hB hb1t.2 hs
 have i1:inI 0 0 to=true:=by simp [inI]; omega
 have i2:inI from_ 0 to=true:=by simp [inI]; omega
 have i3:inI from_ 0 mid=true:=by simp [inI]; omega
 have i4:inI (mid+1) 0 to=true:=by simp [inI]; omega
 have hsplit:=back_split hB hb1f.1 (show from_≤mid by omega) (show mid<to by omega) hb1t.2 hu hs
 simp (disch:=omega) [hfm,hmt,k0]
 refine (aht hb1 0 to).fx.mono ?_
 rintro x H2 ⟨⟨s2,v2,rfl,w2⟩,f2⟩
 have k2:=(s2.2 H.next (by omega)).trans k0
 have hn2:=s2.1
 simp (disch:=omega) [k2]
 refine (ab5 (hb1.mono s2) to).fx.mono ?_
 rintro x H3 ⟨⟨s3,v3,rfl,w3⟩,f3⟩
 have k3:=(s3.2 H.next (by omega)).trans k2
 have hn3:=s3.1
 simp (disch:=omega) [k3]
 refine (aht (hb1.mono (s2.trans s3)) from_ to).fx.mono ?_
 rintro x H4 ⟨⟨s4,v4,rfl,w4⟩,f4⟩
 have k4:=(s4.2 H.next (by omega)).trans k3
 have hn4:=s4.1
 simp (disch:=omega) [k4]
 refine (aht (hb1.mono (s2.trans (s3.trans s4))) from_ mid).fx.mono ?_
 rintro x H5 ⟨⟨s5,v5,rfl,w5⟩,f5⟩
 have k5:=(s5.2 H.next (by omega)).trans k4
 have hn5:=s5.1
 simp (disch:=omega) [k5,aj]
 refine (aht (hb1.mono (s2.trans (s3.trans (s4.trans s5)))) (mid+1) to).fx.mono ?_
 rintro x H6 ⟨⟨s6,v6,rfl,w6⟩,f6⟩
 have k6:=(s6.2 H.next (by omega)).trans k5
 have hn6:=s6.1
 have hf6:FxOk H6.fx:=by rw [f6,f5,f4,f3,f2]; exact hf1
 rw [i1] at w2 ⊢
 rw [i2] at w4 ⊢
 rw [i3] at w5 ⊢
 rw [i4] at w6 ⊢
 rw [ho] at w2 w3 w4 w6 ⊢
 rw [hou] at w5 ⊢
 simp only [o8,aal] at w2 w3 w4 w5 w6 ⊢
 obtain ⟨a2,q2,rfl,E2⟩:=w2.sub (s3.trans (s4.trans (s5.trans s6)))
 obtain ⟨a3,q3,rfl,E3⟩:=w3.sub (s4.trans (s5.trans s6))
 obtain ⟨a4,q4,rfl,E4⟩:=w4.sub (s5.trans s6)
 obtain ⟨a5,q5,rfl,E5⟩:=w5.sub s6
 obtain ⟨a6,q6,rfl,E6⟩:=w6
 have M0:s.grants.length+s.waits.length≤b.events.length:=by have:=hJ.sz; have:=List.length_take_le n b.events; have:=List.length_take_le' n b.events; simp only [size] at*; omega
 have M1:¬b.events.length<s.grants.length:=by omega
 have M2:s.fell.length≤s.grants.length:=Nat.le_trans hJ.wf.fe List.countP_le_length
 have M3:∀x y:Int,(ane s x y).length≤s.fell.length:=fun x y=>by
  simp only [ane,List.length_map]
  exact List.length_filter_le _ _
 have M4:=M3 0 to
 have M5:=M3 (mid+1) to
 have M6:=M3 from_ to
 have M7:(ane u from_ mid).length≤(ane s from_ to).length:=by rw [hsplit,List.length_append]; omega
 have N4:¬s.grants.length<(ane s 0 to).length:=by omega
 have N5:¬s.grants.length<(ane s (mid+1) to).length:=by omega
 have N7:¬s.grants.length<(ane u from_ mid).length:=by omega
 generalize hX:ane u from_ mid=xs at*
 generalize hY:ane s (mid+1) to=ys at*
 generalize hZ:ane s from_ to=zs at*
 have hA:ane s 0 to=s.fell.map Prod.fst:=fell_all hFe
 generalize hW:ane s 0 to=ws at*
 obtain ⟨v7,H7,happ7,o7,n7,fr7,_⟩:=(bg.nil (H:=H6) (N:=H6.next) (ty:=3) (sz:=1) (enc:=ca)).apps (fun _=>rfl) (fun _=>rfl) (by decide) xs (Nat.le_refl _)
 simp only [List.nil_append] at o7
 have s7:Sub H6 H7:=⟨n7,fun g hg=>fr7 g hg (by simp)⟩
 obtain ⟨v8,H8,happ8,o8,n8,fr8,_⟩:=o7.apps (fun _=>rfl) (fun _=>rfl) (by decide) ys (by omega)
 have s8:Sub H6 H8:=⟨by omega,fun g hg=>by rw [fr8 g (by omega) (fun hc=>by have:=(o7.blk_lt hc).1; omega),s7.2 g hg]⟩
 have hr5:=E5.readS
 have hr6:=(E6.mono s7).readS
 have hl7:=o7.len
 obtain ⟨b7,c7,rfl⟩:=o7.slice
 obtain ⟨b8,c8,rfl,hE8⟩:=o8.elems (fun _=>rfl)
 have hf8:FxOk H8.fx:=by rw [fx_append happ8,fx_append happ7]; exact hf6
 have d1:8*xs.length≤1000000:=by omega
 have d2:xs.length≤1000000:=by omega
 have d3:8*(ys.length+xs.length)≤1000000:=by omega
 have d4:ys.length+xs.length≤1000000:=by omega
 simp (disch:=omega) [k6,M1,N4,N5,N7,hr5,happ7,hr6,happ8,d1,d2,d3,d4]
 have sc:=nv zs (xs++ys) (by omega) _ _ q4 c8 _ (E4.mono s8) hE8
 rw [decide_eq_true hsplit,List.length_append] at sc
 refine sc.go ?_
 clear sc
 have hb8:=(hb1.mono (s2.trans (s3.trans (s4.trans (s5.trans s6))))).mono s8
 have E2':=E2.mono s8
 have E3':=E3.mono s8
 have hs8:Sub H H8:=hs1.trans (s2.trans (s3.trans (s4.trans (s5.trans (s6.trans s8)))))
 simp (disch:=omega)
 rw [aa3 (n:=s.grants.length) (by simp) (by simp) (by omega)]
 simp
 generalize hH9:GH.push H8 _=H9
 have s9:Sub H8 H9:=by subst hH9; exact Sub.push (.refl H8) _
 have o9:bg H9 H8.next (.slice (some (ga H8.next 0 0)) s.grants.length 1) 3 1 ca (cntL s.grants.length ws 0):=by
  have hg:H9.get H8.next=some (.arr { cells:=(List.replicate s.grants.length (0:Int)).flatMap ca,ty:=3 }):=by subst hH9; rw [GH.get_push_same,sr]; rfl
  have hn:H9.next=H8.next+1:=by subst hH9; rfl
  have:=bg.mk (N:=H8.next) (enc:=ca) (sz:=1) (l:=List.replicate s.grants.length (0:Int)) (by decide) (Nat.le_refl _) (by omega) hg
  rwa [List.length_replicate,←cntL_zero (xs:=ws)] at this
 have hf9:FxOk H9.fx:=by subst hH9; exact hf8
 clear hH9
 have hcnt:∀k:Nat,ws.count (k:Int)=if k<s.grants.length∧(gAt s k).is=3 then 1 else 0:=fun k=>by rw [hA]; exact hFe.cnt k
 have hrng:∀x∈ws,∃q:Nat,x=(q:Int)∧q<s.grants.length:=fun x hx=>by
  have h0:0≤x:=by
   rw [hA] at hx
   obtain ⟨p,hp,rfl⟩:=List.mem_map.1 hx
   exact (hFe.rng p hp).1
  obtain ⟨q,rfl⟩:∃q:Nat,x=q:=⟨x.toNat,by omega⟩
  have h1:=List.count_pos_iff.2 hx
  rw [hcnt q] at h1
  split at h1
  ·rename_i h; exact ⟨q,rfl,h.1⟩
  ·omega
 have hadb:(ga H8.next 0 0).block=H8.next:=rfl
 generalize ga H8.next 0 0=ad at o9 hadb ⊢
 refine cv tok mix (by kernel_rfl) ws.length (fun i ρ m H'=>ρ 9=.slice a2 ws.length q2∧ρ 11=.slice a3 s.grants.length q3∧ρ 19=.slice (some ad) s.grants.length 1∧ρ 20=vi i∧m= []∧Sub H8 H'∧bg H' H8.next (.slice (some ad) s.grants.length 1) 3 1 ca (cntL s.grants.length ws i)∧FxOk H'.fx) (i0:=0) (by omega)
  ⟨by simp,by simp,by simp,by simp,rfl,s9,o9,hf9⟩ ?_
 rintro i ρ m H10 hi ⟨e9,e11,e19,e20,rfl,s10,o10,hf10⟩
 simp (disch:=omega) [e9,e20]
 refine ba (fun hlt=>?_) (fun hge=>?_)
 ·obtain ⟨a,rfl,hab,hrd⟩:=(E2'.mono s10).at i hlt
  obtain ⟨q,hq,hqn⟩:=hrng _ (List.getElem_mem hlt)
  have hltI:(i:Int)<ws.length:=by omega
  have c0:¬(q:Int)<0:=by omega
  have c1:¬s.grants.length≤q:=by omega
  have c2:(q:Int)<s.grants.length:=by omega
  obtain ⟨am,fm,hme,hEm⟩:=o10.elems (fun _=>rfl)
  rw [cntL_len] at hme
  cases hme
  obtain ⟨b',hb',hbb,hrm⟩:=hEm.at q (by rw [cntL_len]; exact hqn)
  cases hb'
  have hat:=cntL_at (n:=s.grants.length) (xs:=ws) (i:=i) (k:=q) (by rw [cntL_len]; exact hqn)
  have hbd:(ws.take i).count (q:Int)≤14:=by
   have:=List.count_le_length (a:=(q:Int)) (l:=ws.take i)
   have:=List.length_take_le' i ws
   omega
  obtain ⟨H11,hw11,o11,hn11,hs11⟩:=o10.wr (fun _=>rfl) (i:=q) (k:=0) (by rw [cntL_len]; exact hqn) (c:=vi ((cntL s.grants.length ws i)[q]'(by rw [cntL_len]; exact hqn)+1)) (new:= []) (by simp) (y:=(cntL s.grants.length ws i)[q]'(by rw [cntL_len]; exact hqn)+1) (by simp [splice])
  rw [←cntL_succ hlt hq hqn] at o11
  rw [hat] at hw11 hrm
  simp (disch:=omega) [e9,e11,e19,e20,hrd,hq,c0,c1,hrm,hw11,aj]
  exact ⟨hlt,⟨by have:=s10.1; omega,fun g hg=>by rw [hs11 g (by omega),s10.2 g hg]⟩,o11,by rw [fx_write hw11]; exact hf10⟩
 have:i=ws.length:=by omega
 subst this
 simp (disch:=omega)
 clear s9 o9 hf9 H9
 obtain ⟨am,fm,hme,hEm⟩:=o10.elems (fun _=>rfl)
 rw [cntL_len] at hme
 cases hme
 refine cv tok mix (by kernel_rfl) s.grants.length (fun i ρ m H'=>ρ 11=.slice a3 s.grants.length q3∧ρ 19=.slice (some ad) s.grants.length 1∧ρ 21=vi i∧m= []∧H'=H10) (i0:=0) (by omega)
  ⟨by simp [e11],by simp [e19],by simp,rfl,rfl⟩ ?_
 rintro i ρ m H10 hi ⟨e11,e19,e21,rfl,rfl⟩
 simp (disch:=omega) [e11,e21]
 refine ba (fun hlt=>?_) (fun hge=>?_)
 ·obtain ⟨a,rfl,hab,hrd⟩:=(E3'.mono s10).at i hlt
  obtain ⟨b',hb',hbb,hrm⟩:=hEm.at i (by rw [cntL_len]; exact hlt)
  cases hb'
  have hltI:(i:Int)<s.grants.length:=by omega
  have hat:=cntL_at (n:=s.grants.length) (xs:=ws) (i:=ws.length) (k:=i) (by rw [cntL_len]; exact hlt)
  have hga:gAt s i=s.grants[i]:=bc hlt
  rw [List.take_length,hcnt i,hga] at hat
  rw [hat] at hrm
  by_cases c3:s.grants[i].is=3
  ·rw [if_pos ⟨hlt,c3⟩] at hrm
   simp (disch:=omega) [e11,e19,e21,hrd,c3,hrm,aj]
   exact hlt
  ·rw [if_neg (fun h=>c3 h.2)] at hrm
   simp (disch:=omega) [e11,e19,e21,hrd,c3,hrm,aj]
   exact hlt
 simp (disch:=omega)
 refine (cx hf10).go ?_
 simp
 exact hs8.trans s10
end Go.Gm.Tryz
end
section
namespace Go.Gm.Tryz
open Go.Proofs Go.Proofs.YtmnfgajihkfahaaGreatDoor Go.RowKit
theorem grantBack_spec:LawSpec Rows.grantBackSpec 4:=⟨rfl,fun H xs h=>by
 match xs,h with
 | [_,_,_,_],_=>rfl⟩
set_option maxRecDepth 100000 in
theorem grantBack_lifted (os:Os) (started:os.Started) (H:Type) (enc:TypeId×Value→H):
  ReturnsInHanded {} Tryz.checked os 11 .any (fun w args=>(Rows.grantBackSpec.pre enc Tryz.prog Tryz.f11 [] false w args∧laidMetH Tryz.prog li w)∧sizedMet enc Tryz.prog Tryz.f11 (OpenSpec.ofChange Rows.grantBackSpec) false w args)
   (Rows.grantBackSpec.post enc Tryz.prog Tryz.f11 false true false false):=by
 refine fk (C:=Tryz.checked) (X:=fun w _=>laidMetH Tryz.prog li w) (fun _ _ _ hh h=>h.of_heap hh) own started (by kernel_rfl) Tryz.func11
  (ChangeSpec.witness_shaped (enc:=enc) (C:=Tryz.checked) (os:=os) (X:=fun w _=>laidMetH Tryz.prog li w) false (World.laidAll Tryz.prog os li) #[.agg #[.slice none 0 0,.int .i64 0,.int .i64 0,.int .i64 0,.int .i64 0,.slice none 0 0,.slice none 0 0],.int .i64 0,.int .i64 0,.int .i64 0] 9 (World.laidAll_os _ _ _)
   (World.shaped_of_ZipB (by kernel_rfl) (by kernel_rfl)) (by kernel_rfl) (by kernel_rfl) (by kernel_rfl)
   (by rw [MakeChecks.laidMetH_plain _ _ _ (by kernel_rfl)]; exact laidMet_laidAll _ (by kernel_rfl) (by kernel_rfl))) ?_
 intro W base args ds gs before hsh hval _ hw hL
 obtain ⟨fx,hfx,hok,hW⟩:=anh hL hsh
 refine tw (P:=Tryz.prog) (fn:=Tryz.f11) (ds:= [sh,dI,dI,dI]) abw (by rw [Tryz.params11]; exact .cons abt (.cons rz (.cons rz (.cons rz .nil)))) (by kernel_rfl) Tryz.underlying4 (by
  rw [Tryz.params11]
  intro t ht
  have hall:([28,3,3,3].all fun t=>Tryz.prog.readableRec t&&decide (t<Tryz.prog.types.size))=true:=by kernel_rfl
  have:=List.all_eq_true.1 hall t (by simpa using ht)
  simpa using this) grantBack_spec hW hfx ?_ hval hw
 intro G gss hG hLie
 have hfG:FxOk G.fx:=by rw [hG]; exact hok
 cases hLie with
 |cons h1 h2=>
 cases h2 with
 |cons h2 h3=>
 cases h3 with
 |cons h3 h4=>
 cases h4 with
 |cons h4 h5=>
 cases h5
 obtain ⟨l,b,e,hb,_,_,k3⟩:=yb h1
 obtain ⟨n,rfl⟩:=ew h2
 obtain ⟨m,rfl⟩:=ew h3
 obtain ⟨o,rfl⟩:=ew h4
 show ay Tryz.prog 11 [ahz sh _,vi n,vi m,vi o] G _
 rw [e]
 exact (back_law hb hfG n m o).mono fun x _ h=>h.1
theorem grantBack_inPlace:(Rows.grantBackRow.inPlace==Tryz.prog.inPlace 11)=true:=by kernel_rfl
theorem grantBack_unf:(Rows.grantBackRow.unfollowed==Tryz.prog.unfollowed 11)=true:=by kernel_rfl
theorem grantBack_rec:(Rows.grantBackRow.recurses==Tryz.prog.recurses 11)=true:=by kernel_rfl
theorem grantBack_named:(Rows.grantBackRow.named==Tryz.prog.varsNamed 11)=true:=by kernel_rfl
theorem grantBack_joined:joinedFacts Tryz.prog 11 Tryz.f11 Rows.grantBackSpec Rows.grantBackRow=true:=by
 unfold joinedFacts
 exact am (am (am (am (am (am (am (am (am (am (am (am (am (am (am (am (am (am (am (am (am (am (am (am (am (am (am (am (am (am (am (by kernel_rfl) (by kernel_rfl)) (by kernel_rfl)) (by kernel_rfl)) (by kernel_rfl)) (by kernel_rfl)) (by kernel_rfl)) (by kernel_rfl)) (by kernel_rfl)) grantBack_inPlace) grantBack_unf) grantBack_rec) grantBack_named) (by kernel_rfl)) (by kernel_rfl)) (by kernel_rfl)) (by kernel_rfl)) (by kernel_rfl)) (by kernel_rfl)) (by kernel_rfl)) (by kernel_rfl)) (by kernel_rfl)) (by kernel_rfl)) (by kernel_rfl)) (by kernel_rfl)) af9) (by rw [agc]; exact beq_self_eq_true _)) (by rw [anr]; exact beq_self_eq_true _)) (by kernel_rfl)) (by kernel_rfl)) (by kernel_rfl)) (by kernel_rfl)
theorem grantBack_holds:Rows.GrantBackSaid:=
 OpenClaim.holds_of_wide 11 Tryz.f11 rfl rfl rfl rfl rfl rfl rfl ⟨rfl,rfl,rfl,rfl,rfl⟩ rfl rfl rfl rfl rfl (by kernel_rfl) Tryz.func11 grantBack_joined
  (of_decide_eq_true (by kernel_rfl)) (by unfold Func.isWrapper; first|(rw [if_pos (by decide+kernel)]; kernel_rfl)|(rw [if_neg (by decide+kernel)]; exact ⟨rfl,rfl⟩))
  (fun os started H enc _=>grantBack_lifted os started H enc)
end Go.Gm.Tryz
namespace Go.Proofs.YtmnfgajihkfahaaGreatDoor
open Go.Gm.Tryz
set_option maxRecDepth 100000 in
theorem grantBack_card_holds:Rows.GrantBackCardSaid:=
 Claim7.holds_tied_plain_at .later [] [.data,.data,.data,.data,.pinned] true (true, "c50a2473247fd563652536c5189614d6c43fc7c925362f406516d21693885498") true
  grantBack_holds (fun _ h=>by cases h) (by kernel_rfl) (fun _ h=>by cases h) grantBack_row_tie rfl ⟨rfl,rfl⟩ anq rfl
  (fun f fn hf hfn=>by
   obtain rfl:f=11:=Option.some.inj ((show Tryz.prog.funcNamed "quinaria/quinarialaw06.GrantBack"=some 11 by kernel_rfl).symm.trans hf)|>.symm
   obtain rfl:fn=Tryz.f11:=(Option.some.inj (Tryz.func11.symm.trans hfn)).symm
   exact ⟨agv,fun j t ht=>by
    rw [Tryz.params11] at ht
    have hm:t∈ [28,3,3,3]:=by simpa using Array.mem_of_getElem? ht
    have hall:([28,3,3,3].all fun u=> !Tryz.prog.wantsStandIn u)=true:=by kernel_rfl
    exact (show Tryz.prog.wantsStandIn t=false by simpa using List.all_eq_true.1 hall t hm)⟩)
  (by kernel_rfl)
end Go.Proofs.YtmnfgajihkfahaaGreatDoor
end
end
