/- Part 4 of the proof: Gc15, Gc16, Gc17, Gc18, Gc19, Gc20, Gc21, Gc22, Gc23, Gc24, Gc25, Gc26, Gc27, Gc28, Gc29, Gc30, Gc31, Gc32, Gc33, Gc34, Gc35, Gc36, Gc37, Gc38, Gc39, GmImport, Gc51, Gd1, Gd2, Gd3, GcP, Gp1, Gd4, GbP, GmIter4, Cu0, Cu1, Cu2, Cu3, GmCanon, GmTryzF, Ku1, Cu4, Cu5, Cu6, Cu7, Cu8, Cu9. -/
import Derived.Test.YtccimeehmeibfaaGreatEa3
import Derived.RecoverIn
import Derived.Tactics
import Derived.RegionIn
import Derived.ControlIn
import Derived.Test.YtccimeehmeibfaaGreatRows
import Derived.LaidLaws
import Derived.Lay
import Derived.MakeChecks
import Derived.KernelRfl
noncomputable section
section
namespace Go.Gm
theorem OwnL.blk_some {α:Type} {H:GH} {N:Nat} {ty:TypeId} {sz:Nat} {enc:α→List Value} {l:List α} {a:Addr} {n fl:Nat} (h:OwnL H N (.slice (some a) n fl) ty sz enc l):blkOf (.slice (some a) n fl)=some a.block:=by
 rcases h with ⟨_,h⟩|⟨g,ver,szs,pre,h0,_,_,h,_⟩
 ·cases h
 ·cases h; simp [h0]
end Go.Gm
namespace Go.Gm.Tryz
open Go.Proofs
def endG (s:Stand) (g:Nat) (day:Int):Stand:= { s with grants:=s.grants.set g { s.grants.getD g default with is:=3,person:= -1 },fell:=s.fell++ [((g:Int),day)] }
def endS (b:Book) (s:Stand) (g:Nat) (day:Int):Stand:=serve b (endG s g day)
theorem countP_set {α:Type} {p:α→Bool} {l:List α} {i:Nat} {y:α} (hi:i<l.length):(l.set i y).countP p+(if p l[i] then 1 else 0)=l.countP p+(if p y then 1 else 0):=by
 induction l generalizing i with
 |nil=>simp at hi
 |cons x l ih=>
  cases i with
  |zero=>simp only [List.set_cons_zero,List.countP_cons,List.getElem_cons_zero]; omega
  |succ i=>
   have:=ih (by simpa using hi)
   simp only [List.set_cons_succ,List.countP_cons,List.getElem_cons_succ]; omega
theorem endG_wf {b:Book} {s:Stand} {g:Nat} (h:Wf b s) (hgl:g<s.grants.length) (hg3:(s.grants[g]).is≠3) (day:Int):Wf b (endG s g day):=by
 refine ⟨h.w,by simpa [endG] using h.len,by simpa [endG] using h.last,h.own,h.ev,?_⟩
 have h1:=h.fe
 have h2:=countP_set (p:=fun x:GSt=>decide (x.is=3)) (y:= { s.grants[g] with is:=3,person:= -1 }) hgl
 have hge:s.grants.getD g default=s.grants[g]:=getD_at hgl
 simp [hg3] at h2
 simp only [endG,hge,List.length_append,List.length_cons,List.length_nil]
 omega
theorem endS_wf {b:Book} {s:Stand} {g:Nat} (h:Wf b s) (hgl:g<s.grants.length) (hg3:(s.grants[g]).is≠3) (day:Int):Wf b (endS b s g day):=serve_wf (endG_wf h hgl hg3 day)
theorem endS_opens {b:Book} {s:Stand} {g:Nat} (hgl:g<s.grants.length) (hg2:(s.grants[g]).is=2) (day:Int):opens (endS b s g day)+1=opens s:=by
 unfold endS
 rw [serve_opens]
 have h2:=countP_set (p:=fun x:GSt=>decide (x.is=2)) (y:= { s.grants[g] with is:=3,person:= -1 }) hgl
 have hge:s.grants.getD g default=s.grants[g]:=getD_at hgl
 simp [hg2] at h2
 simp only [opens,endG,hge]
 omega
theorem ends_con {H:GH} {N:Nat} {l:BLoc} {b:Book} {sg kn:Nat} {s:Stand} {O:Nat→Prop} (h:StandIn H N l b sg kn s O) (hw:Wf b s) (g:Nat) (hgl:g<s.grants.length) (hge3:(s.grants[g]).is≠3) (day:Int):
  GCall Tryz.prog 133 [.pointer (some (ga sg 0 0)),vi g,vi day] H fun x H'=>x=.ret (.tuple #[])∧∃O',Frm O O' H H'∧StandIn H' N l b sg kn (endS b s g day) O':=by
 rcases l with ⟨⟨⟨ra,rf⟩⟩,⟨oa,of'⟩,⟨va',vf'⟩⟩
 obtain ⟨vl,vo,vg,va,vw,vf,h,hO⟩:=h
 refine gcall_wp tok mix fok133 (F:=g133) (c:=_) rfl (n:=34) rfl (rs:= []) rfl ?_
 have hg:=h.g
 have hsl:=h.sgl.2
 have hsN:=h.sgl.1
 have hlf:=h.fell.len
 have hfe:s.fell.length≤1000:=by have:=hw.fe; have:=hw.len; have:=List.countP_le_length (p:=fun x:GSt=>decide (x.is=3)) (l:=s.grants); omega
 obtain ⟨ag,fg,rfl,hE⟩:=h.grants.elems (fun _=>rfl)
 obtain ⟨ag,rfl,hgb,_⟩:=hE.at g hgl
 have hge:s.grants.getD g default=s.grants[g]:=getD_at hgl
 have hbk:=h.grants.blk_some
 have hbgs:ag.block≠sg:=fun hc=>h.sg_ne h.grants (by decide) (by rw [hbk,hc])
 obtain ⟨H1,hw1,ho1,hn1,hs1⟩:=h.grants.wr (fun _=>rfl) (i:=g) (k:=0) hgl (c:=vi 3) (new:= []) (by simp) (y:= { s.grants[g] with is:=3 }) (by simp [splice])
 have hE2:=ho1.elems' (fun _=>rfl)
 obtain ⟨H2,hw2,ho2,hn2,hs2⟩:=ho1.wr (fun _=>rfl) (i:=g) (k:=1) (by simpa using hgl) (c:=vi (-1)) (new:= []) (by simp) (y:= { s.grants[g] with is:=3,person:= -1 }) (by simp [splice])
 have hg1:=(hs1 sg (Ne.symm hbgs)).trans hg
 have hg2:=(hs2 sg (Ne.symm hbgs)).trans hg1
 have hlt:(g:Int)<s.grants.length:=by omega
 have hS1:=h.wr_grants (H1:=H2) (by omega) ho2 (fun k hk hne=>by
  have hka:k≠ag.block:=fun hc=>hne (by rw [hbk,hc])
  rw [hs2 k hka,hs1 k hka])
 obtain ⟨vf',H3,happ,ho3,hn3,hf3,hb3⟩:=(hS1.fell.push (.arr { cells:= [vi g,vi day],ty:=285 })).app (by simp) (by simp) (by decide) ((g:Int),day) (by simp; omega)
 simp only [encF] at happ
 have d8:16*(1+s.fell.length)≤1000000:=by omega
 have d9:1+s.fell.length≤1000000:=by omega
 have hsl2:=hS1.sgl.2
 simp only [GH.next_push] at hn3
 have hg3:=(hf3 sg (by simp; omega) (hS1.sg_ne hS1.fell (by decide))).trans ((GH.get_push_lt _ _ hsl2).trans hS1.g)
 obtain ⟨af,ff,rfl⟩:=ho3.slice
 simp (disch:=omega) [hg,hw1,hw2,hg2,hlf,d8,d9,happ,hg3]
 have hS2:=hS1.upd_fell (by omega) ho3 (fun k hk hne=>by rw [hf3 k (by simp; omega) hne,GH.get_push_lt _ _ hk]) (fun k hk=>(hb3 k hk).imp id fun h=>by simp at h; omega)
 simp only [bookC,List.cons_append,List.nil_append,List.length_append,List.length_cons,List.length_nil,Nat.zero_add] at hS2 hb3
 have hfin:=StandIn.of h hO hS2 (by simp; omega) (fun k hk ho=>by
  have ho':=ho
  rw [hO] at ho'
  have hka:k≠ag.block:=fun hc=>ho' (.inr (.inr (.inr (.inr (.inl (by rw [hbk,hc]))))))
  rw [GH.get_put_ne _ _ (fun hc=>ho' (.inl hc)),hf3 k (by simp; omega) (fun hc=>ho' (.inr (.inr (.inr (.inr (.inr (.inr (.inr hc)))))))),GH.get_push_lt _ _ (by omega),hs2 k hka,hs1 k hka])
  (fun k hk=>.inl hk) (fun k hk=>.inl hk) (fun k hk=>.inl hk) (fun k hk=>.inl hk) (fun k hk=>.inl hk) (fun k hk=>(hb3 k hk).imp id fun h=>by simp at h; omega)
 obtain ⟨O4,hf4,h4⟩:=hfin
 have he:({ s with grants:=s.grants.set g { s.grants[g] with is:=3,person:= -1 },fell:=s.fell++ [((g:Int),day)] }:Stand)=endG s g day:=by unfold endG; rw [hge]
 have hset:(s.grants.set g { s.grants[g] with is:=3 }).set g { s.grants[g] with is:=3,person:= -1 }=s.grants.set g { s.grants[g] with is:=3,person:= -1 }:=by simp
 simp only [hset] at h4
 change StandIn _ N _ b sg kn { s with grants:=s.grants.set g { s.grants[g] with is:=3,person:= -1 },fell:=s.fell++ [((g:Int),day)] } O4 at h4
 rw [he] at h4
 refine (serve_con h4 (endG_wf hw hgl hge3 day)).mono ?_
 rintro x H5 ⟨rfl,O5,hf5,h5⟩
 simp
 exact ⟨O5,hf4.trans hf5,h5⟩
def upto {α:Type} (f:α→α) (l:List α) (i:Nat):List α:=(l.take i).map f++l.drop i
theorem upto_zero {α:Type} (f:α→α) (l:List α):upto f l 0=l:=by simp [upto]
theorem upto_all {α:Type} (f:α→α) (l:List α):upto f l l.length=l.map f:=by simp [upto]
theorem upto_len {α:Type} (f:α→α) (l:List α) (i:Nat):(upto f l i).length=l.length:=by simp [upto]; omega
theorem upto_at {α:Type} (f:α→α) {l:List α} {i:Nat} (hi:i<l.length):(upto f l i)[i]'(by rw [upto_len]; exact hi)=l[i]:=by
 unfold upto
 rw [List.getElem_append_right (by simp; omega)]
 simp only [List.getElem_drop,List.length_map,List.length_take]
 congr 1; omega
theorem upto_succ {α:Type} (f:α→α) {l:List α} {i:Nat} (hi:i<l.length):upto f l (i+1)=(upto f l i).set i (f l[i]):=by
 unfold upto
 have:((l.take i).map f).length=i:=by simp; omega
 rw [List.set_append_right _ _ (by omega),this,Nat.sub_self,List.drop_eq_getElem_cons hi,List.set_cons_zero,List.take_succ_eq_append_getElem hi,List.map_append,List.append_assoc]
 rfl
def ownS (s:Stand) (n:Nat) (p:Int):Stand:= { s with owners:=s.owners.set n p,grants:=s.grants.map fun x=>if x.estate=(n:Int) then { x with person:=p } else x }
theorem own_con {H:GH} {N:Nat} {l:BLoc} {b:Book} {sg kn:Nat} {s:Stand} {O:Nat→Prop} (h:StandIn H N l b sg kn s O) (hlen:s.grants.length≤1000) (n:Nat) (hn:n<s.owners.length) (p:Int):
  GCall Tryz.prog 304 [.pointer (some (ga sg 0 0)),vi n,vi p] H fun x H'=>x=.ret (.tuple #[])∧∃O',Frm O O' H H'∧StandIn H' N l b sg kn (ownS s n p) O':=by
 rcases l with ⟨⟨⟨ra,rf⟩⟩,⟨oa,of'⟩,⟨va',vf'⟩⟩
 have hOl:=fun g hg=>(h.lt g hg).2
 obtain ⟨vl,vo,vg,va,vw,vf,h,hO⟩:=h
 refine gcall_wp tok mix fok304 (F:=g304) (c:=_) rfl (n:=38) rfl (rs:= []) rfl ?_
 have hg:=h.g
 have hsl:=h.sgl.2
 obtain ⟨ao,fo,rfl,hE⟩:=h.owners.elems (fun _=>rfl)
 obtain ⟨ao,rfl,hob,_⟩:=hE.at n hn
 obtain ⟨ag,fg,rfl,hEg⟩:=h.grants.elems (fun _=>rfl)
 have hbk:=h.owners.blk_some
 obtain ⟨H1,hw1,ho1,hn1,hs1⟩:=h.owners.wr (fun _=>rfl) (i:=n) (k:=0) hn (c:=vi p) (new:= []) (by simp) (y:=p) (by simp [splice])
 have hbgs:ao.block≠sg:=fun hc=>h.sg_ne h.owners (by decide) (by rw [hbk,hc])
 have hg1:=(hs1 sg (Ne.symm hbgs)).trans hg
 have hlt:(n:Int)<s.owners.length:=by omega
 simp (disch:=omega) [hg,hw1,hg1]
 have hS1:=h.wr_owners (H1:=H1) (by omega) ho1 (fun k hk hne=>hs1 k fun hc=>hne (by rw [hbk,hc]))
 refine wp_up tok mix (by kernel_rfl) s.grants.length (fun i ρ m H2=>ρ 0=.pointer (some (ga sg 0 0))∧ρ 1=vi n∧ρ 2=vi p∧ρ 18=.slice ag s.grants.length fg∧ρ 19=vi s.grants.length∧ρ 20=vi i∧m= []∧H.next≤H2.next∧(∀g,g<H.next→¬O g→H2.get g=H.get g)∧
  StIn H2 N ⟨⟨⟨ra,rf⟩⟩,⟨oa,of'⟩,⟨va',vf'⟩⟩ b sg kn { s with owners:=s.owners.set n p,grants:=upto (fun x=>if x.estate=(n:Int) then { x with person:=p } else x) s.grants i } vl (.slice (some ao) s.owners.length fo) (.slice ag s.grants.length fg) va vw vf) (i0:=0) (by omega)
  ⟨by simp,by simp,by simp,by simp,by simp,by simp,rfl,by omega,fun g hg ho=>hs1 g fun hc=>ho ((hO g).2 (.inr (.inr (.inr (.inl (by rw [hbk,hc])))))),by simpa [upto_zero] using hS1⟩ ?_
 rintro i ρ m H2 hi ⟨e0,e1,e2,e18,e19,e20,rfl,hn2,hs2,h2⟩
 have hg2:=h2.g
 simp [e19,e20]
 refine wpB_dec (fun hlt2=>?_) (fun hge=>?_)
 ·obtain ⟨a2,rfl,hab,hrd⟩:=(h2.grants.elems' (fun _=>rfl)).at i (by rw [upto_len]; exact hlt2)
  rw [upto_at _ hlt2] at hrd
  have hltI:(i:Int)<s.grants.length:=by omega
  have hbk2:=h2.grants.blk_some
  simp (disch:=omega) [e1,e18,e20,hrd]
  have hsu:=upto_succ (fun x:GSt=>if x.estate=(n:Int) then { x with person:=p } else x) hlt2
  generalize hH3:GH.put _ _ _=H3
  have hs3:Sub H2 H3:=by subst hH3; exact (Sub.push (.refl H2) _).put (Nat.le_refl _) _
  have hb3:H3.get H2.next=some (.arr { cells:=encSt s.grants[i],ty:=218 }):=by subst hH3; simp
  have hl3:H2.next<H3.next:=by subst hH3; simp
  clear hH3
  have h3:=h2.sub hs3
  have hg3:=h3.g
  have hsl3:=h3.sgl.2
  have hs23:∀g,g<H.next→¬O g→H3.get g=H.get g:=fun g hg ho=>by rw [hs3.2 g (by omega),hs2 g hg ho]
  try simp (disch:=omega) [hb3,e1]
  refine wpB_bool (fun h5=>?_) (fun h5=>?_)<;>(try simp only [decide_eq_true_eq,decide_eq_false_iff_not] at h5)
  ·obtain ⟨H4,hw4,ho4,hn4,hs4⟩:=h3.grants.wr (fun _=>rfl) (i:=i) (k:=1) (by rw [upto_len]; exact hlt2) (c:=vi p) (new:= []) (by simp) (y:= { s.grants[i] with person:=p }) (by rw [upto_at _ hlt2]; simp [splice])
   simp (disch:=omega) [e0,e2,hg3,hw4]
   have h4:=h3.wr_grants (H1:=H4) (by omega) ho4 (fun k hk hne=>hs4 k fun hc=>hne (by rw [hbk2,hc]))
   simp (disch:=omega) [e0,e1,e2,e18,e19,e20,hlt2,wrap64]
   refine ⟨by omega,fun g hg ho=>?_,?_⟩
   ·rw [hs4 g fun hc=>ho ((hO g).2 (.inr (.inr (.inr (.inr (.inl (by rw [hbk2,hc])))))))]
    exact hs23 g hg ho
   ·rw [hsu,if_pos h5]; exact h4
  ·simp (disch:=omega) [e0,e1,e2,e18,e19,e20,hlt2,wrap64]
   refine ⟨by omega,hs23,?_⟩
   rw [hsu,if_neg h5]
   have:(upto (fun x:GSt=>if x.estate=(n:Int) then { x with person:=p } else x) s.grants i).set i s.grants[i]=upto (fun x:GSt=>if x.estate=(n:Int) then { x with person:=p } else x) s.grants i:=by
    conv=>lhs; rw [←upto_at (fun x:GSt=>if x.estate=(n:Int) then { x with person:=p } else x) hlt2]
    exact List.set_getElem_self _
   rw [this]; exact h3
 ·have:i=s.grants.length:=by omega
  subst this
  rw [upto_all] at h2
  simp
  exact StandIn.of h hO h2 hn2 hs2 (fun k hk=>.inl hk) (fun k hk=>.inl hk) (fun k hk=>.inl hk) (fun k hk=>.inl hk) (fun k hk=>.inl hk) (fun k hk=>.inl hk)
end Go.Gm.Tryz
end
section
namespace Go.Gm.Tryz
open Go.Proofs
def lastAt (s:Stand) (n:Int):Int:=s.last.getD n.toNat 0
def findStep (s:Stand) (day:Int) (at_:Int) (g:Nat):Int:=
 if (s.grants.getD g default).is≠2∨day≤lastAt s g then at_ else if at_<0∨lastAt s g<lastAt s at_ then g else at_
def findAt (s:Stand) (day:Int):Int:=(List.range s.grants.length).foldl (findStep s day) (-1)
def passS (b:Book) (day:Int):Nat→Stand→Stand
 |0,s=>s
 |n+1,s=>if findAt s day<0 then s else passS b day n (endS b s (findAt s day).toNat (IntKind.i64.wrap (lastAt s (findAt s day)+1)))
def pass (b:Book) (s:Stand) (day:Int):Stand:=passS b day (opens s) s
theorem find_upto (s:Stand) (day:Int) (i:Nat) (hi:i≤s.grants.length): -1≤(List.range i).foldl (findStep s day) (-1)∧((List.range i).foldl (findStep s day) (-1))<i∧
  (0≤(List.range i).foldl (findStep s day) (-1)→(s.grants.getD ((List.range i).foldl (findStep s day) (-1)).toNat default).is=2):=by
 induction i with
 |zero=>simp
 |succ i ih=>
  obtain ⟨h1,h2,h3⟩:=ih (by omega)
  rw [List.range_succ,List.foldl_append]
  simp only [List.foldl_cons,List.foldl_nil]
  generalize (List.range i).foldl (findStep s day) (-1)=a at h1 h2 h3
  unfold findStep
  by_cases c1:(s.grants.getD i default).is≠2∨day≤lastAt s i
  ·rw [if_pos c1]; exact ⟨h1,by omega,h3⟩
  ·rw [if_neg c1]
   by_cases c2:a<0∨lastAt s i<lastAt s a
   ·rw [if_pos c2]
    refine ⟨by omega,by omega,fun _=>?_⟩
    have:¬(s.grants.getD i default).is≠2:=fun h=>c1 (.inl h)
    simpa using this
   ·rw [if_neg c2]; exact ⟨h1,by omega,h3⟩
theorem findAt_ok (s:Stand) (day:Int): -1≤findAt s day∧findAt s day<s.grants.length∧(0≤findAt s day→(s.grants.getD (findAt s day).toNat default).is=2):=find_upto s day _ (Nat.le_refl _)
theorem passS_wf {b:Book} {day:Int}:∀ {n:Nat} {s:Stand},Wf b s→Wf b (passS b day n s):=by
 intro n
 induction n with
 |zero=>intro s h; exact h
 |succ n ih=>
  intro s h
  simp only [passS]
  split
  ·exact h
  ·rename_i hge
   obtain ⟨h1,h2,h3⟩:=findAt_ok s day
   refine ih (endS_wf h (by omega) ?_ _)
   have:=h3 (by omega)
   rw [getD_at (by omega)] at this
   rw [this]; decide
theorem pass_wf {b:Book} {s:Stand} {day:Int} (h:Wf b s):Wf b (pass b s day):=passS_wf h
theorem pass_con {H:GH} {N:Nat} {l:BLoc} {b:Book} {sg kn:Nat} {s:Stand} {O:Nat→Prop} (h:StandIn H N l b sg kn s O) (hw:Wf b s) (day:Int):
  GCall Tryz.prog 72 [.pointer (some (ga sg 0 0)),vi day] H fun x H'=>x=.ret (.tuple #[])∧∃O',Frm O O' H H'∧StandIn H' N l b sg kn (pass b s day) O':=by
 rcases l with ⟨⟨⟨ra,rf⟩⟩,⟨oa,of'⟩,⟨va',vf'⟩⟩
 refine gcall_wp tok mix fok72 (F:=g72) (c:=_) rfl (n:=65) rfl (rs:= []) rfl ?_
 simp
 refine wp_loop tok mix (by kernel_rfl) (fun k ρ m H1=>∃s1 O1,k=opens s1∧ρ 0=.pointer (some (ga sg 0 0))∧ρ 1=vi day∧m= []∧Frm O O1 H H1∧StandIn H1 N ⟨⟨⟨ra,rf⟩⟩,⟨oa,of'⟩,⟨va',vf'⟩⟩ b sg kn s1 O1∧passS b day k s1=pass b s day∧Wf b s1) ⟨s,O,rfl,by simp,by simp,rfl,Frm.refl (fun g hg=>(h.lt g hg).2),h,rfl,hw⟩ ?_
 rintro k ρ m H1 ⟨s1,O1,rfl,e0,e1,rfl,hf,h1,hps,hw1⟩
 have h1':=h1
 obtain ⟨vl,vo,vg,va,vw,vf,h1,hO⟩:=h1
 have hg:=h1.g
 obtain ⟨ag,fg,rfl,hEg⟩:=h1.grants.elems (fun _=>rfl)
 obtain ⟨al,fl,rfl,hEl⟩:=h1.last.elems (fun _=>rfl)
 have hlen:=hw1.len
 have hlast:=hw1.last
 simp (disch:=omega) [e0,hg]
 refine wp_up tok mix (by kernel_rfl) s1.grants.length (fun i ρ m H2=>ρ 0=.pointer (some (ga sg 0 0))∧ρ 1=vi day∧ρ 10=.slice ag s1.grants.length fg∧ρ 11=vi s1.grants.length∧ρ 12=vi i∧ρ 4=vi ((List.range i).foldl (findStep s1 day) (-1))∧m= []∧Sub H1 H2) (i0:=0) (by omega) (by simp [e0,e1]) ?_
 rintro i ρ m H2 hi ⟨f0,f1,f10,f11,f12,f4,rfl,hs2⟩
 have h2:=h1.sub hs2
 have hg2:=h2.g
 have hsl2:=h2.sgl.2
 obtain ⟨p1,p2,p3⟩:=find_upto s1 day i hi
 have psucc:(List.range (i+1)).foldl (findStep s1 day) (-1)=findStep s1 day ((List.range i).foldl (findStep s1 day) (-1)) i:=by rw [List.range_succ,List.foldl_append]; rfl
 generalize hat:(List.range i).foldl (findStep s1 day) (-1)=at_ at f4 p1 p2 p3 psucc
 simp [f11,f12]
 refine wpB_dec (fun hlt=>?_) (fun hge=>?_)
 ·obtain ⟨a2,rfl,hab,hrd⟩:=(hEg.mono hs2).at i hlt
  obtain ⟨a3,rfl,hlb,hlr⟩:=(hEl.mono hs2).at i (by omega)
  have hltI:(i:Int)<s1.grants.length:=by omega
  have hltL:(i:Int)<s1.last.length:=by omega
  have hgi:s1.grants.getD i default=s1.grants[i]:=getD_at hlt
  have hli:lastAt s1 i=s1.last[i]'(by omega):=by unfold lastAt; rw [Int.toNat_natCast]; exact getD_at (by omega)
  simp (disch:=omega) [f10,f12,hrd]
  refine contG_bool (fun h2=>?_) (fun h2=>?_)<;>(try simp only [decide_eq_true_eq,decide_eq_false_iff_not] at h2)
  ·simp (disch:=omega) [f0,f1,hg2,hlr,h2]
   refine wpB_dec (fun h3=>?_) (fun h3=>?_)
   ·simp (disch:=omega) [f0,f1,f10,f11,f12,f4,wrap64]
    refine ⟨hlt,?_,(hs2.push _).put (by have:=hs2.1; omega) _⟩
    rw [psucc]; unfold findStep; rw [if_pos (.inr (by rw [hli]; exact h3))]
   ·simp [f4]
    refine planG_bool (fun h4=>?_) (fun h4=>?_)<;>(try simp only [Bool.not_eq_true',Bool.not_eq_false',decide_eq_true_eq,decide_eq_false_iff_not] at h4)
    ·obtain ⟨j,rfl⟩:=Int.eq_ofNat_of_zero_le (show 0≤at_ by omega)
     have hjL:j<s1.last.length:=by omega
     have hj0:¬((j:Int)<0):=by omega
     have hjI:(j:Int)<s1.last.length:=by omega
     obtain ⟨a4,ha4,hjb,hjr⟩:=(hEl.mono hs2).at j hjL
     cases ha4
     have hlj:lastAt s1 j=s1.last[j]:=by unfold lastAt; rw [Int.toNat_natCast]; exact getD_at hjL
     simp (disch:=omega) [f0,f4,hg2,hlr,hjr,h4]
     refine wpB_dec (fun h5=>?_) (fun h5=>?_)
     ·simp (disch:=omega) [f0,f1,f10,f11,f12,wrap64]
      refine ⟨hlt,?_,(hs2.push _).put (by have:=hs2.1; omega) _⟩
      rw [psucc]; unfold findStep; rw [if_neg (by rw [hgi,hli]; simp only [h2]; omega),if_pos (.inr (by rw [hli,hlj]; exact h5))]
     ·simp (disch:=omega) [f0,f1,f10,f11,f12,f4,wrap64]
      refine ⟨hlt,?_,(hs2.push _).put (by have:=hs2.1; omega) _⟩
      rw [psucc]; unfold findStep; rw [if_neg (by rw [hgi,hli]; simp only [h2]; omega),if_neg (by rw [hli,hlj]; omega)]
    ·simp (disch:=omega) [f0,f1,f10,f11,f12,wrap64,h4]
     refine ⟨hlt,?_,(hs2.push _).put (by have:=hs2.1; omega) _⟩
     rw [psucc]; unfold findStep; rw [if_neg (by rw [hgi,hli]; simp only [h2]; omega),if_pos (.inl h4)]
  ·simp (disch:=omega) [f0,f1,f10,f11,f12,f4,wrap64,h2]
   refine ⟨hlt,?_,(hs2.push _).put (by have:=hs2.1; omega) _⟩
   rw [psucc]; unfold findStep; rw [if_pos (.inl (by rw [hgi]; exact h2))]
 ·have:i=s1.grants.length:=by omega
  subst this
  have hfa:findAt s1 day=at_:=hat
  have hfr:Frm O O1 H H2:=hf.trans (h1'.sub hs2).2
  have h2':StandIn H2 N ⟨⟨⟨ra,rf⟩⟩,⟨oa,of'⟩,⟨va',vf'⟩⟩ b sg kn s1 O1:=(h1'.sub hs2).1
  simp [f4]
  refine wpB_dec (fun h4=>?_) (fun h4=>?_)
  ·simp
   refine ⟨O1,hfr,?_⟩
   have:passS b day (opens s1) s1=s1:=by
    cases opens s1 with
    |zero=>rfl
    |succ n=>simp only [passS]; rw [if_pos (by omega)]
   rw [←hps,this]; exact h2'
  ·obtain ⟨j,rfl⟩:=Int.eq_ofNat_of_zero_le (show 0≤at_ by omega)
   have hjL:j<s1.last.length:=by omega
   have hjG:j<s1.grants.length:=by omega
   have hjI:(j:Int)<s1.last.length:=by omega
   obtain ⟨a4,rfl,hjb,hjr⟩:=(hEl.mono hs2).at j hjL
   have hlj:lastAt s1 j=s1.last[j]:=by unfold lastAt; rw [Int.toNat_natCast]; exact getD_at hjL
   have hj2:(s1.grants[j]).is=2:=by have:=p3 (by omega); rwa [Int.toNat_natCast,getD_at hjG] at this
   have hop:=endS_opens (b:=b) hjG hj2 (IntKind.i64.wrap (lastAt s1 j+1))
   have hps2:passS b day (opens (endS b s1 j (IntKind.i64.wrap (lastAt s1 j+1)))) (endS b s1 j (IntKind.i64.wrap (lastAt s1 j+1)))=pass b s day:=by
    rw [←hps,←hop]; simp only [passS]; rw [hfa,if_neg (by omega)]; rfl
   have hw2:=endS_wf (b:=b) hw1 hjG (by rw [hj2]; decide) (IntKind.i64.wrap (lastAt s1 j+1))
   simp (disch:=omega) [f0,f4,hg2,hjr]
   rw [←hlj]
   refine (ends_con h2' hw1 j hjG (by rw [hj2]; decide) _).mono ?_
   rintro x H5 ⟨rfl,O5,hf5,h5⟩
   simp [f0,f1]
   exact ⟨opens (endS b s1 j (IntKind.i64.wrap (lastAt s1 j+1))),by omega,endS b s1 j (IntKind.i64.wrap (lastAt s1 j+1)),rfl,O5,hfr.trans hf5,h5,hps2,hw2⟩
end Go.Gm.Tryz
end
section
namespace Go.Gm.Tryz
open Go.Proofs
abbrev Goes (f:FuncId) (H:GH) (N:Nat) (l:BLoc) (b:Book) (sg kn:Nat) (s:Stand) (O:Nat→Prop) (e:Ev) (r:Bool):Prop:=
 GCall Tryz.prog f [evV e,.pointer (some (ga sg 0 0))] H fun x H'=>x=.ret (.bool r)∧Frm O O H H'∧StandIn H' N l b sg kn s O
def fitsB (b:Book) (s:Stand) (e:Ev):Bool:=decide (0≤waterI b.tbl e.system e.units)&&(decide (waterI b.tbl e.system e.units≤freeI b s)&&decide (s.waits= []))
section
variable {H:GH} {N:Nat} {l:BLoc} {b:Book} {sg kn:Nat} {s:Stand} {O:Nat→Prop}
theorem StandIn.st (h:StandIn H N l b sg kn s O):∃vl vo vg va vw vf,StIn H N l b sg kn s vl vo vg va vw vf:=by
 obtain ⟨_,_,_,_,_,_,h,_⟩:=h
 exact ⟨_,_,_,_,_,_,h⟩
theorem water_st (h:StandIn H N l b sg kn s O) (sys u:Int):GCall Tryz.prog 101 [.pointer (some (ga sg 0 0)),vi sys,vi u] H fun x H'=>x=.ret (vi (waterI b.tbl sys u))∧Frm O O H H'∧StandIn H' N l b sg kn s O:=by
 obtain ⟨_,_,_,_,_,_,h'⟩:=h.st
 refine (water_con h' sys u).mono ?_
 rintro x H' ⟨rfl,hk⟩
 have:=h.kstep hk
 exact ⟨rfl,this.2,this.1⟩
theorem free_st (h:StandIn H N l b sg kn s O) (hw:Wf b s):GCall Tryz.prog 41 [.pointer (some (ga sg 0 0))] H fun x H'=>x=.ret (vi (freeI b s))∧Frm O O H H'∧StandIn H' N l b sg kn s O:=by
 obtain ⟨_,_,_,_,_,_,h'⟩:=h.st
 refine (free_con h' (by have:=hw.len; omega)).mono ?_
 rintro x H' ⟨rfl,hk⟩
 have:=h.kstep hk
 exact ⟨rfl,this.2,this.1⟩
def existsB (s:Stand) (n:Int):Bool:=decide (n<s.owners.length)&&decide (0≤s.owners.getD n.toNat 0)
theorem exists_st (h:StandIn H N l b sg kn s O) {n:Int} (hn:0≤n):C 301 [.pointer (some (ga sg 0 0)),vi n] H (.bool (existsB s n)) H:=by
 obtain ⟨_,_,_,_,_,_,h'⟩:=h.st
 exact exists_con h' n hn
theorem fits_con (h:StandIn H N l b sg kn s O) (hw:Wf b s) (e:Ev):
  GCall Tryz.prog 298 [.pointer (some (ga sg 0 0)),evV e] H fun x H'=>x=.ret (.bool (fitsB b s e))∧Frm O O H H'∧StandIn H' N l b sg kn s O:=by
 rcases l with ⟨⟨⟨ra,rf⟩⟩,⟨oa,of'⟩,⟨va',vf'⟩⟩
 refine gcall_wp tok mix fok298 (F:=g298) (c:=_) rfl (n:=28) rfl (rs:= [.tmp 4]) rfl ?_
 simp
 obtain ⟨h1,f1⟩:=h.sub (Sub.push (.refl H) (.arr { cells:= [vi e.kind,vi e.day,vi e.person,vi e.other,vi e.estate,vi e.grant,vi e.system,vi e.units],ty:=54 }))
 refine (water_st h1 e.system e.units).mono ?_
 rintro x H2 ⟨rfl,f2,h2⟩
 simp
 refine contG_bool (fun h5=>?_) (fun h5=>?_)<;>(try simp only [decide_eq_true_eq,decide_eq_false_iff_not] at h5)
 ·simp [h5]
  refine (free_st h2 hw).mono ?_
  rintro x H3 ⟨rfl,f3,h3⟩
  simp
  have hf3:=f1.trans (f2.trans f3)
  refine contG_bool (fun h6=>?_) (fun h6=>?_)<;>(try simp only [decide_eq_true_eq,decide_eq_false_iff_not] at h6)
  ·obtain ⟨_,_,_,_,vw,_,h3'⟩:=h3.st
   have hg3:=h3'.g
   have hsl:=h3'.sgl.2
   obtain ⟨aw,fw,rfl,_⟩:=h3'.waits.elems (fun _=>rfl)
   simp [h6,hg3]
   exact ⟨by simp [fitsB,h5,h6],hf3,h3⟩
  ·simp [h6]
   exact ⟨by simp [fitsB,h6],hf3,h3⟩
 ·simp [h5]
  exact ⟨by simp [fitsB,h5],f1.trans f2,h2⟩
theorem give_goes (h:StandIn H N l b sg kn s O) (hw:Wf b s) (e:Ev) (hp:0≤e.person∧e.person<s.lives.length):
  Goes 297 H N l b sg kn s O e (s.lives.getD e.person.toNat false&&fitsB b s e):=by
 rcases l with ⟨⟨⟨ra,rf⟩⟩,⟨oa,of'⟩,⟨va',vf'⟩⟩
 refine gcall_wp tok mix fok297 (F:=g297) (c:=_) rfl (n:=20) rfl (rs:= [.tmp 4]) rfl ?_
 obtain ⟨h1,f1⟩:=h.sub (Sub.push (.refl H) (.arr { cells:= [vi e.kind,vi e.day,vi e.person,vi e.other,vi e.estate,vi e.grant,vi e.system,vi e.units],ty:=233 }))
 obtain ⟨_,_,_,_,_,_,h1'⟩:=h1.st
 have hg1:=h1'.g
 have hsl:=h1'.sgl.2
 obtain ⟨al,fl,rfl,hE⟩:=h1'.lives.elems (fun _=>rfl)
 obtain ⟨a,rfl,hal,hrd⟩:=hE.at e.person.toNat (by omega)
 have e1:s.lives[e.person.toNat]?.getD false=s.lives[e.person.toNat]:=by rw [List.getElem?_eq_getElem (by omega)]; rfl
 simp (disch:=omega) [hg1,hrd]
 refine planG_bool (fun h5=>?_) (fun h5=>?_)
 ·simp [h5]
  refine (fits_con h1 hw e).mono ?_
  rintro x H3 ⟨rfl,f3,h3⟩
  simp
  exact ⟨f1.trans f3,h3⟩
 ·simp [h5]
  exact ⟨f1,h1⟩
theorem attach_goes (h:StandIn H N l b sg kn s O) (hw:Wf b s) (e:Ev) (hp:0≤e.estate):
  Goes 300 H N l b sg kn s O e (existsB s e.estate&&fitsB b s e):=by
 rcases l with ⟨⟨⟨ra,rf⟩⟩,⟨oa,of'⟩,⟨va',vf'⟩⟩
 refine gcall_wp tok mix fok300 (F:=g300) (c:=_) rfl (n:=16) rfl (rs:= [.tmp 4]) rfl ?_
 obtain ⟨h1,f1⟩:=h.sub (Sub.push (.refl H) (.arr { cells:= [vi e.kind,vi e.day,vi e.person,vi e.other,vi e.estate,vi e.grant,vi e.system,vi e.units],ty:=234 }))
 obtain ⟨_,_,_,_,_,_,h1'⟩:=h1.st
 have hg1:=h1'.g
 have hsl:=h1'.sgl.2
 simp (disch:=omega)
 refine (exists_st h1 hp).go ?_
 simp
 refine contG_bool (fun h5=>?_) (fun h5=>?_)
 ·simp [h5]
  refine (fits_con h1 hw e).mono ?_
  rintro x H3 ⟨rfl,f3,h3⟩
  simp
  exact ⟨f1.trans f3,h3⟩
 ·simp [h5]
  exact ⟨f1,h1⟩
theorem die_goes (h:StandIn H N l b sg kn s O) (_hw:Wf b s) (e:Ev) (hp:0≤e.person∧e.person<s.lives.length) (ho:0≤e.other∧e.other<s.lives.length):
  Goes 303 H N l b sg kn s O e (decide (e.person≠e.other)&&(s.lives.getD e.person.toNat false&&s.lives.getD e.other.toNat false)):=by
 rcases l with ⟨⟨⟨ra,rf⟩⟩,⟨oa,of'⟩,⟨va',vf'⟩⟩
 refine gcall_wp tok mix fok303 (F:=g303) (c:=_) rfl (n:=34) rfl (rs:= [.tmp 4]) rfl ?_
 obtain ⟨h1,f1⟩:=h.sub (Sub.push (.refl H) (.arr { cells:= [vi e.kind,vi e.day,vi e.person,vi e.other,vi e.estate,vi e.grant,vi e.system,vi e.units],ty:=235 }))
 obtain ⟨_,_,_,_,_,_,h1'⟩:=h1.st
 have hg1:=h1'.g
 have hsl:=h1'.sgl.2
 obtain ⟨al,fl,rfl,hE⟩:=h1'.lives.elems (fun _=>rfl)
 obtain ⟨a,rfl,hal,hrd⟩:=hE.at e.person.toNat (by omega)
 have e1:s.lives[e.person.toNat]?.getD false=s.lives[e.person.toNat]:=by rw [List.getElem?_eq_getElem (by omega)]; rfl
 obtain ⟨a',ha',hal',hrd'⟩:=hE.at e.other.toNat (by omega)
 cases ha'
 have e2:s.lives[e.other.toNat]?.getD false=s.lives[e.other.toNat]:=by rw [List.getElem?_eq_getElem (by omega)]; rfl
 simp (disch:=omega)
 by_cases h5:e.person=e.other
 ·simp [h5]
  rw [h5] at f1 h1
  exact ⟨f1,h1⟩
 ·simp (disch:=omega) [h5,hg1,hrd]
  refine planG_bool (fun h6=>?_) (fun h6=>?_)
  ·simp (disch:=omega) [h6,hg1,hrd']
   exact ⟨f1,h1⟩
  ·simp [h6]
   exact ⟨f1,h1⟩
theorem ask_goes (h:StandIn H N l b sg kn s O) (_hw:Wf b s) (e:Ev) (hp:0≤e.person∧e.person<s.lives.length):
  Goes 314 H N l b sg kn s O e (s.lives.getD e.person.toNat false&&decide (0≤waterI b.tbl e.system e.units)):=by
 rcases l with ⟨⟨⟨ra,rf⟩⟩,⟨oa,of'⟩,⟨va',vf'⟩⟩
 refine gcall_wp tok mix fok314 (F:=g314) (c:=_) rfl (n:=25) rfl (rs:= [.tmp 4]) rfl ?_
 obtain ⟨h1,f1⟩:=h.sub (Sub.push (.refl H) (.arr { cells:= [vi e.kind,vi e.day,vi e.person,vi e.other,vi e.estate,vi e.grant,vi e.system,vi e.units],ty:=240 }))
 obtain ⟨_,_,_,_,_,_,h1'⟩:=h1.st
 have hg1:=h1'.g
 have hsl:=h1'.sgl.2
 obtain ⟨al,fl,rfl,hE⟩:=h1'.lives.elems (fun _=>rfl)
 obtain ⟨a,rfl,hal,hrd⟩:=hE.at e.person.toNat (by omega)
 have e1:s.lives[e.person.toNat]?.getD false=s.lives[e.person.toNat]:=by rw [List.getElem?_eq_getElem (by omega)]; rfl
 simp (disch:=omega) [hg1,hrd]
 refine planG_bool (fun h5=>?_) (fun h5=>?_)
 ·simp [h5]
  refine (water_st h1 e.system e.units).mono ?_
  rintro x H3 ⟨rfl,f3,h3⟩
  simp
  exact ⟨f1.trans f3,h3⟩
 ·simp [h5]
  exact ⟨f1,h1⟩
theorem sell_goes (h:StandIn H N l b sg kn s O) (_hw:Wf b s) (e:Ev) (hp:0≤e.person∧e.person<s.lives.length) (ho:0≤e.estate):
  Goes 306 H N l b sg kn s O e (existsB s e.estate&&(s.lives.getD e.person.toNat false&&decide (s.owners.getD e.estate.toNat 0≠e.person))):=by
 rcases l with ⟨⟨⟨ra,rf⟩⟩,⟨oa,of'⟩,⟨va',vf'⟩⟩
 refine gcall_wp tok mix fok306 (F:=g306) (c:=_) rfl (n:=36) rfl (rs:= [.tmp 4]) rfl ?_
 obtain ⟨h1,f1⟩:=h.sub (Sub.push (.refl H) (.arr { cells:= [vi e.kind,vi e.day,vi e.person,vi e.other,vi e.estate,vi e.grant,vi e.system,vi e.units],ty:=236 }))
 obtain ⟨_,_,_,_,_,_,h1'⟩:=h1.st
 have hg1:=h1'.g
 have hsl:=h1'.sgl.2
 obtain ⟨al,fl,rfl,hE⟩:=h1'.lives.elems (fun _=>rfl)
 obtain ⟨a,rfl,hal,hrd⟩:=hE.at e.person.toNat (by omega)
 have e1:s.lives[e.person.toNat]?.getD false=s.lives[e.person.toNat]:=by rw [List.getElem?_eq_getElem (by omega)]; rfl
 obtain ⟨ao,fo,rfl,hO⟩:=h1'.owners.elems (fun _=>rfl)
 simp (disch:=omega)
 refine (exists_st h1 ho).go ?_
 simp
 refine planG_bool (fun h5=>?_) (fun h5=>?_)
 ·have h5':=h5
  simp only [existsB,Bool.and_eq_true,decide_eq_true_eq] at h5'
  obtain ⟨ao,rfl,hao,hro⟩:=hO.at e.estate.toNat (by omega)
  have e2:s.owners[e.estate.toNat]?.getD 0=s.owners[e.estate.toNat]'(by omega):=by rw [List.getElem?_eq_getElem (by omega)]; rfl
  simp (disch:=omega) [h5,hg1,hrd]
  refine planG_bool (fun h6=>?_) (fun h6=>?_)
  ·simp (disch:=omega) [h6,hg1,hro]
   exact ⟨f1,h1⟩
  ·simp [h6]
   exact ⟨f1,h1⟩
 ·simp [h5]
  exact ⟨f1,h1⟩
theorem renew_goes (h:StandIn H N l b sg kn s O) (_hw:Wf b s) (e:Ev) (hp:0≤e.grant):
  Goes 312 H N l b sg kn s O e (decide (e.grant<s.grants.length)&&(decide ((s.grants.getD e.grant.toNat default).is=2)&&decide ((s.grants.getD e.grant.toNat default).person=e.person))):=by
 rcases l with ⟨⟨⟨ra,rf⟩⟩,⟨oa,of'⟩,⟨va',vf'⟩⟩
 refine gcall_wp tok mix fok312 (F:=g312) (c:=_) rfl (n:=43) rfl (rs:= [.tmp 4]) rfl ?_
 obtain ⟨h1,f1⟩:=h.sub (Sub.push (.refl H) (.arr { cells:= [vi e.kind,vi e.day,vi e.person,vi e.other,vi e.estate,vi e.grant,vi e.system,vi e.units],ty:=239 }))
 obtain ⟨_,_,_,_,_,_,h1'⟩:=h1.st
 have hg1:=h1'.g
 have hsl:=h1'.sgl.2
 obtain ⟨ag,fg,rfl,hG⟩:=h1'.grants.elems (fun _=>rfl)
 simp (disch:=omega) [hg1]
 refine planG_bool (fun h5=>?_) (fun h5=>?_)<;>(try simp only [decide_eq_true_eq,decide_eq_false_iff_not] at h5)
 ·obtain ⟨ag,rfl,hag,hrg⟩:=hG.at e.grant.toNat (by omega)
  have e1:s.grants[e.grant.toNat]?.getD default=s.grants[e.grant.toNat]'(by omega):=by rw [List.getElem?_eq_getElem (by omega)]; rfl
  simp (disch:=omega) [h5,hg1,hrg]
  refine planG_bool (fun h6=>?_) (fun h6=>?_)<;>(try simp only [decide_eq_true_eq,decide_eq_false_iff_not] at h6)
  ·simp (disch:=omega) [h6,hg1,hrg]
   exact ⟨f1,h1⟩
  ·simp [h6]
   exact ⟨f1,h1⟩
 ·simp [h5]
  exact ⟨f1,h1⟩
theorem join_goes (h:StandIn H N l b sg kn s O) (_hw:Wf b s) (e:Ev) (ho:0≤e.other) (hp:0≤e.estate):
  Goes 310 H N l b sg kn s O e (decide (e.estate≠e.other)&&(existsB s e.estate&&(existsB s e.other&&decide (s.owners.getD e.estate.toNat 0=s.owners.getD e.other.toNat 0)))):=by
 rcases l with ⟨⟨⟨ra,rf⟩⟩,⟨oa,of'⟩,⟨va',vf'⟩⟩
 refine gcall_wp tok mix fok310 (F:=g310) (c:=_) rfl (n:=47) rfl (rs:= [.tmp 4]) rfl ?_
 obtain ⟨h1,f1⟩:=h.sub (Sub.push (.refl H) (.arr { cells:= [vi e.kind,vi e.day,vi e.person,vi e.other,vi e.estate,vi e.grant,vi e.system,vi e.units],ty:=238 }))
 obtain ⟨_,_,_,_,_,_,h1'⟩:=h1.st
 have hg1:=h1'.g
 have hsl:=h1'.sgl.2
 obtain ⟨ao,fo,rfl,hO⟩:=h1'.owners.elems (fun _=>rfl)
 have hx:=exists_st h1 hp
 have hy:=exists_st h1 ho
 simp (disch:=omega)
 refine planG_bool (fun h4=>?_) (fun h4=>?_)<;>(try simp only [Bool.not_eq_true',Bool.not_eq_false',decide_eq_true_eq,decide_eq_false_iff_not] at h4)
 ·simp [h4]
  refine hx.go ?_
  simp
  refine planG_bool (fun h5=>?_) (fun h5=>?_)
  ·simp [h5]
   refine hy.go ?_
   simp
   refine planG_bool (fun h6=>?_) (fun h6=>?_)
   ·have h5':=h5
    have h6':=h6
    simp only [existsB,Bool.and_eq_true,decide_eq_true_eq] at h5' h6'
    obtain ⟨ao,rfl,hao,hro⟩:=hO.at e.estate.toNat (by omega)
    obtain ⟨ao',ha',hao',hro'⟩:=hO.at e.other.toNat (by omega)
    cases ha'
    have e1:s.owners[e.estate.toNat]?.getD 0=s.owners[e.estate.toNat]'(by omega):=by rw [List.getElem?_eq_getElem (by omega)]; rfl
    have e2:s.owners[e.other.toNat]?.getD 0=s.owners[e.other.toNat]'(by omega):=by rw [List.getElem?_eq_getElem (by omega)]; rfl
    simp (disch:=omega) [h6,hg1,hro,hro']
    exact ⟨f1,h1⟩
   ·simp [h6]
    exact ⟨f1,h1⟩
  ·simp [h5]
   exact ⟨f1,h1⟩
 ·simp [h4]
  rw [h4] at f1 h1
  exact ⟨f1,h1⟩
def partB (b:Book) (s:Stand) (sys all one:Int):Bool:=
 decide (0≤waterI b.tbl sys one)&&(decide (0≤waterI b.tbl sys (IntKind.i64.wrap (all - one)))&&
  decide (IntKind.i64.wrap (IntKind.i64.wrap (waterI b.tbl sys one+waterI b.tbl sys (IntKind.i64.wrap (all - one))) - waterI b.tbl sys all)≤freeI b s))
def divB (b:Book) (s:Stand) (e:Ev):Bool:=
 decide (e.grant<s.grants.length)&&(decide (0≤(s.grants.getD e.grant.toNat default).estate)&&(decide (e.units<(s.grants.getD e.grant.toNat default).units)&&(s.lives.getD e.person.toNat false&&
  partB b s (s.grants.getD e.grant.toNat default).system (s.grants.getD e.grant.toNat default).units e.units)))
theorem divide_goes (h:StandIn H N l b sg kn s O) (hw:Wf b s) (e:Ev) (hp:0≤e.person∧e.person<s.lives.length) (hg:0≤e.grant):
  Goes 308 H N l b sg kn s O e (divB b s e):=by
 rcases l with ⟨⟨⟨ra,rf⟩⟩,⟨oa,of'⟩,⟨va',vf'⟩⟩
 refine gcall_wp tok mix fok308 (F:=g308) (c:=_) rfl (n:=105) rfl (rs:= [.tmp 4]) rfl ?_
 obtain ⟨h1,f1⟩:=h.sub (Sub.push (.refl H) (.arr { cells:= [vi e.kind,vi e.day,vi e.person,vi e.other,vi e.estate,vi e.grant,vi e.system,vi e.units],ty:=237 }))
 obtain ⟨_,_,_,_,_,_,h1'⟩:=h1.st
 have hg1:=h1'.g
 have hsl:=h1'.sgl.2
 obtain ⟨al,fl,rfl,hE⟩:=h1'.lives.elems (fun _=>rfl)
 obtain ⟨a,rfl,hal,hrd⟩:=hE.at e.person.toNat (by omega)
 have e1:s.lives[e.person.toNat]?.getD false=s.lives[e.person.toNat]:=by rw [List.getElem?_eq_getElem (by omega)]; rfl
 obtain ⟨ag,fg,rfl,hG⟩:=h1'.grants.elems (fun _=>rfl)
 simp (disch:=omega) [hg1]
 refine planG_bool (fun h5=>?_) (fun h5=>?_)<;>(try simp only [Bool.not_eq_true',Bool.not_eq_false',decide_eq_true_eq,decide_eq_false_iff_not] at h5)
 ·have hgl:e.grant<s.grants.length:=by omega
  obtain ⟨ag,rfl,hag,hrg⟩:=hG.at e.grant.toNat (by omega)
  have e2:s.grants[e.grant.toNat]?.getD default=s.grants[e.grant.toNat]'(by omega):=by rw [List.getElem?_eq_getElem (by omega)]; rfl
  generalize hG:s.grants[e.grant.toNat]'(by omega)=G at hrg e2
  simp (disch:=omega) [h5,hg1,hrg]
  refine planG_bool (fun h6=>?_) (fun h6=>?_)<;>(try simp only [Bool.not_eq_true',Bool.not_eq_false',decide_eq_true_eq,decide_eq_false_iff_not] at h6)
  ·have h6':0≤G.estate:=by omega
   simp (disch:=omega) [h6,hg1,hrg]
   refine planG_bool (fun h7=>?_) (fun h7=>?_)<;>(try simp only [Bool.not_eq_true',Bool.not_eq_false',decide_eq_true_eq,decide_eq_false_iff_not] at h7)
   ·have h7':e.units<G.units:=by omega
    simp (disch:=omega) [h7,hg1,hrd]
    refine wpB_bool (fun h8=>?_) (fun h8=>?_)<;>(try simp only [Bool.not_eq_true',Bool.not_eq_false'] at h8)
    ·simp [divB,h6',h7',h8,hgl,e2,e1]
     exact ⟨f1,h1⟩
    ·have hO1:∀g,O g→g<H.next:=fun g ho=>(h.lt g ho).2
     simp (disch:=omega) [hg1,hrg,h8]
     generalize hH2:GH.put _ _ _=H2
     have hs2:Sub (H.push (.arr { cells:= [vi e.kind,vi e.day,vi e.person,vi e.other,vi e.estate,vi e.grant,vi e.system,vi e.units],ty:=237 })) H2:=by
      subst hH2; exact (Sub.push (.refl _) _).put (Nat.le_refl _) _
     have hb2:H2.get (H.next+1)=some (.arr { cells:=encSt G,ty:=218 }):=by subst hH2; simp
     have he2:H2.get H.next=some (.arr { cells:= [vi e.kind,vi e.day,vi e.person,vi e.other,vi e.estate,vi e.grant,vi e.system,vi e.units],ty:=237 }):=by rw [hs2.2 _ (by simp)]; simp
     have hn2:H.next+1<H2.next:=by subst hH2; simp
     clear hH2
     obtain ⟨h2,f2⟩:=h1.sub hs2
     refine (water_st h2 G.system e.units).mono ?_
     rintro x H3 ⟨rfl,f3,h3⟩
     have hb3:=(f3.keep _ hn2 fun ho=>by have:=hO1 _ ho; omega).trans hb2
     have he3:=(f3.keep _ (show H.next<H2.next by omega) fun ho=>by have:=hO1 _ ho; omega).trans he2
     simp (disch:=omega) [hb3,he3]
     refine (water_st h3 G.system _).mono ?_
     rintro x H4 ⟨rfl,f4,h4⟩
     have hb4:=(f4.keep _ (show H.next+1<H3.next by have:=f3.next; omega) fun ho=>by have:=hO1 _ ho; omega).trans hb3
     have he4:=(f4.keep _ (show H.next<H3.next by have:=f3.next; omega) fun ho=>by have:=hO1 _ ho; omega).trans he3
     have hf4:=f1.trans (f2.trans (f3.trans f4))
     have hpre:divB b s e=partB b s G.system G.units e.units:=by simp [divB,h6',h7',h8,hgl,e2,e1]
     rw [hpre]
     simp (disch:=omega)
     refine contG_bool (fun h9=>?_) (fun h9=>?_)<;>(try simp only [decide_eq_true_eq,decide_eq_false_iff_not] at h9)
     ·simp [h9]
      refine contG_bool (fun h10=>?_) (fun h10=>?_)<;>(try simp only [decide_eq_true_eq,decide_eq_false_iff_not] at h10)
      ·simp (disch:=omega) [h10,hb4]
       refine (water_st h4 G.system G.units).mono ?_
       rintro x H5 ⟨rfl,f5,h5⟩
       simp
       refine (free_st h5 hw).mono ?_
       rintro x H6 ⟨rfl,f6,h6⟩
       simp
       exact ⟨by simp [partB,h9,h10],hf4.trans (f5.trans f6),h6⟩
      ·simp [h10]
       exact ⟨by simp [partB,h10],hf4,h4⟩
     ·simp [h9]
      exact ⟨by simp [partB,h9],hf4,h4⟩
   ·have h7':¬e.units<G.units:=by omega
    simp [divB,h6',h7,h7',hgl,e2]
    exact ⟨f1,h1⟩
  ·have h6':¬0≤G.estate:=by omega
   simp [divB,h6,h6',hgl,e2]
   exact ⟨f1,h1⟩
 ·have hgl:¬e.grant<s.grants.length:=by omega
  simp [divB,h5,hgl]
  exact ⟨f1,h1⟩
end
end Go.Gm.Tryz
end
section
namespace Go.Gm.Tryz
open Go.Proofs
abbrev Does (f:FuncId) (H:GH) (N:Nat) (l:BLoc) (b:Book) (sg kn:Nat) (O:Nat→Prop) (e:Ev) (n:Nat) (s':Stand):Prop:=
 GCall Tryz.prog f [evV e,.pointer (some (ga sg 0 0)),vi n] H fun x H'=>x=.ret (.tuple #[])∧∃O',Frm O O' H H'∧StandIn H' N l b sg kn s' O'
section
variable {H:GH} {N:Nat} {l:BLoc} {b:Book} {sg kn:Nat} {s:Stand} {O:Nat→Prop}
def giveS (s:Stand) (e:Ev):Stand:=addG s e.person (-1) e.system e.units
theorem give_do (h:StandIn H N l b sg kn s O) (hw:Wf b s) (e:Ev) (n:Nat):Does 296 H N l b sg kn O e n (giveS s e):=by
 rcases l with ⟨⟨⟨ra,rf⟩⟩,⟨oa,of'⟩,⟨va',vf'⟩⟩
 refine gcall_wp tok mix fok296 (F:=g296) (c:=_) rfl (n:=17) rfl (rs:= []) rfl ?_
 obtain ⟨h1,f1⟩:=h.sub (Sub.push (.refl H) (.arr { cells:= [vi e.kind,vi e.day,vi e.person,vi e.other,vi e.estate,vi e.grant,vi e.system,vi e.units],ty:=233 }))
 simp
 refine (add_con h1 (by have:=hw.len; omega) (by have:=hw.len; have:=hw.last; omega) _ _ _ _).mono ?_
 rintro x H3 ⟨rfl,O3,f3,h3⟩
 simp
 exact ⟨O3,f1.trans f3,h3⟩
def attachS (s:Stand) (e:Ev):Stand:=addG s (s.owners.getD e.estate.toNat 0) e.estate e.system e.units
theorem attach_do (h:StandIn H N l b sg kn s O) (hw:Wf b s) (e:Ev) (n:Nat) (he:0≤e.estate∧e.estate<s.owners.length):Does 299 H N l b sg kn O e n (attachS s e):=by
 rcases l with ⟨⟨⟨ra,rf⟩⟩,⟨oa,of'⟩,⟨va',vf'⟩⟩
 refine gcall_wp tok mix fok299 (F:=g299) (c:=_) rfl (n:=26) rfl (rs:= []) rfl ?_
 obtain ⟨h1,f1⟩:=h.sub (Sub.push (.refl H) (.arr { cells:= [vi e.kind,vi e.day,vi e.person,vi e.other,vi e.estate,vi e.grant,vi e.system,vi e.units],ty:=234 }))
 obtain ⟨_,_,_,_,_,_,h1'⟩:=h1.st
 have hg1:=h1'.g
 have hsl:=h1'.sgl.2
 obtain ⟨ao,fo,rfl,hO⟩:=h1'.owners.elems (fun _=>rfl)
 obtain ⟨ao,rfl,hao,hro⟩:=hO.at e.estate.toNat (by omega)
 have e2:s.owners.getD e.estate.toNat 0=s.owners[e.estate.toNat]'(by omega):=getD_at (by omega)
 simp (disch:=omega) [hg1,hro]
 refine (add_con h1 (by have:=hw.len; omega) (by have:=hw.len; have:=hw.last; omega) _ _ _ _).mono ?_
 rintro x H3 ⟨rfl,O3,f3,h3⟩
 simp
 exact ⟨O3,f1.trans f3,by unfold attachS; rw [e2]; exact h3⟩
theorem sell_do (h:StandIn H N l b sg kn s O) (hw:Wf b s) (e:Ev) (n:Nat) (he:0≤e.estate∧e.estate<s.owners.length):Does 305 H N l b sg kn O e n (ownS s e.estate.toNat e.person):=by
 rcases l with ⟨⟨⟨ra,rf⟩⟩,⟨oa,of'⟩,⟨va',vf'⟩⟩
 refine gcall_wp tok mix fok305 (F:=g305) (c:=_) rfl (n:=14) rfl (rs:= []) rfl ?_
 obtain ⟨h1,f1⟩:=h.sub (Sub.push (.refl H) (.arr { cells:= [vi e.kind,vi e.day,vi e.person,vi e.other,vi e.estate,vi e.grant,vi e.system,vi e.units],ty:=236 }))
 simp
 have:=own_con h1 (by have:=hw.len; omega) e.estate.toNat (by omega) e.person
 rw [Int.toNat_of_nonneg he.1] at this
 refine this.mono ?_
 rintro x H3 ⟨rfl,O3,f3,h3⟩
 simp
 exact ⟨O3,f1.trans f3,h3⟩
theorem Frm.wr {O:Nat→Prop} {H H1:GH} {k:Nat} (hO:∀g,O g→g<H.next) (ho:O k) (hn:H1.next=H.next) (hs:∀g,g≠k→H1.get g=H.get g):Frm O O H H1:=
 ⟨by omega,fun g _ h=>hs g fun hc=>h (hc▸ho),fun g hg=>.inl hg,fun g hg=>by rw [hn]; exact hO g hg⟩
def renewS (s:Stand) (e:Ev):Stand:= { s with grants:=s.grants.set e.grant.toNat { s.grants.getD e.grant.toNat default with is:=1 } }
theorem renew_do (h:StandIn H N l b sg kn s O) (_hw:Wf b s) (e:Ev) (n:Nat) (he:0≤e.grant∧e.grant<s.grants.length):Does 311 H N l b sg kn O e n (renewS s e):=by
 rcases l with ⟨⟨⟨ra,rf⟩⟩,⟨oa,of'⟩,⟨va',vf'⟩⟩
 refine gcall_wp tok mix fok311 (F:=g311) (c:=_) rfl (n:=15) rfl (rs:= []) rfl ?_
 obtain ⟨h1,f1⟩:=h.sub (Sub.push (.refl H) (.arr { cells:= [vi e.kind,vi e.day,vi e.person,vi e.other,vi e.estate,vi e.grant,vi e.system,vi e.units],ty:=239 }))
 have hl1:=fun g ho=>(h1.lt g ho).2
 obtain ⟨_,_,_,_,_,_,h1',hO1⟩:=h1
 have hg1:=h1'.g
 have hsl:=h1'.sgl.2
 obtain ⟨ag,fg,rfl,hG⟩:=h1'.grants.elems (fun _=>rfl)
 obtain ⟨ag,rfl,hag,hrg⟩:=hG.at e.grant.toNat (by omega)
 have hbk:=h1'.grants.blk_some
 have e2:s.grants.getD e.grant.toNat default=s.grants[e.grant.toNat]'(by omega):=getD_at (by omega)
 obtain ⟨H2,hw2,ho2,hn2,hs2⟩:=h1'.grants.wr (fun _=>rfl) (i:=e.grant.toNat) (k:=0) (by omega) (c:=vi 1) (new:= []) (by simp) (y:= { s.grants[e.grant.toNat]'(by omega) with is:=1 }) (by simp [splice])
 have hS2:=h1'.wr_grants (H1:=H2) (by omega) ho2 (fun k hk hne=>hs2 k fun hc=>hne (by rw [hbk,hc]))
 simp (disch:=omega) [hg1,hw2]
 exact ⟨O,f1.trans (Frm.wr hl1 ((hO1 _).2 (.inr (.inr (.inr (.inr (.inl hbk)))))) hn2 hs2),by unfold renewS; rw [e2]; exact ⟨_,_,_,_,_,_,hS2,hO1⟩⟩
def askS (s:Stand) (n:Int):Stand:= { s with waits:=s.waits++ [n] }
theorem ask_do (h:StandIn H N l b sg kn s O) (hw:Wf b s) (e:Ev) (n:Nat):Does 313 H N l b sg kn O e n (askS s n):=by
 rcases l with ⟨⟨⟨ra,rf⟩⟩,⟨oa,of'⟩,⟨va',vf'⟩⟩
 refine gcall_wp tok mix fok313 (F:=g313) (c:=_) rfl (n:=16) rfl (rs:= []) rfl ?_
 obtain ⟨h1,f1⟩:=h.sub (Sub.push (.refl H) (.arr { cells:= [vi e.kind,vi e.day,vi e.person,vi e.other,vi e.estate,vi e.grant,vi e.system,vi e.units],ty:=240 }))
 obtain ⟨vl,vo,vg,va,vw,vf,h1',hO1⟩:=h1
 have hg1:=h1'.g
 have hsl:=h1'.sgl.2
 have hsN:=h1'.sgl.1
 have hlw:=h1'.waits.len
 have hle:=hw.len
 generalize hH1:H.push _=H1 at*
 have hn1:H1.next=H.next+1:=by rw [←hH1]; simp
 have hge:H1.get H.next=some (.arr { cells:= [vi e.kind,vi e.day,vi e.person,vi e.other,vi e.estate,vi e.grant,vi e.system,vi e.units],ty:=240 }):=by rw [←hH1]; simp
 obtain ⟨vw',H2,happ,ho2,hn2,hf2,hb2⟩:=(h1'.waits.push (.arr { cells:= [vi n],ty:=3 })).app (by simp) (by simp) (by decide) (n:Int) (by simp; omega)
 simp only [encI] at happ
 have d8:8*(1+s.waits.length)≤1000000:=by omega
 have d9:1+s.waits.length≤1000000:=by omega
 have hg2:=(hf2 sg (by simp; omega) (h1'.sg_ne h1'.waits (by decide))).trans ((GH.get_push_lt _ _ hsl).trans hg1)
 simp only [GH.next_push] at hn2
 obtain ⟨aw,fw,rfl⟩:=ho2.slice
 simp (disch:=omega) [hH1]
 simp (disch:=omega) [hg1,hlw,d8,d9,happ,hg2]
 have hS2:=h1'.upd_waits (by omega) ho2 (fun k hk hne=>by rw [hf2 k (by simp; omega) hne,GH.get_push_lt _ _ hk]) (fun k hk=>(hb2 k hk).imp id fun h=>by simp at h; omega)
 simp only [bookC,List.cons_append,List.nil_append,List.length_append,List.length_cons,List.length_nil,Nat.zero_add] at hS2 hb2
 obtain ⟨O3,f3,h3⟩:=StandIn.of h1' hO1 hS2 (by simp; omega) (fun k hk ho=>by
  rw [hO1] at ho
  rw [GH.get_put_ne _ _ (fun hc=>ho (.inl hc)),hf2 k (by simp; omega) (fun hc=>ho (.inr (.inr (.inr (.inr (.inr (.inr (.inl hc)))))))),GH.get_push_lt _ _ (by omega)])
  (fun k hk=>.inl hk) (fun k hk=>.inl hk) (fun k hk=>.inl hk) (fun k hk=>.inl hk) (fun k hk=>(hb2 k hk).imp id fun h=>by simp at h; omega) (fun k hk=>.inl hk)
 exact ⟨O3,f1.trans f3,h3⟩
def joinF (e:Ev) (x:GSt):GSt:=if x.estate=e.other then { x with estate:=e.estate } else x
def joinS (s:Stand) (e:Ev):Stand:= { s with owners:=s.owners.set e.other.toNat (-1),grants:=s.grants.map (joinF e) }
theorem join_do (h:StandIn H N l b sg kn s O) (hw:Wf b s) (e:Ev) (n:Nat) (he:0≤e.other∧e.other<s.owners.length):Does 309 H N l b sg kn O e n (joinS s e):=by
 rcases l with ⟨⟨⟨ra,rf⟩⟩,⟨oa,of'⟩,⟨va',vf'⟩⟩
 refine gcall_wp tok mix fok309 (F:=g309) (c:=_) rfl (n:=43) rfl (rs:= []) rfl ?_
 obtain ⟨h1,f1⟩:=h.sub (Sub.push (.refl H) (.arr { cells:= [vi e.kind,vi e.day,vi e.person,vi e.other,vi e.estate,vi e.grant,vi e.system,vi e.units],ty:=238 }))
 have hle:=hw.len
 have hl1:=fun g ho=>(h1.lt g ho).2
 have hge:(H.push (.arr { cells:= [vi e.kind,vi e.day,vi e.person,vi e.other,vi e.estate,vi e.grant,vi e.system,vi e.units],ty:=238 })).get H.next=some (.arr { cells:= [vi e.kind,vi e.day,vi e.person,vi e.other,vi e.estate,vi e.grant,vi e.system,vi e.units],ty:=238 }):=by simp
 have hOl:∀g,O g→g<H.next:=fun g hg=>(h.lt g hg).2
 have hnx:(H.push (.arr { cells:= [vi e.kind,vi e.day,vi e.person,vi e.other,vi e.estate,vi e.grant,vi e.system,vi e.units],ty:=238 })).next=H.next+1:=by simp
 generalize hH1:H.push _=H1 at*
 obtain ⟨vl,vo,vg,va,vw,vf,h1,hO⟩:=h1
 have hg:=h1.g
 have hsl:=h1.sgl.2
 obtain ⟨ao,fo,rfl,hE⟩:=h1.owners.elems (fun _=>rfl)
 obtain ⟨ao,rfl,hob,_⟩:=hE.at e.other.toNat (by omega)
 obtain ⟨ag,fg,rfl,hEg⟩:=h1.grants.elems (fun _=>rfl)
 have hbk:=h1.owners.blk_some
 obtain ⟨H2,hw2,ho2,hn2,hs2⟩:=h1.owners.wr (fun _=>rfl) (i:=e.other.toNat) (k:=0) (by omega) (c:=vi (-1)) (new:= []) (by simp) (y:=(-1:Int)) (by simp [splice])
 have hbgs:ao.block≠sg:=fun hc=>h1.sg_ne h1.owners (by decide) (by rw [hbk,hc])
 have hOo:O ao.block:=(hO _).2 (.inr (.inr (.inr (.inl hbk))))
 have hg2:=(hs2 sg (Ne.symm hbgs)).trans hg
 have he2:=(hs2 H.next (fun hc=>by have:=hOl _ hOo; omega)).trans hge
 have hS2:=h1.wr_owners (H1:=H2) (by omega) ho2 (fun k hk hne=>hs2 k fun hc=>hne (by rw [hbk,hc]))
 have f2:Frm O O H1 H2:=Frm.wr hl1 hOo hn2 hs2
 simp (disch:=omega) [hH1]
 simp (disch:=omega) [hg,hge,hw2,hg2]
 refine wp_up tok mix (by kernel_rfl) s.grants.length (fun i ρ m H3=>ρ 1=.pointer (some (ga sg 0 0))∧ρ 3=.pointer (some (ga H.next 0 0))∧ρ 19=.slice ag s.grants.length fg∧ρ 20=vi s.grants.length∧ρ 21=vi i∧m= []∧Frm O O H2 H3∧
  StIn H3 N ⟨⟨⟨ra,rf⟩⟩,⟨oa,of'⟩,⟨va',vf'⟩⟩ b sg kn { s with owners:=s.owners.set e.other.toNat (-1),grants:=upto (joinF e) s.grants i } vl (.slice (some ao) s.owners.length fo) (.slice ag s.grants.length fg) va vw vf) (i0:=0) (by omega)
  ⟨by simp,by simp,by simp,by simp,by simp,by simp,Frm.refl f2.lt,by simpa [upto_zero] using hS2⟩ ?_
 rintro i ρ m H3 hi ⟨e1,e3,e19,e20,e21,rfl,f3,h3⟩
 have hg3:=h3.g
 have he3:=(f3.keep H.next (by omega) (fun hc=>by have:=hOl _ hc; omega)).trans he2
 have hn3:=f3.next
 simp [e20,e21]
 refine wpB_dec (fun hlt2=>?_) (fun hge=>?_)
 ·obtain ⟨a2,rfl,hab,hrd⟩:=(h3.grants.elems' (fun _=>rfl)).at i (by rw [upto_len]; exact hlt2)
  rw [upto_at _ hlt2] at hrd
  have hltI:(i:Int)<s.grants.length:=by omega
  have hbk2:=h3.grants.blk_some
  simp (disch:=omega) [e3,e19,e21,hrd,he3]
  have hsu:=upto_succ (joinF e) hlt2
  generalize hH4:GH.put _ _ _=H4
  have hs4:Sub H3 H4:=by subst hH4; exact (Sub.push (.refl H3) _).put (Nat.le_refl _) _
  have hb4:H4.get H3.next=some (.arr { cells:=encSt s.grants[i],ty:=218 }):=by subst hH4; simp
  have he4:=(hs4.2 H.next (by omega)).trans he3
  have hl4:H3.next<H4.next:=by subst hH4; simp
  clear hH4
  have h4:=h3.sub hs4
  have hg4:=h4.g
  have hsl4:=h4.sgl.2
  have f4:Frm O O H3 H4:=Frm.of_sub f3.lt hs4
  try simp (disch:=omega) [hb4,he4,e1,e3]
  refine wpB_dec (fun h5=>?_) (fun h5=>?_)
  ·obtain ⟨H5,hw5,ho5,hn5,hs5⟩:=h4.grants.wr (fun _=>rfl) (i:=i) (k:=2) (by rw [upto_len]; exact hlt2) (c:=vi e.estate) (new:= []) (by simp) (y:= { s.grants[i] with estate:=e.estate }) (by rw [upto_at _ hlt2]; simp [splice])
   simp (disch:=omega) [e1,e3,hg4,he4,hw5]
   have h5':=h4.wr_grants (H1:=H5) (by omega) ho5 (fun k hk hne=>hs5 k fun hc=>hne (by rw [hbk2,hc]))
   have f5:Frm O O H4 H5:=Frm.wr f4.lt ((hO _).2 (.inr (.inr (.inr (.inr (.inl hbk2)))))) hn5 hs5
   simp (disch:=omega) [e1,e3,e19,e20,e21,hlt2,wrap64]
   refine ⟨f3.trans (f4.trans f5),?_⟩
   rw [hsu]; unfold joinF; rw [if_pos h5]; exact h5'
  ·simp (disch:=omega) [e1,e3,e19,e20,e21,hlt2,wrap64]
   refine ⟨f3.trans f4,?_⟩
   rw [hsu]
   have:(upto (joinF e) s.grants i).set i (joinF e s.grants[i])=upto (joinF e) s.grants i:=by
    have hj:joinF e s.grants[i]=s.grants[i]:=by unfold joinF; rw [if_neg h5]
    rw [hj]
    conv=>lhs; rw [←upto_at (joinF e) hlt2]
    exact List.set_getElem_self _
   rw [this]; exact h4
 ·have:i=s.grants.length:=by omega
  subst this
  rw [upto_all] at h3
  simp
  exact ⟨O,f1.trans (f2.trans f3),_,_,_,_,_,_,h3,hO⟩
end
end Go.Gm.Tryz
end
section
namespace Go.Gm.Tryz
open Go.Proofs
section
variable {H:GH} {N:Nat} {l:BLoc} {b:Book} {sg kn:Nat} {s:Stand} {O:Nat→Prop}
def divideS (s:Stand) (e:Ev):Stand:=
 addG { s with owners:=s.owners++ [e.person],grants:=s.grants.set e.grant.toNat { s.grants.getD e.grant.toNat default with units:=IntKind.i64.wrap ((s.grants.getD e.grant.toNat default).units - e.units) } }
  e.person s.owners.length (s.grants.getD e.grant.toNat default).system e.units
theorem divide_do (h:StandIn H N l b sg kn s O) (hw:Wf b s) (e:Ev) (n:Nat) (he:0≤e.grant∧e.grant<s.grants.length):Does 307 H N l b sg kn O e n (divideS s e):=by
 rcases l with ⟨⟨⟨ra,rf⟩⟩,⟨oa,of'⟩,⟨va',vf'⟩⟩
 refine gcall_wp tok mix fok307 (F:=g307) (c:=_) rfl (n:=57) rfl (rs:= []) rfl ?_
 obtain ⟨h1,f1⟩:=h.sub (Sub.push (.refl H) (.arr { cells:= [vi e.kind,vi e.day,vi e.person,vi e.other,vi e.estate,vi e.grant,vi e.system,vi e.units],ty:=237 }))
 have hle:=hw.len
 have hlo:=hw.own
 have hla:=hw.last
 have hl1:=fun g ho=>(h1.lt g ho).2
 have hge:(H.push (.arr { cells:= [vi e.kind,vi e.day,vi e.person,vi e.other,vi e.estate,vi e.grant,vi e.system,vi e.units],ty:=237 })).get H.next=some (.arr { cells:= [vi e.kind,vi e.day,vi e.person,vi e.other,vi e.estate,vi e.grant,vi e.system,vi e.units],ty:=237 }):=by simp
 have hOl:∀g,O g→g<H.next:=fun g hg=>(h.lt g hg).2
 have hnx:(H.push (.arr { cells:= [vi e.kind,vi e.day,vi e.person,vi e.other,vi e.estate,vi e.grant,vi e.system,vi e.units],ty:=237 })).next=H.next+1:=by simp
 generalize hH1:H.push _=H1 at*
 obtain ⟨vl,vo,vg,va,vw,vf,h1,hO⟩:=h1
 have hg:=h1.g
 have hsl:=h1.sgl.2
 obtain ⟨ag,fg,rfl,hEg⟩:=h1.grants.elems (fun _=>rfl)
 obtain ⟨ag,rfl,hag,hrg⟩:=hEg.at e.grant.toNat (by omega)
 have e2:s.grants.getD e.grant.toNat default=s.grants[e.grant.toNat]'(by omega):=getD_at (by omega)
 have hbk:=h1.grants.blk_some
 have hbgs:ag.block≠sg:=fun hc=>h1.sg_ne h1.grants (by decide) (by rw [hbk,hc])
 obtain ⟨H2,hw2,ho2,hn2,hs2⟩:=h1.grants.wr (fun _=>rfl) (i:=e.grant.toNat) (k:=4) (by omega) (c:=vi (IntKind.i64.wrap ((s.grants[e.grant.toNat]'(by omega)).units - e.units))) (new:= []) (by simp) (y:= { s.grants[e.grant.toNat]'(by omega) with units:=IntKind.i64.wrap ((s.grants[e.grant.toNat]'(by omega)).units - e.units) }) (by simp [splice])
 obtain ⟨a2,ha2,hab2,hrg2⟩:=(ho2.elems' (fun _=>rfl)).at e.grant.toNat (by simp; omega)
 cases ha2
 rw [List.getElem_set_self] at hrg2
 have hOo:O ag.block:=(hO _).2 (.inr (.inr (.inr (.inr (.inl hbk)))))
 have hg2:=(hs2 sg (Ne.symm hbgs)).trans hg
 have he2:=(hs2 H.next (fun hc=>by have:=hOl _ hOo; omega)).trans hge
 have hS2:=h1.wr_grants (H1:=H2) (by omega) ho2 (fun k hk hne=>hs2 k fun hc=>hne (by rw [hbk,hc]))
 have f2:Frm O O H1 H2:=Frm.wr hl1 hOo hn2 hs2
 have hlow:=hS2.owners.len
 obtain ⟨vo',H3,happ,ho3,hn3,hf3,hb3⟩:=(hS2.owners.push (.arr { cells:= [vi e.person],ty:=3 })).app (by simp) (by simp) (by decide) e.person (by have:=hS2.sgl; simp; omega)
 simp only [encI] at happ
 have d8:8*(1+s.owners.length)≤1000000:=by omega
 have d9:1+s.owners.length≤1000000:=by omega
 have hg3:=(hf3 sg (by have:=hS2.sgl; simp; omega) (hS2.sg_ne hS2.owners (by decide))).trans ((GH.get_push_lt _ _ hS2.sgl.2).trans hg2)
 simp only [GH.next_push] at hn3
 have he3:=(hf3 H.next (by simp; omega) (fun hc=>by have:=hOl _ ((hO _).2 (.inr (.inr (.inr (.inl hc))))); omega)).trans ((GH.get_push_lt _ _ (by omega)).trans he2)
 obtain ⟨ao,fo,rfl⟩:=ho3.slice
 have hne:¬H.next=sg:=by have:=hOl _ ((hO sg).2 (.inl rfl)); omega
 have hlen1:IntKind.i64.wrap (IntKind.i64.wrap ((s.owners.length:Int)+1) - 1)=s.owners.length:=by simp (disch:=omega) [wrap64]
 have hlen3:IntKind.i64.wrap (s.owners.length:Int)=s.owners.length:=by simp (disch:=omega) [wrap64]
 have hlen2:IntKind.i64.wrap ((s.owners.length:Int)+1 - 1)=s.owners.length:=by simp (disch:=omega) [wrap64]
 simp (disch:=omega) [hH1]
 simp (disch:=omega) [hg,hge,hw2,hg2,he2,hrg,hrg2,hlow,d8,d9,happ,hg3,he3,hlen3]
 have hS3:=hS2.upd_owners (by omega) ho3 (fun k hk hne=>by rw [hf3 k (by simp; omega) hne,GH.get_push_lt _ _ hk]) (fun k hk=>(hb3 k hk).imp id fun h=>by simp at h; omega)
 simp only [bookC,List.cons_append,List.nil_append,List.length_append,List.length_cons,List.length_nil,Nat.zero_add] at hS3 hb3
 obtain ⟨O3,f3,h3⟩:=StandIn.of hS2 hO hS3 (by simp; omega) (fun k hk ho=>by
  rw [hO] at ho
  rw [GH.get_put_ne _ _ (fun hc=>ho (.inl hc)),hf3 k (by simp; omega) (fun hc=>ho (.inr (.inr (.inr (.inl hc))))),GH.get_push_lt _ _ (by omega)])
  (fun k hk=>.inl hk) (fun k hk=>(hb3 k hk).imp id fun h=>by simp at h; omega) (fun k hk=>.inl hk) (fun k hk=>.inl hk) (fun k hk=>.inl hk) (fun k hk=>.inl hk)
 refine (add_con h3 (by simp; omega) (by simp; omega) _ _ _ _).mono ?_
 rintro x H5 ⟨rfl,O5,f5,h5⟩
 simp
 refine ⟨O5,f1.trans (f2.trans (f3.trans f5)),?_⟩
 unfold divideS
 rw [e2]
 exact h5
end
end Go.Gm.Tryz
end
section
namespace Go.Gm.Tryz
open Go.Proofs
theorem ownI_con {H:GH} {N:Nat} {l:BLoc} {b:Book} {sg kn:Nat} {s:Stand} {vl vo vg va vw vf:Value} {O:Nat→Prop} (h:StIn H N l b sg kn s vl vo vg va vw vf) (hO:∀g,O g↔g=sg∨g=kn∨blkOf vl=some g∨blkOf vo=some g∨blkOf vg=some g∨blkOf va=some g∨blkOf vw=some g∨blkOf vf=some g) (hlen:s.grants.length≤1000) (n:Nat) (hn:n<s.owners.length) (p:Int):
  GCall Tryz.prog 304 [.pointer (some (ga sg 0 0)),vi n,vi p] H fun x H'=>x=.ret (.tuple #[])∧Frm O O H H'∧StIn H' N l b sg kn (ownS s n p) vl vo vg va vw vf:=by
 rcases l with ⟨⟨⟨ra,rf⟩⟩,⟨oa,of'⟩,⟨va',vf'⟩⟩
 refine gcall_wp tok mix fok304 (F:=g304) (c:=_) rfl (n:=38) rfl (rs:= []) rfl ?_
 have hg:=h.g
 have hsl:=h.sgl.2
 obtain ⟨ao,fo,rfl,hE⟩:=h.owners.elems (fun _=>rfl)
 obtain ⟨ao,rfl,hob,_⟩:=hE.at n hn
 obtain ⟨ag,fg,rfl,hEg⟩:=h.grants.elems (fun _=>rfl)
 have hbk:=h.owners.blk_some
 obtain ⟨H1,hw1,ho1,hn1,hs1⟩:=h.owners.wr (fun _=>rfl) (i:=n) (k:=0) hn (c:=vi p) (new:= []) (by simp) (y:=p) (by simp [splice])
 have hbgs:ao.block≠sg:=fun hc=>h.sg_ne h.owners (by decide) (by rw [hbk,hc])
 have hg1:=(hs1 sg (Ne.symm hbgs)).trans hg
 have hlt:(n:Int)<s.owners.length:=by omega
 simp (disch:=omega) [hg,hw1,hg1]
 have hS1:=h.wr_owners (H1:=H1) (by omega) ho1 (fun k hk hne=>hs1 k fun hc=>hne (by rw [hbk,hc]))
 refine wp_up tok mix (by kernel_rfl) s.grants.length (fun i ρ m H2=>ρ 0=.pointer (some (ga sg 0 0))∧ρ 1=vi n∧ρ 2=vi p∧ρ 18=.slice ag s.grants.length fg∧ρ 19=vi s.grants.length∧ρ 20=vi i∧m= []∧H.next≤H2.next∧(∀g,g<H.next→¬O g→H2.get g=H.get g)∧
  StIn H2 N ⟨⟨⟨ra,rf⟩⟩,⟨oa,of'⟩,⟨va',vf'⟩⟩ b sg kn { s with owners:=s.owners.set n p,grants:=upto (fun x=>if x.estate=(n:Int) then { x with person:=p } else x) s.grants i } vl (.slice (some ao) s.owners.length fo) (.slice ag s.grants.length fg) va vw vf) (i0:=0) (by omega)
  ⟨by simp,by simp,by simp,by simp,by simp,by simp,rfl,by omega,fun g hg ho=>hs1 g fun hc=>ho ((hO g).2 (.inr (.inr (.inr (.inl (by rw [hbk,hc])))))),by simpa [upto_zero] using hS1⟩ ?_
 rintro i ρ m H2 hi ⟨e0,e1,e2,e18,e19,e20,rfl,hn2,hs2,h2⟩
 have hg2:=h2.g
 simp [e19,e20]
 refine wpB_dec (fun hlt2=>?_) (fun hge=>?_)
 ·obtain ⟨a2,rfl,hab,hrd⟩:=(h2.grants.elems' (fun _=>rfl)).at i (by rw [upto_len]; exact hlt2)
  rw [upto_at _ hlt2] at hrd
  have hltI:(i:Int)<s.grants.length:=by omega
  have hbk2:=h2.grants.blk_some
  simp (disch:=omega) [e1,e18,e20,hrd]
  have hsu:=upto_succ (fun x:GSt=>if x.estate=(n:Int) then { x with person:=p } else x) hlt2
  generalize hH3:GH.put _ _ _=H3
  have hs3:Sub H2 H3:=by subst hH3; exact (Sub.push (.refl H2) _).put (Nat.le_refl _) _
  have hb3:H3.get H2.next=some (.arr { cells:=encSt s.grants[i],ty:=218 }):=by subst hH3; simp
  have hl3:H2.next<H3.next:=by subst hH3; simp
  clear hH3
  have h3:=h2.sub hs3
  have hg3:=h3.g
  have hsl3:=h3.sgl.2
  have hs23:∀g,g<H.next→¬O g→H3.get g=H.get g:=fun g hg ho=>by rw [hs3.2 g (by omega),hs2 g hg ho]
  try simp (disch:=omega) [hb3,e1]
  refine wpB_bool (fun h5=>?_) (fun h5=>?_)<;>(try simp only [decide_eq_true_eq,decide_eq_false_iff_not] at h5)
  ·obtain ⟨H4,hw4,ho4,hn4,hs4⟩:=h3.grants.wr (fun _=>rfl) (i:=i) (k:=1) (by rw [upto_len]; exact hlt2) (c:=vi p) (new:= []) (by simp) (y:= { s.grants[i] with person:=p }) (by rw [upto_at _ hlt2]; simp [splice])
   simp (disch:=omega) [e0,e2,hg3,hw4]
   have h4:=h3.wr_grants (H1:=H4) (by omega) ho4 (fun k hk hne=>hs4 k fun hc=>hne (by rw [hbk2,hc]))
   simp (disch:=omega) [e0,e1,e2,e18,e19,e20,hlt2,wrap64]
   refine ⟨by omega,fun g hg ho=>?_,?_⟩
   ·rw [hs4 g fun hc=>ho ((hO g).2 (.inr (.inr (.inr (.inr (.inl (by rw [hbk2,hc])))))))]
    exact hs23 g hg ho
   ·rw [hsu,if_pos h5]; exact h4
  ·simp (disch:=omega) [e0,e1,e2,e18,e19,e20,hlt2,wrap64]
   refine ⟨by omega,hs23,?_⟩
   rw [hsu,if_neg h5]
   have:(upto (fun x:GSt=>if x.estate=(n:Int) then { x with person:=p } else x) s.grants i).set i s.grants[i]=upto (fun x:GSt=>if x.estate=(n:Int) then { x with person:=p } else x) s.grants i:=by
    conv=>lhs; rw [←upto_at (fun x:GSt=>if x.estate=(n:Int) then { x with person:=p } else x) hlt2]
    exact List.set_getElem_self _
   rw [this]; exact h3
 ·have:i=s.grants.length:=by omega
  subst this
  rw [upto_all] at h2
  simp
  exact ⟨⟨hn2,hs2,fun g hg=>.inl hg,fun g hg=>Nat.lt_of_lt_of_le (h.own_lt ((hO g).1 hg)).2 hn2⟩,h2⟩
end Go.Gm.Tryz
end
section
namespace Go.Gm.Tryz
open Go.Proofs
def dieA (s:Stand) (e:Ev):Stand:= { s with lives:=s.lives.set e.person.toNat false }
def oAt (s:Stand) (i:Nat):Int:=s.owners.getD i 0
def gAt (s:Stand) (i:Nat):GSt:=s.grants.getD i default
def ownStep (e:Ev) (s:Stand) (i:Nat):Stand:=if oAt s i=e.person then ownS s i e.other else s
def dieB (s:Stand) (e:Ev):Stand:=(List.range s.owners.length).foldl (ownStep e) s
def notOf (b:Book) (e:Ev) (w:Int):Bool:=decide ((evAt b w).person≠e.person)
def dieC (b:Book) (s:Stand) (e:Ev):Stand:= { s with waits:=s.waits.filter (notOf b e) }
def endStep (b:Book) (e:Ev) (s:Stand) (i:Nat):Stand:=if (gAt s i).is=2∧(gAt s i).person=e.person then endS b s i e.day else s
def dieD (b:Book) (s:Stand) (e:Ev):Stand:=(List.range s.grants.length).foldl (endStep b e) s
def heirStep (b:Book) (e:Ev) (s:Stand) (i:Nat):Stand:=
 if (gAt s i).is=1∧(gAt s i).estate<0∧(gAt s i).person=e.person then { s with grants:=s.grants.set i { gAt s i with is:=2,person:=e.other },last:=s.last.set i (IntKind.i64.wrap (e.day+b.term)) } else s
def dieE (b:Book) (s:Stand) (e:Ev):Stand:=(List.range s.grants.length).foldl (heirStep b e) s
def dieS (b:Book) (s:Stand) (e:Ev):Stand:=dieE b (dieD b (dieC b (dieB (dieA s e) e) e) e) e
theorem range_fold {α:Type} (f:α→Nat→α) (s:α) (i:Nat):(List.range (i+1)).foldl f s=f ((List.range i).foldl f s) i:=by rw [List.range_succ,List.foldl_append]; rfl
theorem ownS_wf {b:Book} {s:Stand} (h:Wf b s) (n:Nat) (p:Int):Wf b (ownS s n p):=by
 refine ⟨h.w,by simpa [ownS] using h.len,by simpa [ownS] using h.last,by simpa [ownS] using h.own,h.ev,?_⟩
 have h1:=h.fe
 simp only [ownS]
 rw [List.countP_map]
 refine Nat.le_trans h1 (Nat.le_of_eq ?_)
 congr 1
 funext x
 simp only [Function.comp]
 split<;>rfl
theorem ownStep_ok {b:Book} {e:Ev} {s:Stand} (h:Wf b s) (i:Nat):Wf b (ownStep e s i)∧(ownStep e s i).owners.length=s.owners.length∧(ownStep e s i).grants.length=s.grants.length∧(ownStep e s i).waits=s.waits:=by
 unfold ownStep
 split
 ·exact ⟨ownS_wf h _ _,by simp [ownS],by simp [ownS],rfl⟩
 ·exact ⟨h,rfl,rfl,rfl⟩
theorem ownFold_ok {b:Book} {e:Ev} {s:Stand} (h:Wf b s) (i:Nat):Wf b ((List.range i).foldl (ownStep e) s)∧((List.range i).foldl (ownStep e) s).owners.length=s.owners.length∧((List.range i).foldl (ownStep e) s).grants.length=s.grants.length∧((List.range i).foldl (ownStep e) s).waits=s.waits:=by
 induction i with
 |zero=>exact ⟨h,rfl,rfl,rfl⟩
 |succ i ih=>
  rw [range_fold]
  obtain ⟨a,b',c,d⟩:=ownStep_ok ih.1 (e:=e) i
  exact ⟨a,b'.trans ih.2.1,c.trans ih.2.2.1,d.trans ih.2.2.2⟩
theorem dieA_wf {b:Book} {s:Stand} (h:Wf b s) (e:Ev):Wf b (dieA s e):=⟨h.w,h.len,h.last,h.own,h.ev,h.fe⟩
theorem dieC_wf {b:Book} {s:Stand} (h:Wf b s) (e:Ev):Wf b (dieC b s e):=by
 refine ⟨fun n hn=>h.w n (List.mem_filter.1 hn).1,?_,h.last,h.own,h.ev,h.fe⟩
 have h1:=h.len
 have:=List.length_filter_le (notOf b e) s.waits
 simp only [dieC]; omega
theorem serveS_len {b:Book}:∀ {n:Nat} {s:Stand},s.grants.length≤(serveS b n s).grants.length:=by
 intro n
 induction n with
 |zero=>intro s; exact Nat.le_refl _
 |succ n ih=>
  intro s
  simp only [serveS]
  cases hws:s.waits with
  |nil=>exact Nat.le_refl _
  |cons w ws=>
   simp only
   split
   ·exact Nat.le_refl _
   ·refine Nat.le_trans ?_ ih
    simp [addG]
theorem endS_len (b:Book) (s:Stand) (g:Nat) (d:Int):s.grants.length≤(endS b s g d).grants.length:=by
 refine Nat.le_trans ?_ (serveS_len (b:=b))
 simp [endG]
theorem endStep_ok {b:Book} {e:Ev} {s:Stand} (h:Wf b s) {i:Nat} (hi:i<s.grants.length):Wf b (endStep b e s i)∧s.grants.length≤(endStep b e s i).grants.length:=by
 unfold endStep
 split
 ·rename_i h2
  have:gAt s i=s.grants[i]:=getD_at hi
  rw [this] at h2
  exact ⟨endS_wf h hi (by rw [h2.1]; decide) _,endS_len ..⟩
 ·exact ⟨h,Nat.le_refl _⟩
section
variable {H:GH} {N:Nat} {l:BLoc} {b:Book} {sg kn:Nat} {s:Stand} {O:Nat→Prop}
theorem die_do (h:StandIn H N l b sg kn s O) (hw:Wf b s) (e:Ev) (n:Nat) (he:0≤e.person∧e.person<s.lives.length):Does 302 H N l b sg kn O e n (dieS b s e):=by
 rcases l with ⟨⟨⟨ra,rf⟩⟩,⟨oa,of'⟩,⟨va',vf'⟩⟩
 refine gcall_wp tok mix fok302 (F:=g302) (c:=_) rfl (n:=168) rfl (rs:= []) rfl ?_
 obtain ⟨h1,f1⟩:=h.sub (Sub.push (.refl H) (.arr { cells:= [vi e.kind,vi e.day,vi e.person,vi e.other,vi e.estate,vi e.grant,vi e.system,vi e.units],ty:=235 }))
 have hle:=hw.len
 have hlo:=hw.own
 have hl1:=fun g ho=>(h1.lt g ho).2
 have hge:(H.push (.arr { cells:= [vi e.kind,vi e.day,vi e.person,vi e.other,vi e.estate,vi e.grant,vi e.system,vi e.units],ty:=235 })).get H.next=some (.arr { cells:= [vi e.kind,vi e.day,vi e.person,vi e.other,vi e.estate,vi e.grant,vi e.system,vi e.units],ty:=235 }):=by simp
 have hOl:∀g,O g→g<H.next:=fun g hg=>(h.lt g hg).2
 have hnx:(H.push (.arr { cells:= [vi e.kind,vi e.day,vi e.person,vi e.other,vi e.estate,vi e.grant,vi e.system,vi e.units],ty:=235 })).next=H.next+1:=by simp
 generalize hH1:H.push _=H1 at*
 obtain ⟨vl,vo,vg,va,vw,vf,h1,hO⟩:=h1
 have hg:=h1.g
 have hsl:=h1.sgl.2
 obtain ⟨al,fl,rfl,hEl⟩:=h1.lives.elems (fun _=>rfl)
 obtain ⟨al,rfl,hal,hrl⟩:=hEl.at e.person.toNat (by omega)
 obtain ⟨ao,fo,rfl,hEo⟩:=h1.owners.elems (fun _=>rfl)
 have hbk:=h1.lives.blk_some
 have hbgs:al.block≠sg:=fun hc=>h1.sg_ne h1.lives (by decide) (by rw [hbk,hc])
 have hOo:O al.block:=(hO _).2 (.inr (.inr (.inl hbk)))
 obtain ⟨H2,hw2,ho2,hn2,hs2⟩:=h1.lives.wr (fun _=>rfl) (i:=e.person.toNat) (k:=0) (by omega) (c:=.bool false) (new:= []) (by simp) (y:=false) (by simp [splice])
 have hg2:=(hs2 sg (Ne.symm hbgs)).trans hg
 have he2:=(hs2 H.next (fun hc=>by have:=hOl _ hOo; omega)).trans hge
 have hS2:=h1.wr_lives (H1:=H2) (by omega) ho2 (fun k hk hne=>hs2 k fun hc=>hne (by rw [hbk,hc]))
 have f2:Frm O O H1 H2:=Frm.wr hl1 hOo hn2 hs2
 have hwA:=dieA_wf hw e
 have hA:({ s with lives:=s.lives.set e.person.toNat false }:Stand)=dieA s e:=rfl
 rw [hA] at hS2
 simp (disch:=omega) [hH1]
 simp (disch:=omega) [hg,hge,hw2,hg2]
 refine wp_up tok mix (by kernel_rfl) s.owners.length (fun i ρ m H3=>ρ 1=.pointer (some (ga sg 0 0))∧ρ 3=.pointer (some (ga H.next 0 0))∧ρ 26=.slice ao s.owners.length fo∧ρ 27=vi s.owners.length∧ρ 28=vi i∧m= []∧Frm O O H1 H3∧
  StIn H3 N ⟨⟨⟨ra,rf⟩⟩,⟨oa,of'⟩,⟨va',vf'⟩⟩ b sg kn ((List.range i).foldl (ownStep e) (dieA s e)) (.slice (some al) s.lives.length fl) (.slice ao s.owners.length fo) vg va vw vf) (i0:=0) (by omega)
  ⟨by simp,by simp,by simp,by simp,by simp,by simp,f2,hS2⟩ ?_
 rintro i ρ m H3 hi ⟨e1,e3,e26,e27,e28,rfl,f3,h3⟩
 have hg3:=h3.g
 have he3:=(f3.keep H.next (by omega) (fun hc=>by have:=hOl _ hc; omega)).trans hge
 have hn3:=f3.next
 obtain ⟨hw3,ho3,hgl3,hww3⟩:=ownFold_ok (e:=e) hwA i
 simp [e27,e28]
 refine wpB_dec (fun hlt2=>?_) (fun hge1=>?_)
 ·have hrf:=range_fold (ownStep e) (dieA s e) i
  generalize hcur:(List.range i).foldl (ownStep e) (dieA s e)=c at*
  have hol:c.owners.length=s.owners.length:=ho3
  have hltI:(i:Int)<s.owners.length:=by omega
  obtain ⟨a2,rfl,hab,hrd⟩:=(h3.owners.elems' (fun _=>rfl)).at i (by omega)
  have hoa:oAt c i=c.owners[i]'(by omega):=getD_at (by omega)
  simp (disch:=omega) [e3,e26,e28,hrd,he3]
  refine wpB_dec (fun h5=>?_) (fun h5=>?_)
  ·simp (disch:=omega) [e1,e3,he3]
   refine (ownI_con h3 hO (by have:=hw3.len; omega) i (by omega) e.other).mono ?_
   rintro x H4 ⟨rfl,f4,h4⟩
   simp (disch:=omega) [e1,e3,e26,e27,e28,hlt2,wrap64]
   refine ⟨f3.trans f4,?_⟩
   rw [hrf]; unfold ownStep; rw [if_pos (by rw [hoa]; exact h5)]; exact h4
  ·simp (disch:=omega) [e1,e3,e26,e27,e28,hlt2,wrap64]
   refine ⟨f3,?_⟩
   rw [hrf]; unfold ownStep; rw [if_neg (by rw [hoa]; exact h5)]; exact h3
 ·have:i=s.owners.length:=by omega
  subst this
  change StIn H3 N _ b sg kn (dieB (dieA s e) e) _ _ _ _ _ _ at h3
  change Wf b (dieB (dieA s e) e) at hw3
  change (dieB (dieA s e) e).waits=s.waits at hww3
  obtain ⟨aw,fw,rfl,hEw⟩:=h3.waits.elems (fun _=>rfl)
  rw [hww3] at h3 hEw hO
  have hgw:=h3.g
  have hsl3:=h3.sgl.2
  simp (disch:=omega) [e1,hgw]
  have hlw:s.waits.length≤100:=by omega
  generalize hB:dieB (dieA s e) e=sB at*
  refine wp_up tok mix (by kernel_rfl) s.waits.length (fun i ρ m H4=>ρ 1=.pointer (some (ga sg 0 0))∧ρ 3=.pointer (some (ga H.next 0 0))∧ρ 48=.slice aw s.waits.length fw∧ρ 49=vi s.waits.length∧ρ 50=vi i∧m= []∧Sub H3 H4∧
   OwnL H4 H3.next (ρ 8) 3 1 encI ((s.waits.take i).filter (notOf b e))) (i0:=0) (by omega)
   ⟨by simp [e1],by simp [e3],by simp,by simp,by simp,by simp,.refl _,by simpa using OwnL.nil⟩ ?_
  rintro i ρ m H4 hi ⟨d1,d3,d48,d49,d50,rfl,hs4,hv4⟩
  have h4:=h3.sub hs4
  have hg4:=h4.g
  have he4:=(hs4.2 H.next (by omega)).trans he3
  have hn4:=hs4.1
  generalize hv8:ρ 8=v8 at hv4
  have hl8:=hv4.len
  have htl:((s.waits.take i).filter (notOf b e)).length≤100:=by
   have:=List.length_filter_le (notOf b e) (s.waits.take i)
   simp at this ⊢; omega
  simp [d49,d50]
  refine wpB_dec (fun hlt2=>?_) (fun hge2=>?_)
  ·have hltI:(i:Int)<s.waits.length:=by omega
   obtain ⟨a2,rfl,hab,hrd⟩:=(h4.waits.elems' (fun _=>rfl)).at i (by rw [hww3]; omega)
   obtain ⟨w,hW⟩:∃w,s.waits[i]=w:=⟨_,rfl⟩
   have hwi:sB.waits[i]'(by rw [hww3]; exact hlt2)=w:=by rw [←hW]; congr 1
   rw [hwi] at hrd
   have hwr:=hw.w w (hW▸List.getElem_mem hlt2)
   obtain ⟨a3,rfl,hbb,hrb⟩:=h4.book.events.at w.toNat (by omega)
   have hev:evAt b w=b.events[w.toNat]'(by omega):=getD_at (by omega)
   have htk:s.waits.take (i+1)=s.waits.take i++ [w]:=by rw [←hW]; exact List.take_succ_eq_append_getElem hlt2
   simp (disch:=omega) [d1,d3,d48,d50,hrd,he4,hg4,hrb]
   refine wpB_bool (fun h5=>?_) (fun h5=>?_)<;>(try simp only [Bool.not_eq_true',Bool.not_eq_false',decide_eq_true_eq,decide_eq_false_iff_not] at h5)
   ·obtain ⟨v8',H5,happ,ho5,hn5,hf5,hb5⟩:=(hv4.push (.arr { cells:= [vi w],ty:=3 })).app (by simp) (by simp) (by decide) w (by simp; omega)
    simp only [encI] at happ
    generalize hF:((s.waits.take i).filter (notOf b e))=F at*
    have d8:8*(1+F.length)≤1000000:=by omega
    have d9:1+F.length≤1000000:=by omega
    obtain ⟨a8,f8,rfl⟩:=ho5.slice
    simp (disch:=omega) [d1,d3,d48,d49,d50,hv8,hl8,d8,d9,happ,hlt2,wrap64]
    simp only [GH.next_push] at hn5
    refine ⟨⟨by omega,fun g hg=>?_⟩,?_⟩
    ·rw [hf5 g (by simp; omega) (fun hc=>by have:=(hv4.blk_lt hc).1; omega),GH.get_push_lt _ _ (by omega),hs4.2 g hg]
    ·rw [htk,List.filter_append,hF]
     have: [w].filter (notOf b e)= [w]:=by simp [notOf,hev,h5]
     rw [this]
     simpa using ho5
   ·simp (disch:=omega) [d1,d3,d48,d49,d50,hlt2,wrap64]
    refine ⟨hs4,?_⟩
    rw [htk,List.filter_append]
    have: [w].filter (notOf b e)= []:=by simp [notOf,hev,h5]
    rw [this,List.append_nil,hv8]; exact hv4
  ·have:i=s.waits.length:=by omega
   subst this
   rw [List.take_length] at hv4
   have hS5:=h3.upd_waits hs4.1 (hv4.weaken (by have:=h3.sgl; omega)) (fun k hk _=>hs4.2 k hk) (fun k hk=>.inr (hv4.blk_lt hk).1)
   have hC:({ sB with waits:=s.waits.filter (notOf b e) }:Stand)=dieC b sB e:=by simp only [dieC,hww3]
   rw [hC] at hS5
   obtain ⟨O5,f5,h5⟩:=StandIn.of h3 hO hS5 (by simp; omega) (fun k hk ho=>by
    rw [hO] at ho
    rw [GH.get_put_ne _ _ (fun hc=>ho (.inl hc)),hs4.2 k hk])
    (fun k hk=>.inl hk) (fun k hk=>.inl hk) (fun k hk=>.inl hk) (fun k hk=>.inl hk) (fun k hk=>.inr (hv4.blk_lt hk).1) (fun k hk=>.inl hk)
   have hwC:=dieC_wf hw3 e
   obtain ⟨a8,f8,rfl⟩:=hv4.slice
   obtain ⟨ag,fg,rfl,hEg⟩:=hS5.grants.elems (fun _=>rfl)
   have hgC:=hS5.g
   have hslC:=hS5.sgl.2
   have hglC:(dieC b sB e).grants.length=sB.grants.length:=rfl
   simp only [bookC,List.cons_append,List.nil_append] at hgC hslC hS5 f5 h5
   simp (disch:=omega) [d1,hg4,hv8]
   generalize hHC:H4.put sg _=HC at f5 h5 ⊢
   generalize hsC:dieC b sB e=sC at*
   have hC100:sC.grants.length≤100:=by have:=hwC.len; omega
   refine wp_up tok mix (by kernel_rfl) sC.grants.length (fun i ρ m H6=>ρ 1=.pointer (some (ga sg 0 0))∧ρ 3=.pointer (some (ga H.next 0 0))∧ρ 80=vi sC.grants.length∧ρ 81=vi i∧m= []∧
    ∃O6,Frm O O6 H1 H6∧StandIn H6 N ⟨⟨⟨ra,rf⟩⟩,⟨oa,of'⟩,⟨va',vf'⟩⟩ b sg kn ((List.range i).foldl (endStep b e) sC) O6∧Wf b ((List.range i).foldl (endStep b e) sC)∧sC.grants.length≤((List.range i).foldl (endStep b e) sC).grants.length) (i0:=0) (by omega)
    ⟨by simp [d1],by simp [d3],by simp,by simp,by simp,O5,f3.trans f5,h5,hwC,Nat.le_refl _⟩ ?_
   rintro i ρ m H6 hi ⟨c1,c3,c80,c81,rfl,O6,f6,h6,hw6,hl6⟩
   have he6:=(f6.keep H.next (by omega) (fun hc=>by have:=hOl _ hc; omega)).trans hge
   simp [c80,c81]
   refine wpB_dec (fun hlt3=>?_) (fun hge3=>?_)
   ·have hrf:=range_fold (endStep b e) sC i
    generalize hcur:(List.range i).foldl (endStep b e) sC=c at*
    have hil:i<c.grants.length:=by omega
    obtain ⟨hwn,hln⟩:=endStep_ok (e:=e) hw6 hil
    rw [←hrf] at hwn hln
    have hga:gAt c i=c.grants[i]:=getD_at hil
    obtain ⟨_,_,vg6,_,_,_,h6',hO6⟩:=h6
    have hg6:=h6'.g
    have hsl6:=h6'.sgl.2
    obtain ⟨a6,q6,rfl,hE6⟩:=h6'.grants.elems (fun _=>rfl)
    obtain ⟨a6,rfl,hab6,hrd6⟩:=hE6.at i hil
    have hilI:(i:Int)<c.grants.length:=by omega
    simp (disch:=omega) [c1,c81,hg6,hrd6]
    generalize hH7:GH.put _ _ _=H7
    have hs7:Sub H6 H7:=by subst hH7; exact (Sub.push (.refl H6) _).put (Nat.le_refl _) _
    have hb7:H7.get H6.next=some (.arr { cells:=encSt c.grants[i],ty:=218 }):=by subst hH7; simp
    have hn6:=f6.next
    have he7:=(hs7.2 H.next (by omega)).trans he6
    have hl7:H6.next<H7.next:=by subst hH7; simp
    clear hH7
    have h6s:StandIn H6 N ⟨⟨⟨ra,rf⟩⟩,⟨oa,of'⟩,⟨va',vf'⟩⟩ b sg kn c O6:=⟨_,_,_,_,_,_,h6',hO6⟩
    obtain ⟨h7,f7⟩:=h6s.sub hs7
    have f7:Frm O O6 H1 H7:=f6.trans f7
    refine contG_bool (fun h8=>?_) (fun h8=>?_)<;>(try simp only [decide_eq_true_eq,decide_eq_false_iff_not] at h8)
    ·simp (disch:=omega) [c3,hb7,he7,h8]
     refine wpB_dec (fun h9=>?_) (fun h9=>?_)
     ·simp (disch:=omega) [c1,c3,he7]
      refine (ends_con h7 hw6 i hil (by rw [h8]; decide) e.day).mono ?_
      rintro x H8 ⟨rfl,O8,f8',h8'⟩
      have hcs:endStep b e c i=endS b c i e.day:=by unfold endStep; rw [if_pos ⟨by rw [hga]; exact h8,by rw [hga]; exact h9⟩]
      rw [hcs] at hrf
      rw [←hrf] at h8'
      simp (disch:=omega) [c1,c3,c80,c81,wrap64]
      exact ⟨hlt3,O8,f7.trans f8',h8',hwn,by omega⟩
     ·have hcs:endStep b e c i=c:=by unfold endStep; rw [if_neg (fun hc=>h9 (by rw [←hga]; exact hc.2))]
      rw [hcs] at hrf
      rw [←hrf] at h7
      simp (disch:=omega) [c1,c3,c80,c81,wrap64]
      exact ⟨hlt3,O6,f7,h7,hwn,by omega⟩
    ·have hcs:endStep b e c i=c:=by unfold endStep; rw [if_neg (fun hc=>h8 (by rw [←hga]; exact hc.1))]
     rw [hcs] at hrf
     rw [←hrf] at h7
     simp (disch:=omega) [c1,c3,c80,c81,wrap64,h8]
     exact ⟨hlt3,O6,f7,h7,hwn,by omega⟩
   ·have:i=sC.grants.length:=by omega
    subst this
    change StandIn H6 N _ b sg kn (dieD b sC e) O6 at h6
    change Wf b (dieD b sC e) at hw6
    generalize hsD:dieD b sC e=sD at*
    have hD100:sD.grants.length≤100:=by have:=hw6.len; omega
    have hO6l:=fun g ho=>(h6.lt g ho).2
    obtain ⟨vl6,vo6,vg6,va6,vw6,vf6,h6',hO6⟩:=h6
    have hg6:=h6'.g
    have hsl6:=h6'.sgl.2
    have hlD:=hw6.last
    obtain ⟨a6,q6,rfl,hE6⟩:=h6'.grants.elems (fun _=>rfl)
    obtain ⟨aa6,qa6,rfl,hEa6⟩:=h6'.last.elems (fun _=>rfl)
    simp [c1,hg6]
    refine wp_up tok mix (by kernel_rfl) sD.grants.length (fun i ρ m H7=>ρ 1=.pointer (some (ga sg 0 0))∧ρ 3=.pointer (some (ga H.next 0 0))∧ρ 112=.slice a6 sD.grants.length q6∧ρ 113=vi sD.grants.length∧ρ 114=vi i∧m= []∧
     Frm O6 O6 H6 H7∧StIn H7 N ⟨⟨⟨ra,rf⟩⟩,⟨oa,of'⟩,⟨va',vf'⟩⟩ b sg kn ((List.range i).foldl (heirStep b e) sD) vl6 vo6 (.slice a6 sD.grants.length q6) (.slice aa6 sD.last.length qa6) vw6 vf6∧((List.range i).foldl (heirStep b e) sD).grants.length=sD.grants.length∧((List.range i).foldl (heirStep b e) sD).last.length=sD.last.length) (i0:=0) (by omega)
     ⟨by simp [c1],by simp [c3],by simp,by simp,by simp,by simp,Frm.refl hO6l,h6',rfl,rfl⟩ ?_
    rintro i ρ m H7 hi ⟨b1,b3,b112,b113,b114,rfl,f7,h7,hgl7,hll7⟩
    have f17:=f6.trans f7
    have he7:=(f17.keep H.next (by omega) (fun hc=>by have:=hOl _ hc; omega)).trans hge
    simp [b113,b114]
    refine wpB_dec (fun hlt3=>?_) (fun hge3=>?_)
    ·have hrf:=range_fold (heirStep b e) sD i
     generalize hcur:(List.range i).foldl (heirStep b e) sD=c at*
     have hil:i<c.grants.length:=by omega
     have hga:gAt c i=c.grants[i]:=getD_at hil
     have hg7:=h7.g
     have hsl7:=h7.sgl.2
     obtain ⟨a7,ha7,hab7,hrd7⟩:=(h7.grants.elems' (fun _=>rfl)).at i hil
     subst ha7
     have hilI:(i:Int)<sD.grants.length:=by omega
     simp (disch:=omega) [b112,b114,hrd7]
     have hO7l:=f7.lt
     have f1h:=f1
     generalize hH8:GH.put _ _ _=H8
     have hs8:Sub H7 H8:=by subst hH8; exact (Sub.push (.refl H7) _).put (Nat.le_refl _) _
     have hb8:H8.get H7.next=some (.arr { cells:=encSt c.grants[i],ty:=218 }):=by subst hH8; simp
     have hn7:=f17.next
     have he8:=(hs8.2 H.next (by omega)).trans he7
     have hl8':H7.next<H8.next:=by subst hH8; simp
     clear hH8
     have h8:=h7.sub hs8
     have f8:Frm O6 O6 H6 H8:=f7.trans (Frm.of_sub hO7l hs8)
     have hskip:¬((gAt c i).is=1∧(gAt c i).estate<0∧(gAt c i).person=e.person)→heirStep b e c i=c:=fun hc=>by unfold heirStep; rw [if_neg hc]
     refine contG_bool (fun k1=>?_) (fun k1=>?_)<;>(try simp only [decide_eq_true_eq,decide_eq_false_iff_not] at k1)
     ·simp (disch:=omega) [hb8,k1]
      refine contG_bool (fun k2=>?_) (fun k2=>?_)<;>(try simp only [decide_eq_true_eq,decide_eq_false_iff_not] at k2)
      ·simp (disch:=omega) [b3,hb8,he8,k1,k2]
       refine wpB_dec (fun k3=>?_) (fun k3=>?_)
       ·have hst:heirStep b e c i= { c with grants:=c.grants.set i { c.grants[i] with is:=2,person:=e.other },last:=c.last.set i (IntKind.i64.wrap (e.day+b.term)) }:=by
         unfold heirStep; rw [if_pos (by rw [hga]; exact ⟨k1,k2,k3⟩),hga]
        have hbk8:=h8.grants.blk_some
        obtain ⟨aa7,haa,_,_⟩:=(h8.last.elems' (fun _=>rfl)).at i (by omega)
        subst haa
        have hbka:=h8.last.blk_some
        have hg8:=h8.g
        obtain ⟨Ha,hwa,hoa,hna,hsa⟩:=h8.grants.wr (fun _=>rfl) (i:=i) (k:=0) hil (c:=vi 2) (new:= []) (by simp) (y:= { c.grants[i] with is:=2 }) (by simp [splice])
        obtain ⟨Hb,hwb,hob,hnb,hsb⟩:=hoa.wr (fun _=>rfl) (i:=i) (k:=1) (by simpa using hil) (c:=vi e.other) (new:= []) (by simp) (y:= { c.grants[i] with is:=2,person:=e.other }) (by simp [splice])
        simp only [List.set_set] at hob
        have hne1:a7.block≠sg:=fun hc=>h8.sg_ne h8.grants (by decide) (by rw [hbk8,hc])
        have hOg:O6 a7.block:=(hO6 _).2 (.inr (.inr (.inr (.inr (.inl hbk8)))))
        have hOa:O6 aa7.block:=(hO6 _).2 (.inr (.inr (.inr (.inr (.inr (.inl hbka))))))
        have hSb:=h8.wr_grants (H1:=Hb) (by omega) hob (fun k hk hne=>by
         have hka:k≠a7.block:=fun hc=>hne (by rw [hbk8,hc])
         rw [hsb k hka,hsa k hka])
        obtain ⟨Hc,hwc,hoc,hnc,hsc⟩:=hSb.last.wr (fun _=>rfl) (i:=i) (k:=0) (by simp; omega) (c:=vi (IntKind.i64.wrap (e.day+b.term))) (new:= []) (by simp) (y:=IntKind.i64.wrap (e.day+b.term)) (by simp [splice])
        have hSc:=hSb.wr_last (H1:=Hc) (by omega) hoc (fun k hk hne=>hsc k fun hc=>hne (by rw [hbka,hc]))
        have f9:Frm O6 O6 H8 Ha:=Frm.wr f8.lt hOg hna hsa
        have f10:Frm O6 O6 Ha Hb:=Frm.wr f9.lt hOg hnb hsb
        have f11:Frm O6 O6 Hb Hc:=Frm.wr f10.lt hOa hnc hsc
        have hnO:¬O6 H.next:=fun hc=>by
         rcases f6.own _ hc with h|h
         ·have:=hOl _ h; omega
         ·omega
        have hea:Ha.get H.next=_:=((Frm.wr f8.lt hOg hna hsa).keep H.next (by omega) hnO).trans he8
        have heb:Hb.get H.next=_:=(f10.keep H.next (by omega) hnO).trans hea
        have hga8:Ha.get sg=_:=(hsa sg (Ne.symm hne1)).trans hg8
        have hgb8:Hb.get sg=_:=(hsb sg (Ne.symm hne1)).trans hga8
        have hilL:(i:Int)<sD.last.length:=by omega
        simp (disch:=omega) [b1,b3,hg8,he8,hwa,hwb,hgb8,heb,hea,hwc,b112,b113,b114,wrap64]
        refine ⟨hlt3,f8.trans (f9.trans (f10.trans f11)),?_,?_,?_⟩
        ·rw [hrf,hst]; exact hSc
        ·rw [hrf,hst]; simpa using hgl7
        ·rw [hrf,hst]; simpa using hll7
       ·rw [hskip (fun hc=>k3 (by rw [←hga]; exact hc.2.2))] at hrf
        simp (disch:=omega) [b1,b3,b112,b113,b114,wrap64]
        exact ⟨hlt3,f8,by rw [hrf]; exact h8,by rw [hrf]; exact hgl7,by rw [hrf]; exact hll7⟩
      ·rw [hskip (fun hc=>k2 (by rw [←hga]; exact hc.2.1))] at hrf
       simp (disch:=omega) [b1,b3,b112,b113,b114,wrap64,k2]
       exact ⟨hlt3,f8,by rw [hrf]; exact h8,by rw [hrf]; exact hgl7,by rw [hrf]; exact hll7⟩
     ·rw [hskip (fun hc=>k1 (by rw [←hga]; exact hc.1))] at hrf
      simp (disch:=omega) [b1,b3,b112,b113,b114,wrap64,k1]
      exact ⟨hlt3,f8,by rw [hrf]; exact h8,by rw [hrf]; exact hgl7,by rw [hrf]; exact hll7⟩
    ·have:i=sD.grants.length:=by omega
     subst this
     simp
     exact ⟨O6,f1.trans (f6.trans f7),by
      have hS:dieS b s e=(List.range sD.grants.length).foldl (heirStep b e) sD:=by unfold dieS; rw [hB,hsC,hsD]; rfl
      rw [hS]; exact ⟨_,_,_,_,_,_,h7,hO6⟩⟩
end
end Go.Gm.Tryz
end
section
namespace Go.Gm.Tryz
open Go.Proofs
def start (b:Book):Stand:=⟨List.replicate b.persons.toNat true,b.owners,[],[],[],[]⟩
theorem begin_con {H:GH} {l:BLoc} {b:Book} (hb:BookIn H l b) (hp:0≤b.persons∧b.persons≤100) (ho:b.owners.length≤100):
  GCall Tryz.prog 71 [bookV l b] H fun x H'=>∃sg kn O,x=.ret (.pointer (some (ga sg 0 0)))∧H.next≤H'.next∧(∀g,g<H.next→H'.get g=H.get g)∧StandIn H' H.next l b sg kn (start b) O:=by
 rcases l with ⟨⟨⟨ra,rf⟩⟩,⟨oa,of'⟩,⟨va',vf'⟩⟩
 refine gcall_wp tok mix fok71 (F:=g71) (c:=_) rfl (n:=26) rfl (rs:= [.tmp 2]) rfl ?_
 simp
 generalize hH2:GH.push (GH.push _ _) _=H2
 have hs2:Sub H H2:=by subst hH2; exact (Sub.push (.refl H) _).push _
 have hb2:H2.get H.next=some (.arr { cells:= [.slice ra b.tbl.rows.length rf,vi b.tbl.draw,vi b.supply,vi b.term,vi b.persons,.slice oa b.owners.length of',.slice va' b.events.length vf'],ty:=28 }):=by
  subst hH2; rw [GH.get_push_lt _ _ (by simp)]; simp
 have hk2:H2.get (H.next+1)=some (.map [] 0):=by subst hH2; simp
 have hn2:H2.next=H.next+2:=by subst hH2; simp
 clear hH2
 refine (cloneI_con b.owners (by omega) oa of' H2 (hb.owners.mono hs2)).mono ?_
 rintro x H3 ⟨v,rfl,hs3,hv3⟩
 have hb3:=(hs3.2 H.next (by omega)).trans hb2
 have hk3:=(hs3.2 (H.next+1) (by omega)).trans hk2
 have hn3:=hs3.1
 obtain ⟨av,fv,rfl⟩:=hv3.slice
 obtain ⟨P,hP⟩:∃P:Nat,b.persons=P:=⟨b.persons.toNat,by omega⟩
 simp (disch:=omega) [hb3]
 generalize hH4:GH.push H3 _=H4
 have hs4:Sub H3 H4:=by subst hH4; exact Sub.push (.refl H3) _
 have hn4:H4.next=H3.next+1:=by subst hH4; simp
 have hS4:StandIn H4 H.next ⟨⟨⟨ra,rf⟩⟩,⟨oa,of'⟩,⟨va',vf'⟩⟩ b H3.next (H.next+1) ⟨[],b.owners,[],[],[],[]⟩ (fun g=>g=H3.next∨g=H.next+1∨blkOf (.slice none 0 0)=some g∨blkOf (.slice av b.owners.length fv)=some g∨blkOf (.slice none 0 0)=some g∨blkOf (.slice none 0 0)=some g∨blkOf (.slice none 0 0)=some g∨blkOf (.slice none 0 0)=some g):=by
  refine ⟨_,_,_,_,_,_,⟨?_,⟨by omega,by omega⟩,?_,?_,?_,?_,⟨[],0,(hs4.2 _ (by omega)).trans hk3,by intro e he; cases he⟩,⟨by omega,by omega⟩,.nil,(hv3.sub hs4).weaken (by omega),.nil,.nil,.nil,.nil,?_,?_,?_⟩,fun g=>Iff.rfl⟩
  ·subst hH4; simp
  ·have hsub:=hs2.trans (hs3.trans hs4)
   exact ⟨hb.t.mono hsub,hb.owners.mono hsub,hb.events.mono hsub⟩
  ·exact fun a ha=>(hb.t.ok a ha).1
  ·exact fun a ha=>(hb.owners.ok a ha).1
  ·exact fun a ha=>(hb.events.ok a ha).1
  ·intro k _ h; simp at h
  ·intro k _ h; simp at h
  ·intro k _ h; simp at h
 clear hH4
 refine wp_up tok mix (by kernel_rfl) P (fun i ρ m H5=>ρ 3=.pointer (some (ga H3.next 0 0))∧ρ 12=vi b.persons∧ρ 13=vi i∧m= []∧Sub H H5∧
  ∃O5,StandIn H5 H.next ⟨⟨⟨ra,rf⟩⟩,⟨oa,of'⟩,⟨va',vf'⟩⟩ b H3.next (H.next+1) ⟨List.replicate i true,b.owners,[],[],[],[]⟩ O5) (i0:=0) (by omega)
  ⟨by simp,by simp,by simp,by simp,hs2.trans (hs3.trans hs4),_,hS4⟩ ?_
 rintro i ρ m H5 hi ⟨e3,e12,e13,rfl,hs5,O5,h5⟩
 rw [hP] at e12
 simp [e12,e13]
 refine wpB_dec (fun hlt=>?_) (fun hge=>?_)
 ·obtain ⟨vl,vo,vg,va,vw,vf,h5',hO⟩:=h5
  have hg5:=h5'.g
  have hsl5:=h5'.sgl.2
  have hlv:=h5'.lives.len
  simp only [List.length_replicate] at hlv
  obtain ⟨vl',H6,happ,ho6,hn6,hf6,hb6⟩:=(h5'.lives.push (.arr { cells:= [.bool true],ty:=4 })).app (by simp) (by simp) (by decide) true (by have:=h5'.sgl; simp; omega)
  simp only [encB] at happ
  have d8:1*(1+i)≤1000000:=by omega
  have d9:1+i≤1000000:=by omega
  have hg6:=(hf6 H3.next (by simp; omega) (h5'.sg_ne h5'.lives (by decide))).trans ((GH.get_push_lt _ _ hsl5).trans hg5)
  simp only [GH.next_push] at hn6
  obtain ⟨al,fl,rfl⟩:=ho6.slice
  simp (disch:=omega) [e3,e12,e13,hg5,hlv,d9,happ,hg6,wrap64,hlt]
  have hS6:=h5'.upd_lives (by omega) ho6 (fun k hk hne=>by rw [hf6 k (by simp; omega) hne,GH.get_push_lt _ _ hk]) (fun k hk=>(hb6 k hk).imp id fun h=>by simp at h; omega)
  simp only [bookC,List.cons_append,List.nil_append,List.length_append,List.length_cons,List.length_nil,Nat.zero_add,List.length_replicate] at hS6 hb6
  obtain ⟨O6,f6,h6⟩:=StandIn.of h5' hO hS6 (by simp; omega) (fun k hk ho=>by
   rw [hO] at ho
   rw [GH.get_put_ne _ _ (fun hc=>ho (.inl hc)),hf6 k (by simp; omega) (fun hc=>ho (.inr (.inr (.inl hc)))),GH.get_push_lt _ _ (by omega)])
   (fun k hk=>(hb6 k hk).imp id fun h=>by simp at h; omega) (fun k hk=>.inl hk) (fun k hk=>.inl hk) (fun k hk=>.inl hk) (fun k hk=>.inl hk) (fun k hk=>.inl hk)
  have hrep:List.replicate i true++ [true]=List.replicate (i+1) true:=by rw [List.replicate_succ']
  rw [hrep] at h6
  refine ⟨hP.symm,⟨Nat.le_trans hs5.1 f6.next,fun g hg=>?_⟩,O6,h6⟩
  rw [f6.keep g (Nat.lt_of_lt_of_le hg hs5.1) (fun hc=>by have:=(h5'.own_lt ((hO g).1 hc)).1; omega),hs5.2 g hg]
 ·have:i=P:=by omega
  subst this
  simp [e3]
  refine ⟨H3.next,rfl,hs5.1,hs5.2,H.next+1,O5,?_⟩
  unfold start
  rw [hP]
  simpa using h5
end Go.Gm.Tryz
end
section
namespace Go.Gm.Tryz
open Go.Proofs
def hapTy (k:Int):Nat:=if k=1 then 233 else if k=2 then 234 else if k=3 then 235 else if k=4 then 236 else if k=5 then 237 else if k=6 then 238 else if k=7 then 239 else 240
theorem happening_con (e:Ev) (H:GH):GCall Tryz.prog 73 [evV e] H fun x H'=>x=.ret (.iface (hapTy e.kind) (evV e))∧Sub H H':=by
 refine gcall_wp tok mix fok73 (F:=g73) (c:=_) rfl (n:=43) rfl (rs:= [.tmp 2]) rfl ?_
 simp
 repeat' (first
  |(refine wpB_dec (fun h=>?_) (fun h=>?_)<;>simp [*,hapTy]))
end Go.Gm.Tryz
end
section
namespace Go.Gm.Tryz
open Go.Proofs
def size (s:Stand):Nat:=s.grants.length+s.waits.length
structure Sh (k j:Nat) (s s':Stand):Prop where
 size:size s'≤size s+k
 own:s'.owners.length≤s.owners.length+j
 liv:s'.lives.length=s.lives.length
theorem Sh.refl (s:Stand):Sh 0 0 s s:=⟨Nat.le_refl _,Nat.le_refl _,rfl⟩
theorem Sh.trans {k j k' j':Nat} {a b c:Stand} (x:Sh k j a b) (y:Sh k' j' b c):Sh (k+k') (j+j') a c:=
 ⟨by have:=x.size; have:=y.size; omega,by have:=x.own; have:=y.own; omega,y.liv.trans x.liv⟩
theorem Sh.t0 {k j:Nat} {a b c:Stand} (x:Sh k j a b) (y:Sh 0 0 b c):Sh k j a c:=x.trans y
theorem Sh.t0' {k j:Nat} {a b c:Stand} (x:Sh 0 0 a b) (y:Sh k j b c):Sh k j a c:=by have:=x.trans y; simpa using this
theorem serveS_sh {b:Book}:∀ {n:Nat} {s:Stand},Sh 0 0 s (serveS b n s):=by
 intro n
 induction n with
 |zero=>intro s; exact .refl _
 |succ n ih=>
  intro s
  simp only [serveS]
  cases hws:s.waits with
  |nil=>exact .refl _
  |cons w ws=>
   simp only
   split
   ·exact .refl _
   ·refine Sh.t0' ?_ ih
    refine ⟨?_,Nat.le_refl _,rfl⟩
    simp [size,addG,hws]; omega
theorem serve_sh (b:Book) (s:Stand):Sh 0 0 s (serve b s):=serveS_sh
theorem endS_sh (b:Book) (s:Stand) (g:Nat) (d:Int):Sh 0 0 s (endS b s g d):=by
 refine Sh.t0' ?_ (serve_sh b _)
 exact ⟨by simp [size,endG],Nat.le_refl _,rfl⟩
theorem passS_sh {b:Book} {d:Int}:∀ {n:Nat} {s:Stand},Sh 0 0 s (passS b d n s):=by
 intro n
 induction n with
 |zero=>intro s; exact .refl _
 |succ n ih=>
  intro s
  simp only [passS]
  split
  ·exact .refl _
  ·exact (endS_sh ..).t0' ih
theorem pass_sh (b:Book) (s:Stand) (d:Int):Sh 0 0 s (pass b s d):=passS_sh
theorem addG_sh (s:Stand) (p e sy u:Int):Sh 1 0 s (addG s p e sy u):=⟨by simp [size,addG]; omega,Nat.le_refl _,rfl⟩
theorem addG_wf {b:Book} {s:Stand} (h:Wf b s) (hs:size s<100) (p e sy u:Int):Wf b (addG s p e sy u):=by
 refine ⟨h.w,?_,?_,h.own,h.ev,?_⟩
 ·simp only [size] at hs; simp [addG]; omega
 ·have:=h.last; simp [addG]; omega
 ·have:=h.fe; simpa [addG] using this
theorem ownS_sh (s:Stand) (n:Nat) (p:Int):Sh 0 0 s (ownS s n p):=⟨by simp [size,ownS],by simp [ownS],rfl⟩
theorem set_fe {l:List GSt} {i:Nat} {y:GSt} (hi:i<l.length) (h:y.is=l[i].is):(l.set i y).countP (fun x=>decide (x.is=3))=l.countP (fun x=>decide (x.is=3)):=by
 have h2:=countP_set (p:=fun x:GSt=>decide (x.is=3)) (y:=y) hi
 rw [h] at h2; omega
theorem divideS_sh (s:Stand) (e:Ev):Sh 1 1 s (divideS s e):=⟨by simp [size,divideS,addG]; omega,by simp [divideS,addG],rfl⟩
theorem divideS_wf {b:Book} {s:Stand} (h:Wf b s) (hs:size s<100) (ho:s.owners.length<100) (e:Ev) (he:e.grant.toNat<s.grants.length):Wf b (divideS s e):=by
 unfold divideS
 refine addG_wf ?_ (by simpa [size] using hs) _ _ _ _
 refine ⟨h.w,by have:=h.len; simpa using this,by have:=h.last; simpa using this,by simp; omega,h.ev,?_⟩
 have hg:s.grants.getD e.grant.toNat default=s.grants[e.grant.toNat]:=getD_at he
 have:=h.fe
 simp only [hg]
 refine Nat.le_trans this (Nat.le_of_eq (set_fe he ?_).symm)
 rfl
theorem renewS_sh (s:Stand) (e:Ev):Sh 0 0 s (renewS s e):=⟨by simp [size,renewS],Nat.le_refl _,rfl⟩
theorem renewS_wf {b:Book} {s:Stand} (h:Wf b s) (e:Ev) (he:e.grant.toNat<s.grants.length) (h2:(s.grants[e.grant.toNat]).is=2):Wf b (renewS s e):=by
 refine ⟨h.w,by have:=h.len; simpa [renewS] using this,by have:=h.last; simpa [renewS] using this,h.own,h.ev,?_⟩
 have h3:=countP_set (p:=fun x:GSt=>decide (x.is=3)) (y:= { s.grants[e.grant.toNat] with is:=1 }) he
 have hg:s.grants.getD e.grant.toNat default=s.grants[e.grant.toNat]:=getD_at he
 have:=h.fe
 simp [h2] at h3
 simp only [renewS,hg]
 omega
theorem joinS_sh (s:Stand) (e:Ev):Sh 0 0 s (joinS s e):=⟨by simp [size,joinS],by simp [joinS],rfl⟩
theorem joinS_wf {b:Book} {s:Stand} (h:Wf b s) (e:Ev):Wf b (joinS s e):=by
 refine ⟨h.w,by simpa [joinS] using h.len,by simpa [joinS] using h.last,by simpa [joinS] using h.own,h.ev,?_⟩
 have h1:=h.fe
 simp only [joinS]
 rw [List.countP_map]
 refine Nat.le_trans h1 (Nat.le_of_eq ?_)
 congr 1
 funext x
 simp only [Function.comp,joinF]
 split<;>rfl
theorem askS_sh (s:Stand) (n:Int):Sh 1 0 s (askS s n):=⟨by simp [size,askS]; omega,Nat.le_refl _,rfl⟩
theorem askS_wf {b:Book} {s:Stand} (h:Wf b s) (hs:size s<100) {n:Nat} (hn:n<b.events.length):Wf b (askS s n):=by
 refine ⟨fun m hm=>?_,by simp only [size] at hs; simp [askS]; omega,h.last,h.own,h.ev,h.fe⟩
 rcases List.mem_append.1 hm with hm|hm
 ·exact h.w m hm
 ·simp at hm; omega
theorem ownFold_sh (e:Ev) (s:Stand) (i:Nat):Sh 0 0 s ((List.range i).foldl (ownStep e) s):=by
 induction i with
 |zero=>exact .refl _
 |succ i ih=>
  rw [range_fold]
  refine ih.t0 ?_
  unfold ownStep
  split
  ·exact ownS_sh ..
  ·exact .refl _
theorem endFold_sh (b:Book) (e:Ev) (s:Stand) (i:Nat):Sh 0 0 s ((List.range i).foldl (endStep b e) s):=by
 induction i with
 |zero=>exact .refl _
 |succ i ih=>
  rw [range_fold]
  refine ih.t0 ?_
  unfold endStep
  split
  ·exact endS_sh ..
  ·exact .refl _
theorem endFold_wf {b:Book} {e:Ev} {s:Stand} (h:Wf b s) {i:Nat} (hi:i≤s.grants.length):Wf b ((List.range i).foldl (endStep b e) s)∧s.grants.length≤((List.range i).foldl (endStep b e) s).grants.length:=by
 induction i with
 |zero=>exact ⟨h,Nat.le_refl _⟩
 |succ i ih=>
  obtain ⟨h1,h2⟩:=ih (by omega)
  rw [range_fold]
  obtain ⟨h3,h4⟩:=endStep_ok (e:=e) h1 (i:=i) (by omega)
  exact ⟨h3,Nat.le_trans h2 h4⟩
theorem heirStep_ok {b:Book} {e:Ev} {s:Stand} (h:Wf b s) {i:Nat} (hi:i<s.grants.length):Wf b (heirStep b e s i)∧Sh 0 0 s (heirStep b e s i)∧(heirStep b e s i).grants.length=s.grants.length:=by
 unfold heirStep
 split
 ·rename_i hc
  refine ⟨⟨h.w,by have:=h.len; simpa using this,by have:=h.last; simpa using this,h.own,h.ev,?_⟩,⟨by simp [size],Nat.le_refl _,rfl⟩,by simp⟩
  have hg:gAt s i=s.grants[i]:=getD_at hi
  rw [hg] at hc ⊢
  have h3:=countP_set (p:=fun x:GSt=>decide (x.is=3)) (y:= { s.grants[i] with is:=2,person:=e.other }) hi
  have:=h.fe
  simp [hc.1] at h3
  rw [←h3] at this
  exact this
 ·exact ⟨h,.refl _,rfl⟩
theorem heirFold_ok {b:Book} {e:Ev} {s:Stand} (h:Wf b s) {i:Nat} (hi:i≤s.grants.length):Wf b ((List.range i).foldl (heirStep b e) s)∧Sh 0 0 s ((List.range i).foldl (heirStep b e) s)∧((List.range i).foldl (heirStep b e) s).grants.length=s.grants.length:=by
 induction i with
 |zero=>exact ⟨h,.refl _,rfl⟩
 |succ i ih=>
  obtain ⟨h1,h2,h2'⟩:=ih (by omega)
  rw [range_fold]
  obtain ⟨h3,h4,h5⟩:=heirStep_ok (e:=e) h1 (i:=i) (by omega)
  exact ⟨h3,h2.t0 h4,h5.trans h2'⟩
theorem dieS_ok {b:Book} {s:Stand} (h:Wf b s) (e:Ev):Wf b (dieS b s e)∧Sh 0 0 s (dieS b s e):=by
 unfold dieS
 have h1:=dieA_wf h e
 have s1:Sh 0 0 s (dieA s e):=⟨Nat.le_refl _,Nat.le_refl _,by simp [dieA]⟩
 have h2:Wf b (dieB (dieA s e) e):=(ownFold_ok (e:=e) h1 _).1
 have s2:Sh 0 0 s (dieB (dieA s e) e):=s1.t0 (ownFold_sh e _ _)
 have h3:Wf b (dieC b (dieB (dieA s e) e) e):=dieC_wf h2 e
 have s3:Sh 0 0 s (dieC b (dieB (dieA s e) e) e):=s2.t0 ⟨by
  have:=List.length_filter_le (notOf b e) (dieB (dieA s e) e).waits
  simp only [size,dieC]; omega,Nat.le_refl _,rfl⟩
 have h4:Wf b (dieD b (dieC b (dieB (dieA s e) e) e) e):=(endFold_wf (e:=e) h3 (Nat.le_refl _)).1
 have s4:Sh 0 0 s (dieD b (dieC b (dieB (dieA s e) e) e) e):=s3.t0 (endFold_sh ..)
 have h5:=heirFold_ok (e:=e) h4 (Nat.le_refl _)
 exact ⟨h5.1,s4.t0 h5.2.1⟩
end Go.Gm.Tryz
end
section
namespace Go.Gm.Tryz
open Go.Proofs
def goesB (b:Book) (s:Stand) (e:Ev):Bool:=
 if e.kind=1 then s.lives.getD e.person.toNat false&&fitsB b s e
 else if e.kind=2 then existsB s e.estate&&fitsB b s e
 else if e.kind=3 then decide (e.person≠e.other)&&(s.lives.getD e.person.toNat false&&s.lives.getD e.other.toNat false)
 else if e.kind=4 then existsB s e.estate&&(s.lives.getD e.person.toNat false&&decide (s.owners.getD e.estate.toNat 0≠e.person))
 else if e.kind=5 then divB b s e
 else if e.kind=6 then decide (e.estate≠e.other)&&(existsB s e.estate&&(existsB s e.other&&decide (s.owners.getD e.estate.toNat 0=s.owners.getD e.other.toNat 0)))
 else if e.kind=7 then decide (e.grant<s.grants.length)&&(decide ((s.grants.getD e.grant.toNat default).is=2)&&decide ((s.grants.getD e.grant.toNat default).person=e.person))
 else s.lives.getD e.person.toNat false&&decide (0≤waterI b.tbl e.system e.units)
def doS (b:Book) (s:Stand) (e:Ev) (n:Nat):Stand:=
 if e.kind=1 then giveS s e
 else if e.kind=2 then attachS s e
 else if e.kind=3 then dieS b s e
 else if e.kind=4 then ownS s e.estate.toNat e.person
 else if e.kind=5 then divideS s e
 else if e.kind=6 then joinS s e
 else if e.kind=7 then renewS s e
 else askS s n
def upFrom (b:Book) (day:Int):List Ev→Nat→Stand→Nat⊕Stand
 | [],_,s=>.inr (pass b s day)
 |e::es,n,s=>if e.day>day then .inr (pass b s day) else
  if goesB b (pass b s e.day) e then upFrom b day es (n+1) (serve b (doS b (pass b s e.day) e n)) else .inl n
def upS (b:Book) (day:Int):Nat⊕Stand:=upFrom b day b.events 0 (start b)
structure EvOk (b:Book) (s:Stand) (e:Ev):Prop where
 kind:1≤e.kind∧e.kind≤8
 person:e.kind≠2→e.kind≠6→0≤e.person∧e.person<s.lives.length
 other:e.kind=3→0≤e.other∧e.other<s.lives.length
 estate:0≤e.estate
 grant:0≤e.grant
 other0:0≤e.other
theorem isPerson_ok {b:Book} {n:Int} (h:isPersonI b n=true) (hb:1≤b.persons∧b.persons≤8):0≤n∧n<b.persons.toNat:=by
 simp (disch:=omega) only [isPersonI,inI,wrap64,decide_eq_true_eq] at h
 omega
theorem event_ok {b:Book} {s:Stand} {e:Ev} (hb:1≤b.persons∧b.persons≤8) (hl:s.lives.length=b.persons.toNat) (h:isEventB b e=true):EvOk b s e:=by
 unfold isEventB at h
 simp only [Bool.and_eq_true] at h
 obtain ⟨_,h⟩:=h
 have hp:∀ {n:Int},isPersonI b n=true→0≤n∧n<s.lives.length:=fun h=>by rw [hl]; exact isPerson_ok h hb
 by_cases k1:e.kind=1∨e.kind=8
 ·simp [k1,emptyB] at h
  have:=hp h.1.1
  exact ⟨by omega,fun _ _=>this,by omega,by omega,by omega,by omega⟩
 by_cases k2:e.kind=2
 ·simp [k2,emptyB,isEstateI,inI] at h
  exact ⟨by omega,by omega,by omega,by omega,by omega,by omega⟩
 by_cases k3:e.kind=3
 ·simp [k3,emptyB] at h
  have:=hp h.1.1
  have h2:=hp h.1.2
  exact ⟨by omega,fun _ _=>this,fun _=>h2,by omega,by omega,by omega⟩
 by_cases k4:e.kind=4
 ·simp [k4,emptyB,isEstateI,inI] at h
  have:=hp h.1.2
  exact ⟨by omega,fun _ _=>this,by omega,by omega,by omega,by omega⟩
 by_cases k5:e.kind=5
 ·simp [k5,emptyB,isGrantI,inI] at h
  have:=hp h.1.2
  exact ⟨by omega,fun _ _=>this,by omega,by omega,by omega,by omega⟩
 by_cases k6:e.kind=6
 ·simp [k6,emptyB,isEstateI,inI] at h
  exact ⟨by omega,by omega,by omega,by omega,by omega,by omega⟩
 by_cases k7:e.kind=7
 ·simp [k7,emptyB,isGrantI,inI] at h
  have:=hp h.1.2
  exact ⟨by omega,fun _ _=>this,by omega,by omega,by omega,by omega⟩
 simp [k1,k2,k3,k4,k5,k6,k7] at h
end Go.Gm.Tryz
end
section
namespace Go.Gm.Tryz
open Go.Proofs
def goesF (k:Int):FuncId:=if k=1 then 297 else if k=2 then 300 else if k=3 then 303 else if k=4 then 306 else if k=5 then 308 else if k=6 then 310 else if k=7 then 312 else 314
def doF (k:Int):FuncId:=if k=1 then 296 else if k=2 then 299 else if k=3 then 302 else if k=4 then 305 else if k=5 then 307 else if k=6 then 309 else if k=7 then 311 else 313
theorem hap_cases (k:Int):(k=1∨k=2∨k=3∨k=4∨k=5∨k=6∨k=7∨(k≠1∧k≠2∧k≠3∧k≠4∧k≠5∧k≠6∧k≠7)):=by omega
theorem iv_goes (k:Int) (v:Value) (l:List Value) (H:GH):ivR (T.get (hapTy k)) "quinaria/grant.goes" v l H=some (.enter (goesF k) (v::l) H):=by
 rcases hap_cases k with h|h|h|h|h|h|h|h<;>simp [hapTy,goesF,h]
theorem iv_do (k:Int) (v:Value) (l:List Value) (H:GH):ivR (T.get (hapTy k)) "quinaria/grant.do" v l H=some (.enter (doF k) (v::l) H):=by
 rcases hap_cases k with h|h|h|h|h|h|h|h<;>simp [hapTy,doF,h]
section
variable {H:GH} {N:Nat} {l:BLoc} {b:Book} {sg kn:Nat} {s:Stand} {O:Nat→Prop}
theorem goes_con (h:StandIn H N l b sg kn s O) (hw:Wf b s) {e:Ev} (he:EvOk b s e):Goes (goesF e.kind) H N l b sg kn s O e (goesB b s e):=by
 have hk:=he.kind
 unfold goesB goesF
 by_cases k1:e.kind=1
 ·rw [if_pos k1,if_pos k1]; exact give_goes h hw e (he.person (by omega) (by omega))
 rw [if_neg k1,if_neg k1]
 by_cases k2:e.kind=2
 ·rw [if_pos k2,if_pos k2]; exact attach_goes h hw e he.estate
 rw [if_neg k2,if_neg k2]
 by_cases k3:e.kind=3
 ·rw [if_pos k3,if_pos k3]; exact die_goes h hw e (he.person (by omega) (by omega)) (he.other k3)
 rw [if_neg k3,if_neg k3]
 by_cases k4:e.kind=4
 ·rw [if_pos k4,if_pos k4]; exact sell_goes h hw e (he.person (by omega) (by omega)) he.estate
 rw [if_neg k4,if_neg k4]
 by_cases k5:e.kind=5
 ·rw [if_pos k5,if_pos k5]; exact divide_goes h hw e (he.person (by omega) (by omega)) he.grant
 rw [if_neg k5,if_neg k5]
 by_cases k6:e.kind=6
 ·rw [if_pos k6,if_pos k6]; exact join_goes h hw e he.other0 he.estate
 rw [if_neg k6,if_neg k6]
 by_cases k7:e.kind=7
 ·rw [if_pos k7,if_pos k7]; exact renew_goes h hw e he.grant
 rw [if_neg k7,if_neg k7]
 exact ask_goes h hw e (he.person (by omega) (by omega))
theorem do_con (h:StandIn H N l b sg kn s O) (hw:Wf b s) {e:Ev} (he:EvOk b s e) (hg:goesB b s e=true) (n:Nat) (hn:n<b.events.length) (hs:size s<100) (ho:s.owners.length<100):
  Does (doF e.kind) H N l b sg kn O e n (doS b s e n)∧Wf b (doS b s e n)∧Sh 1 1 s (doS b s e n):=by
 have hk:=he.kind
 have up:∀ {k j:Nat} {s':Stand},k≤1→j≤1→Sh k j s s'→Sh 1 1 s s':=fun hk hj x=>⟨by have:=x.size; omega,by have:=x.own; omega,x.liv⟩
 unfold goesB at hg
 unfold doS doF
 by_cases k1:e.kind=1
 ·rw [if_pos k1,if_pos k1]; exact ⟨give_do h hw e n,addG_wf hw hs _ _ _ _,up (by omega) (by omega) (addG_sh ..)⟩
 rw [if_neg k1] at hg
 rw [if_neg k1,if_neg k1]
 by_cases k2:e.kind=2
 ·rw [if_pos k2] at hg
  simp only [existsB,Bool.and_eq_true,decide_eq_true_eq] at hg
  rw [if_pos k2,if_pos k2]; exact ⟨attach_do h hw e n ⟨he.estate,hg.1.1⟩,addG_wf hw hs _ _ _ _,up (by omega) (by omega) (addG_sh ..)⟩
 rw [if_neg k2] at hg
 rw [if_neg k2,if_neg k2]
 by_cases k3:e.kind=3
 ·rw [if_pos k3,if_pos k3]; have:=dieS_ok hw e; exact ⟨die_do h hw e n (he.person (by omega) (by omega)),this.1,up (by omega) (by omega) this.2⟩
 rw [if_neg k3] at hg
 rw [if_neg k3,if_neg k3]
 by_cases k4:e.kind=4
 ·rw [if_pos k4] at hg
  simp only [existsB,Bool.and_eq_true,decide_eq_true_eq] at hg
  rw [if_pos k4,if_pos k4]; exact ⟨sell_do h hw e n ⟨he.estate,hg.1.1⟩,ownS_wf hw _ _,up (by omega) (by omega) (ownS_sh ..)⟩
 rw [if_neg k4] at hg
 rw [if_neg k4,if_neg k4]
 by_cases k5:e.kind=5
 ·rw [if_pos k5] at hg
  simp only [divB,Bool.and_eq_true,decide_eq_true_eq] at hg
  have hgr:=he.grant
  rw [if_pos k5,if_pos k5]; exact ⟨divide_do h hw e n ⟨he.grant,hg.1⟩,divideS_wf hw hs ho e (by omega),up (by omega) (by omega) (divideS_sh ..)⟩
 rw [if_neg k5] at hg
 rw [if_neg k5,if_neg k5]
 by_cases k6:e.kind=6
 ·rw [if_pos k6] at hg
  simp only [existsB,Bool.and_eq_true,decide_eq_true_eq] at hg
  rw [if_pos k6,if_pos k6]; exact ⟨join_do h hw e n ⟨he.other0,hg.2.2.1.1⟩,joinS_wf hw e,up (by omega) (by omega) (joinS_sh ..)⟩
 rw [if_neg k6] at hg
 rw [if_neg k6,if_neg k6]
 by_cases k7:e.kind=7
 ·rw [if_pos k7] at hg
  simp only [Bool.and_eq_true,decide_eq_true_eq] at hg
  have hgr:=he.grant
  have hl:e.grant.toNat<s.grants.length:=by omega
  have h2:=hg.2.1
  rw [getD_at hl] at h2
  rw [if_pos k7,if_pos k7]; exact ⟨renew_do h hw e n ⟨he.grant,hg.1⟩,renewS_wf hw e hl h2,up (by omega) (by omega) (renewS_sh ..)⟩
 rw [if_neg k7,if_neg k7]
 exact ⟨ask_do h hw e n,askS_wf hw hs hn,up (by omega) (by omega) (askS_sh ..)⟩
end
end Go.Gm.Tryz
end
section
namespace Go.Gm.Tryz
open Go.Proofs
structure BookOk (b:Book):Prop where
 persons:1≤b.persons∧b.persons≤8
 owners:b.owners.length≤6
 events:b.events.length≤12
 ev:∀(i:Nat) (h:i<b.events.length),isEventB b b.events[i]=true
theorem book_ok {b:Book} (h:isBookB b=true):BookOk b:=by
 simp only [isBookB,Bool.and_eq_true,inI,decide_eq_true_eq,List.all_eq_true,List.mem_range,badAt,Bool.not_eq_true',Bool.or_eq_false_iff,Bool.not_eq_false'] at h
 refine ⟨h.1.1.1.1.2,h.1.1.1.2,h.1.1.2,fun i hi=>?_⟩
 have:=(h.1.2 i hi).1
 rwa [getD_at hi] at this
theorem start_wf {b:Book} (h:BookOk b):Wf b (start b):=by
 have h1:=h.owners
 have h2:=h.events
 exact ⟨fun n hn=>by simp [start] at hn,by simp [start],rfl,by simp [start]; omega,by omega,by simp [start]⟩
theorem up_con {H:GH} {l:BLoc} {b:Book} (hb:BookIn H l b) (hB:BookOk b) (day:Int):
  GCall Tryz.prog 29 [bookV l b,vi day] H fun x H'=>H.next≤H'.next∧(∀g,g<H.next→H'.get g=H.get g)∧match upS b day with
   | .inr s=>∃N sg kn O,H.next≤N∧x=.ret (.pointer (some (ga sg 0 0)))∧StandIn H' N l b sg kn s O∧Wf b s
   | .inl n=>x=.pan (.iface 153 (.agg #[vi n])):=by
 rcases l with ⟨⟨⟨ra,rf⟩⟩,⟨oa,of'⟩,⟨va',vf'⟩⟩
 have hp:=hB.persons
 have ho:=hB.owners
 have hv:=hB.events
 refine gcall_wp tok mix fok29 (F:=g29) (c:=_) rfl (n:=47) rfl (rs:= [.tmp 4]) rfl ?_
 simp
 generalize hH1:H.push _=H1
 have hs1:Sub H H1:=by subst hH1; exact Sub.push (.refl H) _
 have hb1:H1.get H.next=some (.arr { cells:= [.slice ra b.tbl.rows.length rf,vi b.tbl.draw,vi b.supply,vi b.term,vi b.persons,.slice oa b.owners.length of',.slice va' b.events.length vf'],ty:=28 }):=by subst hH1; simp
 have hn1:H1.next=H.next+1:=by subst hH1; simp
 clear hH1
 have hbi:BookIn H1 ⟨⟨⟨ra,rf⟩⟩,⟨oa,of'⟩,⟨va',vf'⟩⟩ b:=⟨hb.t.mono hs1,hb.owners.mono hs1,hb.events.mono hs1⟩
 refine (begin_con hbi (by omega) (by omega)).mono ?_
 rintro x H2 ⟨sg,kn,O2,rfl,hn2,hk2,h2⟩
 have hs2:Sub H1 H2:=⟨hn2,hk2⟩
 have hb2:=(hk2 H.next (by omega)).trans hb1
 simp (disch:=omega) [hb2]
 refine wp_up tok mix (by kernel_rfl) b.events.length (fun i ρ m H3=>ρ 1=vi day∧ρ 5=.pointer (some (ga sg 0 0))∧ρ 12=.slice va' b.events.length vf'∧ρ 13=vi b.events.length∧ρ 14=vi i∧m= []∧
  ∃s O3,Frm O2 O3 H2 H3∧StandIn H3 H1.next ⟨⟨⟨ra,rf⟩⟩,⟨oa,of'⟩,⟨va',vf'⟩⟩ b sg kn s O3∧Wf b s∧size s≤i∧s.owners.length≤6+i∧s.lives.length=b.persons.toNat∧upFrom b day (b.events.drop i) i s=upS b day) (i0:=0) (by omega)
  ⟨by simp,by simp,by simp,by simp,by simp,by simp,start b,O2,Frm.refl (fun g hg=>(h2.lt g hg).2),h2,start_wf hB,by simp [size,start],by simp [start]; omega,by simp [start],rfl⟩ ?_
 rintro i ρ m H3 hi ⟨e1,e5,e12,e13,e14,rfl,s,O3,f3,h3,hw3,hz,hoi,hl,hup⟩
 have hkeep:∀ {O4:Nat→Prop} {H4:GH},Frm O2 O4 H2 H4→H.next≤H4.next∧∀g,g<H.next→H4.get g=H.get g:=fun {O4 H4} f=>
  ⟨Nat.le_trans hs1.1 (Nat.le_trans hs2.1 f.next),fun g hg=>by rw [f.keep g (by omega) (fun hc=>by have:=(h2.lt g hc).1; omega),hs2.2 g (by omega),hs1.2 g hg]⟩
 simp [e13,e14]
 refine wpB_dec (fun hlt=>?_) (fun hge=>?_)
 ·obtain ⟨_,_,_,_,_,_,h3'⟩:=h3.st
  obtain ⟨a,rfl,hab,hrd⟩:=h3'.book.events.at i hlt
  have hltI:(i:Int)<b.events.length:=by omega
  rw [List.drop_eq_getElem_cons hlt,upFrom] at hup
  have hev:=event_ok (s:=pass b s b.events[i].day) hB.persons ((pass_sh b s b.events[i].day).liv.trans hl) (hB.ev i hlt)
  obtain ⟨e,hE⟩:∃e,b.events[i]=e:=⟨_,rfl⟩
  rw [hE] at hup hev hrd
  simp (disch:=omega) [e1,e12,e14,hrd]
  generalize hH4:GH.put _ _ _=H4
  have hs4:Sub H3 H4:=by subst hH4; exact (Sub.push (.refl H3) _).put (Nat.le_refl _) _
  have hb4:H4.get H3.next=some (.arr { cells:=encEv e,ty:=54 }):=by subst hH4; simp
  have hn4:H3.next<H4.next:=by subst hH4; simp
  clear hH4
  obtain ⟨h4,f4⟩:=h3.sub hs4
  have hO3:∀g,O3 g→g<H3.next:=fun g hg=>(h3.lt g hg).2
  refine wpB_dec (fun hd=>?_) (fun hd=>?_)
  ·rw [if_pos hd] at hup
   simp [e1,e5]
   refine (pass_con h4 hw3 day).mono ?_
   rintro x H5 ⟨rfl,O5,f5,h5⟩
   have:=hkeep (f3.trans (f4.trans f5))
   simp [e5,←hup]
   exact ⟨this.1,this.2,H1.next,by omega,sg,rfl,⟨_,_,h5⟩,pass_wf hw3⟩
  ·rw [if_neg hd] at hup
   simp (disch:=omega) [e5,hb4]
   refine (pass_con h4 hw3 e.day).mono ?_
   rintro x H5 ⟨rfl,O5,f5,h5⟩
   have hb5:=(f5.keep H3.next hn4 (fun hc=>by have:=hO3 _ hc; omega)).trans hb4
   have hn5:=f5.next
   have hw5:Wf b (pass b s e.day):=pass_wf hw3
   have hsh5:=pass_sh b s e.day
   simp (disch:=omega) [hb5]
   refine (happening_con e H5).mono ?_
   rintro x H6 ⟨rfl,hs6⟩
   obtain ⟨h6,f6⟩:=h5.sub hs6
   simp [e5,iv_goes]
   refine (goes_con h6 hw5 hev).mono ?_
   rintro x H7 ⟨rfl,f7,h7⟩
   have f27:=f3.trans (f4.trans (f5.trans (f6.trans f7)))
   simp
   cases hgo:goesB b (pass b s e.day) e with
   |false=>
    rw [if_neg (by rw [hgo]; decide)] at hup
    have:=hkeep f27
    simp [←hup]
    exact ⟨this.1,this.2⟩
   |true=>
    rw [if_pos hgo] at hup
    have z5:=hsh5.size
    have o5:=hsh5.own
    obtain ⟨hdo,hwd,hsd⟩:=do_con h7 hw5 hev hgo i (by omega) (by omega) (by omega)
    simp [e5,iv_do]
    refine hdo.mono ?_
    rintro x H8 ⟨rfl,O8,f8,h8⟩
    simp [e5]
    refine (serve_con h8 hwd).mono ?_
    rintro x H9 ⟨rfl,O9,f9,h9⟩
    have z9:=(hsd.t0 (serve_sh b _)).size
    have o9:=(hsd.t0 (serve_sh b _)).own
    have l9:=(hsh5.t0' (hsd.t0 (serve_sh b _))).liv
    simp (disch:=omega) [e1,e5,e12,e13,e14,wrap64]
    exact ⟨hlt,serve b (doS b (pass b s e.day) e i),O9,f27.trans (f8.trans f9),h9,serve_wf hwd,by omega,by omega,l9.trans hl,hup⟩
 ·have:i=b.events.length:=by omega
  subst this
  rw [List.drop_length,upFrom] at hup
  simp [e1,e5]
  refine (pass_con h3 hw3 day).mono ?_
  rintro x H5 ⟨rfl,O5,f5,h5⟩
  have:=hkeep (f3.trans f5)
  simp [e5,←hup]
  exact ⟨this.1,this.2,H1.next,by omega,sg,rfl,⟨_,_,h5⟩,pass_wf hw3⟩
end Go.Gm.Tryz
end
section
namespace Go.Gm.Tryz
open Go.Proofs
theorem eql_iface (t:TypeId) (v:Value):gbin T .eql 20 (.iface t v) .nilIface=some (.bool false):=by
 have:gequal T 20 (.iface t v) .nilIface=some false:=nrfl rfl
 simp [gbin,this]
theorem rest136:∃(id:Nat) (os:Array Oper) (c:Code),g70.fn.body=some (.seq (.region id os false) c)∧codeOk T g70.plans c=true∧
  (∀(Q:Exit→Act→List Frame→World→Prop) (a:Act) (c₀ :Frame) (cs:List Frame) (w:World) (pv:Value),c₀.mode=.panicking [{ v:=pv,recovered:=false }]→
   Q .normal (a.put (some 6) pv) ({ c₀ with mode:=.panicking [{ v:=pv,recovered:=true }] }::cs) w→wpOpsSIn Fence.wide 0 Tryz.prog os Q (List.range os.size) a (c₀ ::cs) w)∧
  (∀(ρ:Rho) (H:GH) (Q:VQ) (n:Int) (g2 g3:Nat),ρ 0=.pointer (some (ga g2 0 0))→ρ 1=.pointer (some (ga g3 0 0))→g2≠g3→g2<H.next→g3<H.next→
   H.get g2=some (.arr { cells:= [vi 0],ty:=3 })→H.get g3=some (.arr { cells:= [vi 0],ty:=45 })→ρ 6=.iface 153 (.agg #[vi n])→
   (∀ρ' H',H.next≤H'.next→(∀g,g<H.next→g≠g2→g≠g3→H'.get g=H.get g)→H'.get g2=some (.arr { cells:= [vi n],ty:=3 })→H'.get g3=some (.arr { cells:= [vi 7],ty:=45 })→Q .normal ρ' [] H')→
   wpC ⟨Tryz.prog,T,g70.plans,17,none⟩ c Q ρ [] H):=by
 refine ⟨_,_,_,rfl,by kernel_rfl,?_,?_⟩
 ·intro Q a c₀ cs w pv hu hq
  simp [wpOpsSIn,go_sem,recoverD,hu]
  first|exact hq|exact ⟨fun _ _=>trivial,hq⟩
 intro ρ H Q n g2 g3 e0 e1 hne l2 l3 h2 h3 e6 hq
 simp (disch:=omega) [e0,e1,e6,h2,h3,eql_iface]
 refine hq _ _ (by simp) (fun g hg k2 k3=>?_) ?_ ?_
 ·rw [GH.get_put_ne _ _ k3,GH.get_put_ne _ _ k2,GH.get_put_ne _ _ (by omega),GH.get_push_lt _ _ hg]
 ·simp (disch:=omega)
 ·simp (disch:=omega)
theorem fa_rho0 (a b:Nat) (args:List Value) (ha:args.length=a):fa (a+b) (rho0 args) []= { tmps:=args++List.replicate b undef }:=by
 unfold fa rho0
 simp only [GA.mk.injEq,and_true]
 apply List.ext_getElem?
 intro j
 subst ha
 by_cases h1:j<args.length
 ·rw [List.getElem?_append_left h1]
  have:j<args.length+b:=by omega
  simp [this,h1]
 ·rw [List.getElem?_append_right (by omega)]
  by_cases h2:j<args.length+b
  ·have h3:j - args.length<b:=by omega
   simp [h2,h1,h3]
  ·have h3:¬j - args.length<b:=by omega
   simp [h2,h3]
theorem catch136 {β:Bm} {H:GH} {w:World} {n:Int} {g2 g3:Nat} {p2 p3 pv:Value} (hR:Rel β H w) (v2:VR β (.pointer (some (ga g2 0 0))) p2) (v3:VR β (.pointer (some (ga g3 0 0))) p3)
  (vp:VR β (.iface 153 (.agg #[vi n])) pv) (hne:g2≠g3) (l2:g2<H.next) (l3:g3<H.next) (h2:H.get g2=some (.arr { cells:= [vi 0],ty:=3 })) (h3:H.get g3=some (.arr { cells:= [vi 0],ty:=45 })):
  CallsDIn Fence.wide 0 Tryz.prog 70 #[p2,p3] (.panicking [{ v:=pv,recovered:=false }]) w fun e u' w'=>e=.returned (.tuple #[])∧u'=.panicking [{ v:=pv,recovered:=true }]∧
   ∃β' H',Rel β' H' w'∧Ext β H w β' H' w'∧H.next≤H'.next∧(∀g,g<H.next→g≠g2→g≠g3→H'.get g=H.get g)∧H'.get g2=some (.arr { cells:= [vi n],ty:=3 })∧H'.get g3=some (.arr { cells:= [vi 7],ty:=45 }):=by
 obtain ⟨id,os,c,hb,hok,hA,hB⟩:=rest136
 refine callsDIn_of_wpSIn fok70.fn hb trivial fun c₀ cs hu=>?_
 apply wpSIn_seq
 apply wpSIn_region
 refine hA _ _ c₀ cs w pv hu ?_
 show c.wpSIn _ _ _ _ _ _ _
 refine wpSIn_of_wpIn rfl ?_
 have hw:=wpC_sound (X:=⟨Tryz.prog,T,g70.plans,17,none⟩) tok mix c hok (hB (upd (rho0 [.pointer (some (ga g2 0 0)),.pointer (some (ga g3 0 0))]) 6 (.iface 153 (.agg #[vi n]))) H
  (fun x _ m H'=>x=.normal∧m= []∧H.next≤H'.next∧(∀g,g<H.next→g≠g2→g≠g3→H'.get g=H.get g)∧H'.get g2=some (.arr { cells:= [vi n],ty:=3 })∧H'.get g3=some (.arr { cells:= [vi 7],ty:=45 })) n g2 g3 (by simp) (by simp) hne l2 l3 h2 h3 (by simp) (fun ρ' H' a b c d=>⟨rfl,rfl,a,b,c,d⟩))
 have hn:g70.fn.ntmps=17:=rfl
 have u:=VR.undef β
 have hA2:ActR β (fa 17 (upd (rho0 [.pointer (some (ga g2 0 0)),.pointer (some (ga g3 0 0))]) 6 (.iface 153 (.agg #[vi n]))) []) (({ tmps:= #[p2,p3]++Array.replicate (g70.fn.ntmps - #[p2,p3].size) undef,defers:= [] }:Act).put (some 6) pv):=by
  have h0:ActR β (fa 17 (rho0 [.pointer (some (ga g2 0 0)),.pointer (some (ga g3 0 0))]) []) ({ tmps:= #[p2,p3]++Array.replicate (g70.fn.ntmps - #[p2,p3].size) undef,defers:= [] }:Act):=by
   rw [hn,fa_rho0 2 15 _ rfl]
   refine ⟨?_,.nil⟩
   simp only [Array.toList_append,Array.toList_replicate]
   exact (VRs.cons v2 (.cons v3 .nil)).append (VRs.replicate _ u)
  have h1:=h0.put (some 6) vp
  rw [fa_put] at h1
  exact h1
 refine wpIn_mono (hw β w _ none hR hA2 .none) fun e r w' hp=>?_
 obtain ⟨x,a',β',H',⟨ρ',m,rfl,rfl,rfl,k1,k2,k3,k4⟩,hR',hE,hA',he⟩:=hp
 cases he
 have hd:r.defers= []:=by
  have:=hA'.marks
  generalize r.defers=ds at this
  cases this; rfl
 refine ⟨hd,_,rfl,.tuple #[],?_,rfl,rfl,β',H',hR',hE,k1,k2,k3,k4⟩
 simp [results,g70]
end Go.Gm.Tryz
end
section
namespace Go.Gm.Tryz
open Go.Proofs
theorem idle136':∃(id:Nat) (os:Array Oper) (c:Code),g70.fn.body=some (.seq (.region id os false) c)∧
  (∀(Q:Exit→Act→List Frame→World→Prop) (a:Act) (c₀ :Frame) (cs:List Frame) (w:World),c₀.mode=.returning→
   Q .normal (a.put (some 6) .nilIface) (c₀ ::cs) w→wpOpsSIn Fence.wide 0 Tryz.prog os Q (List.range os.size) a (c₀ ::cs) w)∧
  (∀(Q:Exit→Act→World→Prop) (t:Array Value) (w:World),17=t.size→t[6]?=some .nilIface→(∀a',a'.defers= []→Q .normal a' w)→c.wpIn Fence.wide 0 Tryz.prog Q { tmps:=t,defers:= [] } w):=by
 refine ⟨_,_,_,rfl,?_,?_⟩
 ·intro Q a c₀ cs w hu hq
  simp [wpOpsSIn,go_sem,recoverD,hu]
  exact hq
 ·intro Q t w ht h6 hq
  refine wpIn_block ?_
  refine wpIn_seq ?_
  refine wpIn_region ?_
  simp [wpOpsIn,go_sem,h6]
  refine wpIn_cond_true (by simp [Act.eval]; omega) ?_
  refine wpIn_region ?_
  simp [wpOpsIn,go_sem]
  exact hq _ rfl
theorem idle136 {w:World} {p2 p3:Value}:
  CallsDIn Fence.wide 0 Tryz.prog 70 #[p2,p3] .returning w fun e u' w'=>e=.returned (.tuple #[])∧u'=.returning∧w'=w:=by
 obtain ⟨id,os,c,hb,hA,hB⟩:=idle136'
 refine callsDIn_of_wpSIn fok70.fn hb trivial fun c₀ cs hu=>?_
 apply wpSIn_seq
 apply wpSIn_region
 refine hA _ _ c₀ cs w hu ?_
 show c.wpSIn _ _ _ _ _ _ _
 refine wpSIn_of_wpIn rfl ?_
 have hn:g70.fn.ntmps=17:=rfl
 refine hB _ _ w ?_ ?_ fun a' hd=>?_
 ·rw [hn]; simp
 ·rw [hn]; simp
 ·refine ⟨hd,.returning,?_,.tuple #[],?_,rfl,rfl,rfl⟩
  ·cases c₀; simp_all
  ·simp [results,g70]
end Go.Gm.Tryz
end
section
namespace Go.Gm.Tryz
open Go.Proofs
theorem attempt_parts:∃(c0:Code) (i1 i2 i3:Nat) (o1 o2 o3:Array Oper),Tryz.f27.body=some (.seq c0 (.seq (.region i1 o1 false) (.seq (.region i2 o2 false) (.seq (.region i3 o3 false) .ret))))∧codeOk T [] c0=true∧
  (∀(H:GH) (ρ:Rho) (Q:VQ),Q .normal (upd (upd ρ 2 (.pointer (some (ga H.next 0 0)))) 3 (.pointer (some (ga (H.next+1) 0 0)))) [] ((H.push (.arr { cells:= [vi 0],ty:=3 })).push (.arr { cells:= [vi 0],ty:=45 }))→wpC ⟨Tryz.prog,T,[],7,none⟩ c0 Q ρ [] H)∧
  (∀(Q:Exit→Act→World→Prop) (t:Array Value) (w:World) (p2 p3:Value),7=t.size→t[2]?=some p2→t[3]?=some p3→(∀a',a'.defers= [{ target:=.fn (.func 70) #[p2,p3],args:= #[] }]→a'.tmps.size=7→a'.tmps[0]?=t[0]?→a'.tmps[2]?=some p2→a'.tmps[3]?=some p3→Q .normal a' w)→(Code.region i1 o1 false).wpIn Fence.wide 0 Tryz.prog Q { tmps:=t,defers:= [] } w)∧
  (∀(Q:Exit→Act→World→Prop) (a:Act) (w:World) (f:FuncId) (first cap:Array Value),7=a.tmps.size→a.tmps[0]?=some (.func (.func f) first cap)→Ent Tryz.prog f→
   CallsIn Fence.wide 0 Tryz.prog f (first++cap) w (fun e w'=>match e with
    | .returned _v=>∀a':Act,a'.defers=a.defers→a'.tmps.size=7→a'.tmps[2]?=a.tmps[2]?→a'.tmps[3]?=a.tmps[3]?→Q .normal a' w'
    | .panicked ch=>∀a':Act,a'.defers=a.defers→a'.tmps.size=7→a'.tmps[2]?=a.tmps[2]?→a'.tmps[3]?=a.tmps[3]?→Q (.panic ch) a' w'
    | .outgrown=>LetsOut Q)→(Code.region i2 o2 false).wpIn Fence.wide 0 Tryz.prog Q a w):=by
 refine ⟨_,_,_,_,_,_,_,rfl,by kernel_rfl,?_,?_,?_⟩
 ·intro H ρ Q hq
  simp
  exact hq
 ·intro Q t w p2 p3 ht h2 h3 hq
  refine wpIn_region ?_
  have hmf:∀(fn:Fn) (first cap:Array Value) (w:World),(Instr.makeFunc fn first cap).run Tryz.prog w=.ok (.func fn first cap) w:=fun _ _ _ _=>rfl
  have h4:4<t.size:=by omega
  simp [wpOpsIn,go_sem,h2,h3,hmf,Oper.uponIn,h4]
  exact hq _ rfl (by simp; omega) (by simp) (by simp [h2]) (by simp [h3])
 ·intro Q a w f first cap ht h0 hent hc
  refine wpIn_region ?_
  have h5:5<a.tmps.size:=by omega
  simp [wpOpsIn,go_sem,h0,Oper.uponIn,h5]
  refine ⟨trivial,?_⟩
  rw [hent]
  refine ⟨rfl,hc.mono ?_⟩
  intro e w' h
  cases e with
  |returned v=>exact h _ rfl (by simp; omega) (by simp) (by simp)
  |panicked ch=>exact h _ rfl (by simp; omega) (by simp) (by simp)
  |outgrown=>exact h
end Go.Gm.Tryz
end
section
namespace Go.Gm.Tryz
open Go.Proofs
theorem st_skip {o:Oper} {t k:Nat} (ho:o.op=.store t (.tmp k) (.const (vi 0))) {r:TRow} (hr:T.get t=some r) (hsz:r.size=1) {a:Act} {p:Value} (hk:a.tmps[k]?=some p) {g:Nat} {β:Bm} {H:GH} {w:World}
  (v:VR β (.pointer (some (ga g 0 0))) p) (hg:H.get g=some (.arr { cells:= [vi 0],ty:=t })) (hR:Rel β H w):Skips Tryz.prog β H w (execOp a.eval o) (H.put g (.arr { cells:= [vi 0],ty:=t })):=
 s_store (ρ:=fun x=>match x with| .const c=>c|_=>.pointer (some (ga g 0 0))) tok hR t (.tmp k) (.const (vi 0)) ho hr (a:=ga g 0 0) rfl (by
  have e2:a.eval (.tmp k)=p:=by simp [Act.eval,hk]
  rw [e2]; exact v) (.int _ _) (by rw [hsz]; rfl) rfl (by simp [hg])
theorem up_skip {o:Oper} {a:Act} {next:Act→World→Prop} {Q:Exit→Act→World→Prop} {β:Bm} {H H':GH} {w:World} (h:Skips Tryz.prog β H w (execOp a.eval o) H')
  (k:∀w' β',Rel β' H' w'→Ext β H w β' H' w'→next (a.put o.dst undef) w'):Oper.wpIn Fence.wide 0 Tryz.prog o a w next Q:=by
 obtain ⟨β',w',hr,hR,hE⟩:=h
 refine ⟨fun _ _=>trivial,?_⟩
 rw [show Fence.wide.round=none from rfl,Oper.semAt_none,hr]
 exact k w' β' hR hE
theorem attempt_ret:∃(c0:Code) (i1 i2 i3:Nat) (o1 o2 o3:Array Oper),Tryz.f27.body=some (.seq c0 (.seq (.region i1 o1 false) (.seq (.region i2 o2 false) (.seq (.region i3 o3 false) .ret))))∧
  (∀(Q:Exit→Act→World→Prop) (a:Act) (w:World) (β:Bm) (H:GH) (g2 g3:Nat) (p2 p3:Value),7=a.tmps.size→a.tmps[2]?=some p2→a.tmps[3]?=some p3→VR β (.pointer (some (ga g2 0 0))) p2→VR β (.pointer (some (ga g3 0 0))) p3→g2≠g3→
   H.get g2=some (.arr { cells:= [vi 0],ty:=3 })→H.get g3=some (.arr { cells:= [vi 0],ty:=45 })→Rel β H w→
   (∀w' β',Rel β' ((H.put g2 (.arr { cells:= [vi 0],ty:=3 })).put g3 (.arr { cells:= [vi 0],ty:=45 })) w'→Ext β H w β' ((H.put g2 (.arr { cells:= [vi 0],ty:=3 })).put g3 (.arr { cells:= [vi 0],ty:=45 })) w'→Q .normal a w')→
   (Code.region i3 o3 false).wpIn Fence.wide 0 Tryz.prog Q a w):=by
 refine ⟨_,_,_,_,_,_,_,rfl,?_⟩
 intro Q a w β H g2 g3 p2 p3 ht h2 h3 v2 v3 hne hg2 hg3 hR hq
 refine wpIn_region ?_
 simp only [wpOpsIn,List.size_toArray,List.length_cons,List.length_nil,Nat.zero_add,List.range_succ,List.range_zero,List.nil_append,List.cons_append]
 simp only [List.getElem?_toArray,List.getElem?_cons_zero,List.getElem?_cons_succ,Region.wanted,if_true,Oper.wpIn]
 refine up_skip (st_skip rfl (by simp; rfl) rfl h2 v2 hg2 hR) fun w1 β1 hR1 hE1=>?_
 refine up_skip (st_skip rfl (by simp; rfl) rfl h3 (v3.mono hE1.le) ((GH.get_put_ne _ _ (Ne.symm hne)).trans hg3) hR1) fun w2 β2 hR2 hE2=>?_
 exact hq w2 β2 hR2 (hE1.trans hR hE2)
end Go.Gm.Tryz
end
section
namespace Go.Gm.Tryz
open Go.Proofs
abbrev box3:GObj:=.arr { cells:= [vi 0],ty:=3 }
abbrev box31:GObj:=.arr { cells:= [vi 0],ty:=45 }
structure But (g2 g3:Nat) (H H':GH):Prop where
 next:H.next≤H'.next
 keep:∀g,g<H.next→g≠g2→g≠g3→H'.get g=H.get g
def TryK (H:GH) (R:GO→GH→Prop) (x:GO) (H1:GH):Prop:=
 H.next+2≤H1.next∧H1.get H.next=some box3∧H1.get (H.next+1)=some box31∧match x with
  | .ret _=>∀H2,But H.next (H.next+1) H1 H2→R (.ret (.tuple #[vi 0,vi 0])) H2
  | .pan v=>∃n,v=.iface 153 (.agg #[vi n])∧∀H2,But H.next (H.next+1) H1 H2→R (.ret (.tuple #[vi n,vi 7])) H2
def TryX (H:GH) (R:GO→GH→Prop) (x:GO) (H1:GH):Prop:=
 H.next+2≤H1.next∧H1.get H.next=some box3∧H1.get (H.next+1)=some box31∧match x with
  | .ret _=>R (.ret (.tuple #[vi 0,vi 0])) ((H1.put H.next box3).put (H.next+1) box31)
  | .pan v=>∃n,v=.iface 153 (.agg #[vi n])∧∀H2,But H.next (H.next+1) H1 H2→R (.ret (.tuple #[vi n,vi 7])) H2
theorem TryK.x {H:GH} {R:GO→GH→Prop} {x:GO} {H1:GH} (h:TryK H R x H1):TryX H R x H1:=by
 obtain ⟨a,b,c,d⟩:=h
 refine ⟨a,b,c,?_⟩
 cases x with
 |ret v=>exact d _ ⟨by simp,fun g hg k1 k2=>by rw [GH.get_put_ne _ _ k2,GH.get_put_ne _ _ k1]⟩
 |pan v=>exact d
theorem res83 {t:Array Value} {p2 p3:Value} (h2:t[2]?=some p2) (h3:t[3]?=some p3):results Tryz.f27 t=results Tryz.f27 #[undef,undef,p2,p3,undef,undef,undef]:=by
 have hr:Tryz.f27.results= #[.cell 2 3,.cell 3 45]:=rfl
 simp [results,h2,h3]
theorem res83_ok {t:Array Value} {p2 p3:Value} (h2:t[2]?=some p2) (h3:t[3]?=some p3) {β:Bm} {H:GH} {w:World} {g2 g3:Nat} {a b:Int} (hR:Rel β H w) (v2:VR β (.pointer (some (ga g2 0 0))) p2) (v3:VR β (.pointer (some (ga g3 0 0))) p3)
  (k2:H.get g2=some (.arr { cells:= [vi a],ty:=3 })) (k3:H.get g3=some (.arr { cells:= [vi b],ty:=45 })):∃v',(results Tryz.f27 t).run Tryz.prog w=.ok v' w∧VR β (.tuple #[vi a,vi b]) v':=by
 rw [res83 h2 h3]
 have u:=VR.undef β
 refine results_ok (P:=Tryz.prog) (vs:= [vi a,vi b]) tok hR (tm:= [undef,undef,.pointer (some (ga g2 0 0)),.pointer (some (ga g3 0 0)),undef,undef,undef]) (.cons u (.cons u (.cons v2 (.cons v3 (.cons u (.cons u (.cons u .nil))))))) ?_
 have hr:Tryz.f27.results.toList= [.cell 2 3,.cell 3 45]:=rfl
 rw [hr]
 simp [readResults,readResult,k2,k3]
theorem attempt_conX {f:FuncId} {first cap:Array Value} {H:GH} {R:GO→GH→Prop} (hf:GCall Tryz.prog f (first.toList++cap.toList) ((H.push box3).push box31) (TryX H R)):
  GCall Tryz.prog 27 [.func (.func f) first cap] H R:=by
 have hname:(Tryz.f27.name== "runtime.NumGoroutine")=false:=by kernel_rfl
 have hfn:Tryz.prog.funcs[27]?=some Tryz.f27:=Tryz.func27
 obtain ⟨c0,i1,i2,i3,o1,o2,o3,hb,hok,hA,hB,hC⟩:=attempt_parts
 obtain ⟨c0',i1',i2',i3',o1',o2',o3',hb',hD⟩:=attempt_ret
 rw [hb] at hb'
 cases hb'
 refine ⟨fun xs w=>?_,fun β w args' hR hV=>?_⟩
 ·have h1:Tryz.f27.name≠ "runtime.NumGoroutine":=by simpa using hname
  simp [callFunc,hfn,h1,hb]
 refine callsIn_of_wp_marks hfn hb trivial ?_
 refine wpIn_seq ?_
 obtain ⟨v',rfl,hv⟩:∃v',args'= [v']∧VR β (.func (.func f) first cap) v':=by
  cases hV with
  |cons h t=>cases t; exact ⟨_,rfl,h⟩
 have hn:Tryz.f27.ntmps=7:=rfl
 have h0:ActR β (fa 7 (rho0 [.func (.func f) first cap]) []) ({ tmps:= [v'].toArray++Array.replicate (Tryz.f27.ntmps - [v'].toArray.size) undef,defers:= [] }:Act):=by
  rw [hn,fa_rho0 1 6 _ rfl]
  refine ⟨?_,.nil⟩
  simp only [Array.toList_append,Array.toList_replicate]
  exact (VRs.cons hv .nil).append (VRs.replicate _ (VR.undef β))
 have hw:=wpC_sound (X:=⟨Tryz.prog,T,[],7,none⟩) tok mix c0 hok (hA H (rho0 [.func (.func f) first cap]) (fun x ρ m H'=>x=.normal∧m= []∧H'=(H.push box3).push box31∧ρ=upd (upd (rho0 [.func (.func f) first cap]) 2 (.pointer (some (ga H.next 0 0)))) 3 (.pointer (some (ga (H.next+1) 0 0)))) ⟨rfl,rfl,rfl,rfl⟩)
 refine wpIn_mono (hw β w _ none hR h0 .none) fun e r w1 hp=>?_
 obtain ⟨x,a',β1,H1,⟨ρ,m,rfl,rfl,rfl,rfl,rfl⟩,hR1,hE1,hA1,he⟩:=hp
 cases he
 have hsz:7=r.tmps.size:=by have:=hA1.tmps.length; simpa [fa] using this
 obtain ⟨f0,q0,vf⟩:=hA1.tmps.get? (i:=0) (v:=.func (.func f) first cap) (by simp [fa])
 obtain ⟨p2,q2,v2⟩:=hA1.tmps.get? (i:=2) (v:=.pointer (some (ga H.next 0 0))) (by simp [fa])
 obtain ⟨p3,q3,v3⟩:=hA1.tmps.get? (i:=3) (v:=.pointer (some (ga (H.next+1) 0 0))) (by simp [fa])
 simp only [Array.getElem?_toList] at q0 q2 q3
 have hd:r.defers= []:=by
  have:=hA1.marks
  generalize r.defers=ds at this
  cases this; rfl
 obtain ⟨rt,rd⟩:=r
 simp only at hd hsz q0 q2 q3
 subst hd
 show Code.wpIn _ _ _ _ _ _ _
 refine wpIn_seq ?_
 refine hB _ rt w1 p2 p3 hsz q2 q3 fun a1 k1 k2 k3 k4 k5=>?_
 show Code.wpIn _ _ _ _ _ _ _
 refine wpIn_seq ?_
 obtain ⟨first',cap',rfl,hargs⟩:∃first' cap',f0=.func (.func f) first' cap'∧VRs β1 (first.toList++cap.toList) (first'.toList++cap'.toList):=by
  cases vf with
  |func hfn s1 x1 s2 x2=>
   cases hfn
   refine ⟨_,_,rfl,VRs.append (.of_getD (by simpa using s1) fun i hi=>?_) (.of_getD (by simpa using s2) fun i hi=>?_)⟩
   ·simpa using x1 i (by simpa using hi)
   ·simpa using x2 i (by simpa using hi)
 have hcall:=hf.2 β1 w1 _ hR1 hargs
 have harr:(first'.toList++cap'.toList).toArray=first'++cap':=by simp
 rw [harr] at hcall
 refine hC _ a1 w1 f first' cap' k2.symm (k3.trans q0) hf.1 (hcall.mono ?_)
 rintro e w2 ⟨x,β2,H2,hK,hR2,hE2,hEnd⟩
 obtain ⟨hK1,hK2,hK3,hK4⟩:=hK
 have v2':=v2.mono hE2.le
 have v3':=v3.mono hE2.le
 have hent:Ent Tryz.prog 70:=fun xs w=>by
  have h1:Tryz.f70.name≠ "runtime.NumGoroutine":=by
   have:(Tryz.f70.name== "runtime.NumGoroutine")=false:=by kernel_rfl
   simpa using this
  obtain ⟨_,_,_,hb6,_⟩:=rest136
  have hb6':Tryz.f70.body=_:=hb6
  simp [callFunc,show Tryz.prog.funcs[70]?=some Tryz.f70 from Tryz.func70,h1,hb6']
 have hE02:=hE1.trans hR hE2
 cases hEnd with
 |ret hv2=>
  intro a3 d1 d2 d3 d4
  show Code.wpIn _ _ _ _ _ _ _
  refine wpIn_seq ?_
  refine hD _ a3 w2 β2 H2 H.next (H.next+1) p2 p3 d2.symm (d3.trans k4) (d4.trans k5) v2' v3' (by omega) hK2 hK3 hR2 fun w3 β3 hR3 hE3=>?_
  show Code.wpIn _ _ _ _ _ _ _
  refine wpIn_ret ?_
  show LeavesInM _ _ _ _ _ _ a3.defers _ _
  rw [d1,k1]
  refine ⟨by simp,.inr ⟨fun _=>by simp_all [Fence.wide],_,_,70,#[p2,p3],rfl,?_,fun _ _=>trivial,idle136.mono ?_⟩⟩
  ·have:=hent #[p2,p3] w3
   first|(simp [invoke]; done)|simpa [invoke] using this
  ·rintro e u' w' ⟨rfl,rfl,rfl⟩
   obtain ⟨v3r,hrun,hvr⟩:=res83_ok (t:=a3.tmps) (d3.trans k4) (d4.trans k5) hR3 (v2'.mono hE3.le) (v3'.mono hE3.le) (a:=0) (b:=0) (g2:=H.next) (g3:=H.next+1) (by rw [GH.get_put_ne _ _ (by omega)]; simp) (by simp)
   exact ⟨v3r,hrun,_,β3,_,hK4,hR3,hE02.trans hR hE3,.ret hvr⟩
 |pan hv2=>
  intro a3 d1 d2 d3 d4
  show LeavesInM _ _ _ _ _ _ a3.defers _ _
  rw [d1,k1]
  obtain ⟨n,rfl,hK5⟩:=hK4
  refine ⟨by simp,.inr ⟨fun _=>by simp_all [Fence.wide],_,_,70,#[p2,p3],rfl,?_,fun _ _=>trivial,(catch136 hR2 v2' v3' hv2 (by omega) (by omega) (by omega) hK2 hK3).mono ?_⟩⟩
  ·have:=hent #[p2,p3] w2
   first|(simp [invoke]; done)|simpa [invoke] using this
  ·rintro e u' w' ⟨rfl,rfl,β3,H3,hR3,hE3,m1,m2,m3,m4⟩
   obtain ⟨v3r,hrun,hvr⟩:=res83_ok (t:=a3.tmps) (d3.trans k4) (d4.trans k5) hR3 (v2'.mono hE3.le) (v3'.mono hE3.le) (a:=n) (b:=7) (g2:=H.next) (g3:=H.next+1) m3 m4
   exact ⟨v3r,hrun,_,β3,_,hK5 _ ⟨m1,m2⟩,hR3,hE02.trans hR hE3,.ret hvr⟩
theorem attempt_con {f:FuncId} {first cap:Array Value} {H:GH} {R:GO→GH→Prop} (hf:GCall Tryz.prog f (first.toList++cap.toList) ((H.push box3).push box31) (TryK H R)):
  GCall Tryz.prog 27 [.func (.func f) first cap] H R:=attempt_conX (hf.mono fun _ _ h=>h.x)
end Go.Gm.Tryz
end
section
namespace Go.Gm.Tryz
open Go.Proofs
def rightS (b:Book) (day:Int):Nat⊕Stand:=match upS b 36500 with| .inl n=>.inl n| .inr _=>upS b day
structure LocBut (l:BLoc) (g:Nat):Prop where
 t:∀a,l.t.rows.a=some a→a.block≠g
 o:∀a,l.owners.a=some a→a.block≠g
 e:∀a,l.events.a=some a→a.block≠g
theorem StandIn.put_low {H:GH} {N:Nat} {l:BLoc} {b:Book} {sg kn:Nat} {s:Stand} {O:Nat→Prop} (h:StandIn H N l b sg kn s O) {g:Nat} (hg:g<N) (o:GObj) (hl:LocBut l g):StandIn (H.put g o) N l b sg kn s O:=by
 obtain ⟨vl,vo,vg,va,vw,vf,h,hO⟩:=h
 have hk:∀k,N≤k→(H.put g o).get k=H.get k:=fun k hk=>GH.get_put_ne _ _ (by omega)
 have ho:∀ {α:Type} {v:Value} {ty sz:Nat} {e:α→List Value} {x:List α},OwnL H N v ty sz e x→OwnL (H.put g o) N v ty sz e x:=fun w=>w.frame (Nat.le_refl _) fun k hk'=>hk k (w.blk_lt hk').1
 refine ⟨vl,vo,vg,va,vw,vf,⟨(hk sg h.sgl.1).trans h.g,h.sgl,⟨h.book.t.put o hl.t,h.book.owners.put o hl.o,h.book.events.put o hl.e⟩,h.bt,h.bo,h.be,?_,h.kl,ho h.lives,ho h.owners,ho h.grants,ho h.last,ho h.waits,ho h.fell,h.oa,h.ow,h.aw⟩,hO⟩
 obtain ⟨es,c,h1,h2⟩:=h.kno
 exact ⟨es,c,(hk kn h.kl.1).trans h1,h2⟩
theorem right1_con {H:GH} {l:BLoc} {b:Book} (hb:BookIn H l b) (hB:BookOk b) (day:Int) {g0 g1 g2:Nat} (hlb:LocBut l g2) (l0:g0<H.next) (l1:g1<H.next) (l2:g2<H.next)
  (k0:H.get g0=some (.arr { cells:=bookC l b,ty:=28 })) (k1:H.get g1=some (.arr { cells:= [vi day],ty:=3 })) (k2:H.get g2=some (.arr { cells:= [.pointer none],ty:=89 })):
  GCall Tryz.prog 100 [.pointer (some (ga g0 0 0)),.pointer (some (ga g1 0 0)),.pointer (some (ga g2 0 0))] H fun x H'=>H.next≤H'.next∧(∀g,g<H.next→g≠g2→H'.get g=H.get g)∧match rightS b day with
   | .inr s=>∃N sg kn O,H.next≤N∧x=.ret (.tuple #[])∧H'.get g2=some (.arr { cells:= [.pointer (some (ga sg 0 0))],ty:=89 })∧StandIn H' N l b sg kn s O∧Wf b s
   | .inl n=>x=.pan (.iface 153 (.agg #[vi n]))∧H'.get g2=H.get g2:=by
 rcases l with ⟨⟨⟨ra,rf⟩⟩,⟨oa,of'⟩,⟨va',vf'⟩⟩
 simp only [bookC] at k0
 refine gcall_wp tok mix fok100 (F:=g100) (c:=_) rfl (n:=8) rfl (rs:= []) rfl ?_
 simp (disch:=omega) [k0,k2]
 refine (up_con hb hB 36500).mono ?_
 rintro x H1 ⟨n1,s1,hu⟩
 unfold rightS
 cases hup:upS b 36500 with
 |inl n=>
  rw [hup] at hu
  subst hu
  simp
  exact ⟨n1,fun g hg _=>s1 g hg,(s1 _ l2).trans k2⟩
 |inr s0=>
  rw [hup] at hu
  obtain ⟨_,sg0,_,_,_,rfl,_,_⟩:=hu
  simp (disch:=omega) [s1 g0 l0,s1 g1 l1,k0,k1]
  have hs1:Sub H H1:=⟨n1,s1⟩
  have hbi:BookIn H1 ⟨⟨⟨ra,rf⟩⟩,⟨oa,of'⟩,⟨va',vf'⟩⟩ b:=⟨hb.t.mono hs1,hb.owners.mono hs1,hb.events.mono hs1⟩
  refine (up_con hbi hB day).mono ?_
  rintro x H2 ⟨n2,s2,hu⟩
  cases hup2:upS b day with
  |inl n=>
   rw [hup2] at hu
   subst hu
   simp
   exact ⟨by omega,fun g hg _=>(s2 g (by omega)).trans (s1 g hg),(s2 _ (by omega)).trans ((s1 _ l2).trans k2)⟩
  |inr s0=>
   rw [hup2] at hu
   obtain ⟨N,sg,kn,O,hN,rfl,hS,hW⟩:=hu
   have hg2:H2.get g2=_:=(s2 _ (by omega)).trans ((s1 _ l2).trans k2)
   simp (disch:=omega) [hg2]
   refine ⟨by omega,fun g hg hne=>?_,N,by omega,sg,rfl,⟨kn,O,hS.put_low (by omega) _ hlb⟩,hW⟩
   rw [if_neg hne,s2 g (by omega),s1 g hg]
end Go.Gm.Tryz
end
section
namespace Go.Gm.Tryz
open Go.Proofs
theorem StandIn.but {H H':GH} {N:Nat} {l:BLoc} {b:Book} {sg kn:Nat} {s:Stand} {O:Nat→Prop} (h:StandIn H N l b sg kn s O) {g2 g3:Nat} (l2:g2<N) (l3:g3<N) (k:But g2 g3 H H') (hl2:LocBut l g2) (hl3:LocBut l g3):StandIn H' N l b sg kn s O:=by
 obtain ⟨vl,vo,vg,va,vw,vf,h,hO⟩:=h
 have hk:∀k,N≤k→k<H.next→H'.get k=H.get k:=fun j hj hn=>k.keep j hn (by omega) (by omega)
 have ho:∀ {α:Type} {v:Value} {ty sz:Nat} {e:α→List Value} {x:List α},OwnL H N v ty sz e x→OwnL H' N v ty sz e x:=fun w=>w.frame k.next fun j hj=>hk j (w.blk_lt hj).1 (w.blk_lt hj).2
 have he:∀ {α:Type} {a:Option Addr} {sz:Nat} {e:α→List Value} {x:List α},Elems H a sz e x→(∀c,a=some c→c.block≠g2)→(∀c,a=some c→c.block≠g3)→Elems H' a sz e x:=fun w x2 x3=>by
  refine ⟨w.len,fun c hc=>?_,w.nil⟩
  obtain ⟨y1,y2⟩:=w.ok c hc
  refine ⟨Nat.lt_of_lt_of_le y1 k.next,?_⟩
  rw [←y2]
  simp only [GH.read]
  rw [k.keep _ y1 (x2 c hc) (x3 c hc)]
 refine ⟨vl,vo,vg,va,vw,vf,⟨(hk sg h.sgl.1 h.sgl.2).trans h.g,⟨h.sgl.1,Nat.lt_of_lt_of_le h.sgl.2 k.next⟩,⟨he h.book.t hl2.t hl3.t,he h.book.owners hl2.o hl3.o,he h.book.events hl2.e hl3.e⟩,h.bt,h.bo,h.be,?_,⟨h.kl.1,Nat.lt_of_lt_of_le h.kl.2 k.next⟩,ho h.lives,ho h.owners,ho h.grants,ho h.last,ho h.waits,ho h.fell,h.oa,h.ow,h.aw⟩,hO⟩
 obtain ⟨es,c,h1,h2⟩:=h.kno
 exact ⟨es,c,(hk kn h.kl.1 h.kl.2).trans h1,h2⟩
theorem bookBut {H:GH} {l:BLoc} {b:Book} (h:BookIn H l b) {g:Nat} (hg:H.next≤g):LocBut l g:=
 ⟨fun a ha hc=>by have:=(h.t.ok a ha).1; omega,fun a ha hc=>by have:=(h.owners.ok a ha).1; omega,fun a ha hc=>by have:=(h.events.ok a ha).1; omega⟩
def rightOk (b:Book) (day:Int) (ok:Bool):Bool:=isBookB b&&(isDayI day&&ok)
theorem right_con {H:GH} {l:BLoc} {b:Book} (hb:BookIn H l b) (day:Int) (ok:Bool):
  GCall Tryz.prog 40 [bookV l b,vi day,.bool ok] H fun x H'=>H.next≤H'.next∧(∀g,g<H.next→H'.get g=H.get g)∧
   if rightOk b day ok then match rightS b day with
    | .inr s=>∃N sg kn O,H.next≤N∧x=.ret (.tuple #[.pointer (some (ga sg 0 0)),vi 0])∧StandIn H' N l b sg kn s O∧Wf b s
    | .inl _n=>x=.ret (.tuple #[.pointer none,vi 7])
   else x=.ret (.tuple #[.pointer none,vi 2]):=by
 rcases l with ⟨⟨⟨ra,rf⟩⟩,⟨oa,of'⟩,⟨va',vf'⟩⟩
 refine gcall_wp tok mix fok40 (F:=g40) (c:=_) rfl (n:=30) rfl (rs:= [.tmp 6,.tmp 7]) rfl ?_
 simp
 generalize hH2:GH.push (GH.push _ _) _=H2
 have hs2:Sub H H2:=by subst hH2; exact (Sub.push (.refl H) _).push _
 have k0:H2.get H.next=some (.arr { cells:= [.slice ra b.tbl.rows.length rf,vi b.tbl.draw,vi b.supply,vi b.term,vi b.persons,.slice oa b.owners.length of',.slice va' b.events.length vf'],ty:=28 }):=by
  subst hH2; rw [GH.get_push_lt _ _ (by simp)]; simp
 have k1:H2.get (H.next+1)=some (.arr { cells:= [vi day],ty:=3 }):=by subst hH2; simp
 have hn2:H2.next=H.next+2:=by subst hH2; simp
 clear hH2
 have hbi:BookIn H2 ⟨⟨⟨ra,rf⟩⟩,⟨oa,of'⟩,⟨va',vf'⟩⟩ b:=⟨hb.t.mono hs2,hb.owners.mono hs2,hb.events.mono hs2⟩
 refine (isBook_con ⟨⟨⟨ra,rf⟩⟩,⟨oa,of'⟩,⟨va',vf'⟩⟩ b H2 hbi).go ?_
 simp
 unfold rightOk
 cases hB:isBookB b with
 |false=>simp; exact ⟨hs2.1,hs2.2⟩
 |true=>
  simp [k1]
  refine (isDay_con _ _).go ?_
  simp
  cases hD:isDayI day with
  |false=>simp; exact ⟨hs2.1,hs2.2⟩
  |true=>
   cases ok with
   |false=>simp; exact ⟨hs2.1,hs2.2⟩
   |true=>
    simp
    have hBk:=book_ok hB
    let l:BLoc:=⟨⟨⟨ra,rf⟩⟩,⟨oa,of'⟩,⟨va',vf'⟩⟩
    generalize hH3:H2.push _=H3
    have hs3:Sub H2 H3:=by subst hH3; exact Sub.push (.refl H2) _
    have k3:H3.get H2.next=some (.arr { cells:= [.pointer none],ty:=89 }):=by subst hH3; simp
    have hn3:H3.next=H2.next+1:=by subst hH3; simp
    clear hH3
    have hat:=attempt_con (f:=100) (first:= #[]) (cap:= #[.pointer (some (ga H.next 0 0)),.pointer (some (ga (H.next+1) 0 0)),.pointer (some (ga H2.next 0 0))]) (H:=H3)
     (R:=fun x H'=>H3.next≤H'.next∧(∀g,g<H2.next→H'.get g=H3.get g)∧match rightS b day with
      | .inr s=>∃N sg kn O,H2.next≤N∧x=.ret (.tuple #[vi 0,vi 0])∧H'.get H2.next=some (.arr { cells:= [.pointer (some (ga sg 0 0))],ty:=89 })∧StandIn H' N l b sg kn s O∧Wf b s
      | .inl n=>x=.ret (.tuple #[vi n,vi 7])∧H'.get H2.next=some (.arr { cells:= [.pointer none],ty:=89 })) ?_
    ·refine hat.mono ?_
     rintro x H4 ⟨n4,s4,hu⟩
     have hkeep:∀g,g<H.next→H4.get g=H.get g:=fun g hg=>by rw [s4 g (by omega),hs3.2 g (by omega),hs2.2 g hg]
     cases hr:rightS b day with
     |inl n=>
      rw [hr] at hu
      obtain ⟨rfl,hg⟩:=hu
      simp [hg]
      exact ⟨by omega,hkeep⟩
     |inr s0=>
      rw [hr] at hu
      obtain ⟨N,sg,kn,O,hN,rfl,hg,hS,hW⟩:=hu
      simp [hg]
      exact ⟨by omega,hkeep,N,by omega,sg,rfl,⟨kn,O,hS⟩,hW⟩
    ·generalize hH5:(H3.push box3).push box31=H5
     have hs5:Sub H3 H5:=by subst hH5; exact (Sub.push (.refl H3) _).push _
     have b3:H5.get H3.next=some box3:=by subst hH5; rw [GH.get_push_lt _ _ (by simp)]; simp
     have b31:H5.get (H3.next+1)=some box31:=by subst hH5; simp
     have hn5:H5.next=H3.next+2:=by subst hH5; simp
     have hs:=hs2.trans (hs3.trans hs5)
     have hb5:BookIn H5 l b:=⟨hb.t.mono hs,hb.owners.mono hs,hb.events.mono hs⟩
     refine (right1_con hb5 hBk day (g0:=H.next) (g1:=H.next+1) (g2:=H2.next) (bookBut hb (by omega)) (by omega) (by omega) (by omega) ((hs5.2 _ (by omega)).trans ((hs3.2 _ (by omega)).trans k0)) ((hs5.2 _ (by omega)).trans ((hs3.2 _ (by omega)).trans k1)) ((hs5.2 _ (by omega)).trans k3)).mono ?_
     rintro x H6 ⟨n6,s6,hu⟩
     refine ⟨by omega,(s6 _ (by omega) (by omega)).trans b3,(s6 _ (by omega) (by omega)).trans b31,?_⟩
     have hkeep:∀ {H7:GH},But H3.next (H3.next+1) H6 H7→H3.next≤H7.next∧∀g,g<H2.next→H7.get g=H3.get g:=fun k=>⟨by have:=k.next; omega,fun g hg=>by rw [k.keep g (by omega) (by omega) (by omega),s6 g (by omega) (by omega),hs5.2 g (by omega)]⟩
     cases hr:rightS b day with
     |inl n=>
      rw [hr] at hu
      obtain ⟨rfl,hu⟩:=hu
      refine ⟨n,rfl,fun H7 k=>?_⟩
      exact ⟨(hkeep k).1,(hkeep k).2,rfl,by rw [k.keep _ (by omega) (by omega) (by omega),hu,hs5.2 _ (by omega)]; exact k3⟩
     |inr s0=>
      rw [hr] at hu
      obtain ⟨N,sg,kn,O,hN,rfl,hg,hS,hW⟩:=hu
      intro H7 k
      exact ⟨(hkeep k).1,(hkeep k).2,N,sg,kn,O,by omega,rfl,by rw [k.keep _ (by omega) (by omega) (by omega)]; exact hg,hS.but (by omega) (by omega) k (bookBut hb (by omega)) (bookBut hb (by omega)),hW⟩
end Go.Gm.Tryz
end
section
namespace Go.Gm.Tryz
open Go.Proofs
theorem Check_con {H:GH} {l:BLoc} {b:Book} (hb:BookIn H l b):C 75 [bookV l b] H (vi (if isBookB b then 0 else 2)) H:=by
 rcases l with ⟨⟨⟨ra,rf⟩⟩,⟨oa,of'⟩,⟨va',vf'⟩⟩
 refine con_wp tok mix fok75 (F:=g75) (c:=_) rfl (n:=6) rfl (rs:= [.tmp 2]) rfl (anch_closed rfl) ?_
 simp
 refine (isBook_con ⟨⟨⟨ra,rf⟩⟩,⟨oa,of'⟩,⟨va',vf'⟩⟩ b _ (hb.push _)).go ?_
 simp
 cases h:isBookB b<;>simp
@[simp] def attV:Option Int→Value
 |none=>.tuple #[vi 0,vi 0]
 |some n=>.tuple #[vi n,vi 7]
theorem attempt_sub {f:FuncId} {first cap:Array Value} {H:GH} {res:Option Int}
  (hf:∀H5,Sub H H5→GCall Tryz.prog f (first.toList++cap.toList) H5 fun x H'=>Sub H5 H'∧match res with|none=>∃v,x=.ret v|some n=>x=.pan (.iface 153 (.agg #[vi n]))):
  GCall Tryz.prog 27 [.func (.func f) first cap] H fun x H'=>Sub H H'∧x=.ret (attV res):=by
 refine attempt_con ((hf _ ((Sub.push (.refl H) _).push _)).mono ?_)
 rintro x H1 ⟨hs,hx⟩
 have h1:=hs.1
 simp only [GH.next_push] at h1
 have hk:∀H2,But H.next (H.next+1) H1 H2→Sub H H2:=fun H2 k=>⟨by have:=k.next; omega,fun g hg=>by
  rw [k.keep g (by omega) (by omega) (by omega),hs.2 g (by simp; omega),GH.get_push_lt _ _ (by simp; omega),GH.get_push_lt _ _ hg]⟩
 refine ⟨by omega,(hs.2 _ (by simp)).trans (by rw [GH.get_push_lt _ _ (by simp)]; simp),(hs.2 _ (by simp)).trans (by simp),?_⟩
 cases res with
 |none=>obtain ⟨v,rfl⟩:=hx; exact fun H2 k=>⟨hk H2 k,rfl⟩
 |some n=>subst hx; exact ⟨n,rfl,fun H2 k=>⟨hk H2 k,rfl⟩⟩
def wrongO (b:Book):Option Int:=match upS b 36500 with| .inl n=>some (n:Int)| .inr _=>none
theorem wrong1_con {H:GH} {l:BLoc} {b:Book} (hb:BookIn H l b) (hB:BookOk b) {g0:Nat} (_l0:g0<H.next) (k0:H.get g0=some (.arr { cells:=bookC l b,ty:=28 })):
  GCall Tryz.prog 28 [.pointer (some (ga g0 0 0))] H fun x H'=>Sub H H'∧match wrongO b with|none=>∃v,x=.ret v|some n=>x=.pan (.iface 153 (.agg #[vi n])):=by
 rcases l with ⟨⟨⟨ra,rf⟩⟩,⟨oa,of'⟩,⟨va',vf'⟩⟩
 simp only [bookC] at k0
 refine gcall_wp tok mix fok28 (F:=g28) (c:=_) rfl (n:=3) rfl (rs:= []) rfl ?_
 simp (disch:=omega) [k0]
 refine (up_con hb hB 36500).mono ?_
 rintro x H1 ⟨n1,s1,hu⟩
 unfold wrongO
 cases hup:upS b 36500 with
 |inl n=>
  rw [hup] at hu; subst hu
  simp
  exact ⟨n1,s1⟩
 |inr s0=>
  rw [hup] at hu
  obtain ⟨_,sg0,_,_,_,rfl,_,_⟩:=hu
  simp
  exact ⟨n1,s1⟩
def wrongR (b:Book):Int×Int:=if isBookB b then match wrongO b with|some n=>(n,0)|none=>(0,5) else (0,2)
theorem Wrong_con {H:GH} {l:BLoc} {b:Book} (hb:BookIn H l b):C 7 [bookV l b] H (.tuple #[vi (wrongR b).1,vi (wrongR b).2]) H:=by
 rcases l with ⟨⟨⟨ra,rf⟩⟩,⟨oa,of'⟩,⟨va',vf'⟩⟩
 refine con_wp tok mix fok7 (F:=g7) (c:=_) rfl (n:=17) rfl (rs:= [.tmp 2,.tmp 3]) rfl (anch_tuple (by simp; exact ⟨anch_closed rfl,anch_closed rfl⟩)) ?_
 simp
 generalize hH2:GH.push _ _=H2
 have hs2:Sub H H2:=by subst hH2; exact Sub.push (.refl H) _
 have k0:H2.get H.next=some (.arr { cells:= [.slice ra b.tbl.rows.length rf,vi b.tbl.draw,vi b.supply,vi b.term,vi b.persons,.slice oa b.owners.length of',.slice va' b.events.length vf'],ty:=28 }):=by
  subst hH2; simp
 have hn2:H2.next=H.next+1:=by subst hH2; simp
 clear hH2
 have hbi:BookIn H2 ⟨⟨⟨ra,rf⟩⟩,⟨oa,of'⟩,⟨va',vf'⟩⟩ b:=hb.mono hs2
 refine (isBook_con ⟨⟨⟨ra,rf⟩⟩,⟨oa,of'⟩,⟨va',vf'⟩⟩ b H2 hbi).go ?_
 simp
 unfold wrongR
 cases hB:isBookB b with
 |false=>simp; exact hs2
 |true=>
  simp
  refine (attempt_sub (res:=wrongO b) (fun H5 h5=>?_)).mono ?_
  ·exact wrong1_con (hbi.mono h5) (book_ok hB) (by have:=h5.1; omega) ((h5.2 _ (by omega)).trans k0)
  ·rintro x H3 ⟨h3,rfl⟩
   cases wrongO b with
   |none=>simp; exact hs2.trans h3
   |some n=>simp; exact hs2.trans h3
end Go.Gm.Tryz
end
section
namespace Go.Gm
def ListR {α:Type} (H:GH) (v:Value) (sz:Nat) (enc:α→List Value) (l:List α):Prop:=∃a fl,v=.slice a l.length fl∧Elems H a sz enc l
end Go.Gm
namespace Go.Gm.Tryz
open Go.Proofs
inductive Out where
 |ok (s:Stand)
 |err (e:Int)
def outS (b:Book) (day:Int) (ok:Bool):Out:=if rightOk b day ok then (match rightS b day with| .inr s=>.ok s| .inl _=>.err 7) else .err 2
theorem right_out {H:GH} {l:BLoc} {b:Book} (hb:BookIn H l b) (day:Int) (ok:Bool):
  GCall Tryz.prog 40 [bookV l b,vi day,.bool ok] H fun x H'=>Sub H H'∧((∃s N sg kn O,outS b day ok=.ok s∧H.next≤N∧x=.ret (.tuple #[.pointer (some (ga sg 0 0)),vi 0])∧StandIn H' N l b sg kn s O∧Wf b s)∨
   ∃e,outS b day ok=.err e∧e≠0∧x=.ret (.tuple #[.pointer none,vi e])):=by
 refine (right_con hb day ok).mono ?_
 rintro x H1 ⟨n1,s1,hx⟩
 refine ⟨⟨n1,s1⟩,?_⟩
 unfold outS
 cases hr:rightOk b day ok with
 |false=>rw [hr] at hx; right; exact ⟨2,rfl,by decide,hx⟩
 |true=>
  rw [hr] at hx
  simp only [if_true] at hx ⊢
  cases hR:rightS b day with
  |inl n=>rw [hR] at hx; right; exact ⟨7,rfl,by decide,hx⟩
  |inr s=>rw [hR] at hx; obtain ⟨N,sg,kn,O,h1,h2,h3,h4⟩:=hx; left; exact ⟨s,N,sg,kn,O,rfl,h1,h2,h3,h4⟩
def statesR (o:Out):List GSt×Int:=match o with| .ok s=>(s.grants,0)| .err e=>([],e)
def estatesR (o:Out):List Int×Int:=match o with| .ok s=>(s.owners,0)| .err e=>([],e)
def waitingR (o:Out):List Int×Int:=match o with| .ok s=>(s.waits,0)| .err e=>([],e)
def waterR (b:Book) (o:Out):Int×Int×Int:=match o with| .ok s=>(IntKind.i64.wrap (b.supply - freeI b s),freeI b s,0)| .err e=>(0,0,e)
section
variable {H:GH} {l:BLoc} {b:Book}
theorem Water_con (hb:BookIn H l b) (day:Int):
  C 11 [bookV l b,vi day] H (.tuple #[vi (waterR b (outS b day true)).1,vi (waterR b (outS b day true)).2.1,vi (waterR b (outS b day true)).2.2]) H:=by
 rcases l with ⟨⟨⟨ra,rf⟩⟩,⟨oa,of'⟩,⟨va',vf'⟩⟩
 refine con_wp tok mix fok11 (F:=g11) (c:=_) rfl (n:=26) rfl (rs:= [.tmp 4,.tmp 5,.tmp 6]) rfl (anch_tuple (by simp; exact ⟨anch_closed rfl,anch_closed rfl,anch_closed rfl⟩)) ?_
 simp
 generalize hH2:GH.push _ _=H2
 have hs2:Sub H H2:=by subst hH2; exact Sub.push (.refl H) _
 have k0:H2.get H.next=some (.arr { cells:= [.slice ra b.tbl.rows.length rf,vi b.tbl.draw,vi b.supply,vi b.term,vi b.persons,.slice oa b.owners.length of',.slice va' b.events.length vf'],ty:=28 }):=by
  subst hH2; simp
 have hn2:H2.next=H.next+1:=by subst hH2; simp
 clear hH2
 refine (right_out (hb.mono hs2) day true).mono ?_
 rintro x H3 ⟨h3,⟨s,N,sg,kn,O,ho,hN,rfl,⟨vl,vo,vg,va,vw,vf,hS,_⟩,hW⟩|⟨e,ho,he,rfl⟩⟩
 ·simp
  refine (free_con hS (by have:=hW.len; omega)).mono ?_
  rintro x H4 ⟨rfl,h4⟩
  have hk:kn<H3.next∧N≤kn:=⟨hS.kl.2,hS.kl.1⟩
  have k4:H4.get H.next=some (.arr { cells:= [.slice ra b.tbl.rows.length rf,vi b.tbl.draw,vi b.supply,vi b.term,vi b.persons,.slice oa b.owners.length of',.slice va' b.events.length vf'],ty:=28 }):=by
   rw [h4.same _ (by have:=h3.1; omega) (by omega),h3.2 _ (by omega)]; exact k0
  have hn4:=h4.next
  have hn3:=h3.1
  simp (disch:=omega) [k4,ho,waterR]
  exact ⟨by omega,fun g hg=>by rw [h4.same _ (by omega) (by omega),h3.2 _ (by omega),hs2.2 _ hg]⟩
 ·simp [ho,he,waterR]
  exact hs2.trans h3
end
end Go.Gm.Tryz
end
section
namespace Go.Gm.Tryz
open Go.Proofs
def fellL (s:Stand) (from_ to:Int):List Int:=(s.fell.filter fun p=>inI p.2 from_ to).map Prod.fst
def fellR (o:Out) (from_ to:Int):List Int×Int:=match o with| .ok s=>(fellL s from_ to,0)| .err e=>([],e)
section
variable {H:GH} {l:BLoc} {b:Book}
end
end Go.Gm.Tryz
end
section
namespace Go.Gm.Tryz
open Go.Proofs
def otherI (s:Int):Int:=3 - s
def turnStep (t:Tbl) (sys:Int) (o:Option (Int×Int)) (s:List Int):Option (Int×Int):=
 match o with
 |none=>some (countsI t (otherI sys) s,countsI t (otherI sys) s)
 |some (a,b)=>some (if countsI t (otherI sys) s<a then countsI t (otherI sys) s else a,if countsI t (otherI sys) s>b then countsI t (otherI sys) s else b)
def turnO (t:Tbl) (sys u:Int):Option (Int×Int):=(alikeSets t sys u).foldl (turnStep t sys) none
def turnAt (t:Tbl) (sys u:Int) (k:Nat):Option (Int×Int):=((alikeSets t sys u).take k).foldl (turnStep t sys) none
def turnR (t:Tbl) (sys u:Int):Int×Int×Int:=if setArgs t sys u then (match turnO t sys u with|some (a,b)=>(a,b,0)|none=>(0,0,5)) else (0,0,2)
end Go.Gm.Tryz
end
section
namespace Go.Gm.Tryz
open Go.Proofs
@[simp,reducible] def countedV (l:TLoc) (t:Tbl) (g:GSt):Value:=.agg #[.slice l.rows.a t.rows.length l.rows.fl,vi t.draw,vi g.is,vi g.person,vi g.estate,vi g.system,vi g.units]
def holdN (b:Book) (sys:Int) (g:GSt):Int×Int:=if g.system=sys then (g.units,g.units) else ((turnR b.tbl g.system g.units).1,(turnR b.tbl g.system g.units).2.1)
def holdStep (b:Book) (person sys:Int) (acc:Int×Int) (g:GSt):Int×Int:=
 if g.is=1∧g.person=person then (IntKind.i64.wrap (acc.1+(holdN b sys g).1),IntKind.i64.wrap (acc.2+(holdN b sys g).2)) else acc
def holdS (b:Book) (s:Stand) (person sys:Int):Int×Int:=s.grants.foldl (holdStep b person sys) (0,0)
def holdsR (b:Book) (o:Out) (person sys:Int):Int×Int×Int:=match o with| .ok s=>((holdS b s person sys).1,(holdS b s person sys).2,0)| .err e=>(0,0,e)
section
variable {H:GH} {l:BLoc} {b:Book}
end
end Go.Gm.Tryz
end
section
namespace Go.Gm
theorem closed_eq {β:Bm} {c r:Value} (h:VR β c r):closedV c=true→r=c:=by
 induction h with
 |iface _ ih=>intro hc; rw [ih hc]
 |slice=>intro hc; simp [closedV] at hc
 |slice0=>intro hc; simp [closedV] at hc
 |_=>intro hc; first|rfl|(cases hc)
theorem closed_to {β β':Bm} {c r:Value} (h:VR β c r) (hc:closedV c=true):VR β' c r:=by rw [closed_eq h hc]; exact closed_ok hc
def oneH (fx:List (Nat×Obj)) (cs:List Value) (ty:TypeId):GH:=(GH.emp fx).push (.arr { cells:=cs,ty:=ty,ro:=true })
def oneB (L:Loc):Bm:=fun g v=>if g=0∧v=0 then some L else none
section
variable {β β':Bm} {H Hc:GH} {cs:List Value} {ty:TypeId} {w w':World} {L:Loc}
theorem getD_closed (hc:∀c∈cs,closedV c=true) {i:Nat} (hi:i<cs.length):closedV (cs.getD i undef)=true:=by
 rw [List.getD_eq_getElem?_getD,List.getElem?_eq_getElem hi]; exact hc _ (List.getElem_mem hi)
end
structure Imp (n0:Nat) (β0:Bm) (H0:GH) (β:Bm) (H:GH) (w':World):Prop where
 rel:Rel β H w'
 le:β0.le β
 sub:Sub H0 H
 low:∀g v L o,β g v=some L→H.get g=some o→o.rw=true→L.blk<n0
 new:∀g v L,β g v=some L→β0 g v=some L∨n0≤L.blk
 un:∀g,g<H0.next→(∀v,β0 g v=none)→∀v,β g v=none
 fx:H.fx=H0.fx
def sliceIs (H:GH) (v:Value) (fl:Nat) (exp:List Value):Bool:=
 match v with
 | .slice (some ⟨g,off,some ver⟩) n fl'=>Nat.beq fl' fl&&(!Nat.beq g 0&&(Nat.beq (n*fl) exp.length&&(match H.get g with
  |some (.arr B)=>Nat.ble (off+n*fl) (B.rd ver)&&veq.veqs (veq 2) ((B.cells.drop off).take (n*fl)) exp
  |_=>false)))
 |_=>false
end Go.Gm
end
section
namespace Go.Gm.Tryz
open Go.Proofs
theorem list_eq_of {α:Type} {a b:List α} (hl:a.length=b.length) (h:∀i (h1:i<a.length) (h2:i<b.length),a[i]=b[i]):a=b:=List.ext_getElem hl h
theorem same1_con (a b:List Int) (hl:a.length≤1000000) (a1 b1:Option Addr) (f1 f2:Nat) (H:GH) (ha:Elems H a1 1 encI a) (hb:Elems H b1 1 encI b):C 13 [.slice a1 a.length f1,.slice b1 b.length f2] H (.bool (decide (a=b))) H:=by
 refine con_wp tok mix fok13 (F:=g13) (c:=_) rfl (n:=26) rfl (rs:= [.tmp 4]) rfl (anch_closed rfl) ?_
 by_cases hlen:a.length=b.length
 ·have hli:(a.length:Int)=b.length:=by omega
  simp [hlen]
  refine wp_up tok mix (by kernel_rfl) b.length (fun i ρ m H'=>ρ 0=.slice a1 b.length f1∧ρ 1=.slice b1 b.length f2∧ρ 5=vi i∧m= []∧H'=H∧∀j (h1:j<a.length) (h2:j<b.length),j<i→a[j]=b[j]) (i0:=0) (by omega) (by simp) ?_
  rintro i ρ m H' hi ⟨e0,e1,e5,rfl,rfl,hj⟩
  simp [e0,e5]
  refine wpB_dec (fun hlt=>?_) (fun hge=>?_)
  ·obtain ⟨c1,rfl,hc1,hr1⟩:=ha.at i (by omega)
   obtain ⟨c2,rfl,hc2,hr2⟩:=hb.at i hlt
   by_cases hc:a[i]=b[i]
   ·simp (disch:=omega) [e0,e1,e5,hlt,hr1,hr2,hc,wrap64]
    intro j h1 h2 hji
    by_cases hq:j=i
    ·subst hq; exact hc
    ·exact hj j h1 h2 (by omega)
   ·have hne:¬a=b:=fun h=>hc (by simp [h])
    simp (disch:=omega) [e0,e1,e5,hlt,hr1,hr2,hc,hne]
  ·have he:a=b:=list_eq_of hlen fun j h1 h2=>hj j h1 h2 (by omega)
   simp [he]
 ·have hli:¬(a.length:Int)=b.length:=by omega
  have hne:¬a=b:=fun h=>hlen (by rw [h])
  simp [hli,hne]
end Go.Gm.Tryz
end
section
namespace Go.Gm.Tryz
open Go.Proofs
theorem rin_con (x lo hi:Int) (H:GH):C 15 [vi x,vi lo,vi hi] H (.bool (inI x lo hi)) H:=by
 refine con_wp tok mix fok15 (F:=g15) (c:=_) rfl (n:=15) rfl (rs:= [.tmp 6]) rfl (anch_closed rfl) ?_
 simp
 refine contG_bool (fun h=>?_) (fun h=>?_)<;>(try simp only [decide_eq_true_eq,decide_eq_false_iff_not] at h)<;>simp [h,inI]
theorem r3in_con (x lo hi:Int) (H:GH):C 44 [vi x,vi lo,vi hi] H (.bool (inI x lo hi)) H:=by
 refine con_wp tok mix fok44 (F:=g44) (c:=_) rfl (n:=15) rfl (rs:= [.tmp 6]) rfl (anch_closed rfl) ?_
 simp
 refine contG_bool (fun h=>?_) (fun h=>?_)<;>(try simp only [decide_eq_true_eq,decide_eq_false_iff_not] at h)<;>simp [h,inI]
theorem rDay_con (n:Int) (H:GH):C 46 [vi n] H (.bool (isDayI n)) H:=by
 refine con_wp tok mix fok46 (F:=g46) (c:=_) rfl (n:=5) rfl (rs:= [.tmp 2]) rfl (anch_closed rfl) ?_
 simp
 refine (rin_con _ _ _ _).go ?_
 simp [isDayI]
theorem rGrant_con (n:Int) (H:GH):C 49 [vi n] H (.bool (isGrantI n)) H:=by
 refine con_wp tok mix fok49 (F:=g49) (c:=_) rfl (n:=5) rfl (rs:= [.tmp 2]) rfl (anch_closed rfl) ?_
 simp
 refine (rin_con _ _ _ _).go ?_
 simp [isGrantI]
theorem rNumber_con (n:Int) (H:GH):C 116 [vi n] H (.bool (nisUnitsI n)) H:=by
 refine con_wp tok mix fok116 (F:=g116) (c:=_) rfl (n:=5) rfl (rs:= [.tmp 2]) rfl (anch_closed rfl) ?_
 simp
 refine (r3in_con _ _ _ _).go ?_
 simp [nisUnitsI]
theorem runits_con (n:Int) (H:GH):C 51 [vi n] H (.bool (isUnitsI n)) H:=by
 refine con_wp tok mix fok51 (F:=g51) (c:=_) rfl (n:=9) rfl (rs:= [.tmp 2]) rfl (anch_closed rfl) ?_
 simp
 refine contG_bool (fun h=>?_) (fun h=>?_)<;>(try simp only [decide_eq_true_eq,decide_eq_false_iff_not] at h)
 ·simp [h]
  refine (rNumber_con _ _).go ?_
  have:nisUnitsI n=isUnitsI n:=by
   unfold nisUnitsI isUnitsI inI
   rw [Bool.eq_iff_iff]; simp; omega
  simp [this]
 ·have:isUnitsI n=false:=by unfold isUnitsI inI; simp; omega
  simp [h,this]
theorem restate_con (n:Int) (H:GH):C 48 [vi n] H (.bool (isEstateI n)) H:=by
 refine con_wp tok mix fok48 (F:=g48) (c:=_) rfl (n:=5) rfl (rs:= [.tmp 2]) rfl (anch_closed rfl) ?_
 simp
 refine (rin_con _ _ _ _).go ?_
 simp [isEstateI]
theorem r3System_con (n:Int) (H:GH):C 50 [vi n] H (.bool (isSystemI n)) H:=by
 refine con_wp tok mix fok50 (F:=g50) (c:=_) rfl (n:=9) rfl (rs:= [.tmp 2]) rfl (anch_closed rfl) ?_
 simp
 refine contG_bool (fun h=>?_) (fun h=>?_)<;>(try simp only [Bool.not_eq_true',Bool.not_eq_false',decide_eq_true_eq,decide_eq_false_iff_not] at h)<;>simp [h,isSystemI]
theorem rPerson_con (l:BLoc) (b:Book) (n:Int) (H:GH):C 16 [bookV l b,vi n] H (.bool (isPersonI b n)) H:=by
 refine con_wp tok mix fok16 (F:=g16) (c:=_) rfl (n:=10) rfl (rs:= [.tmp 4]) rfl (anch_closed rfl) ?_
 simp
 refine (rin_con _ _ _ _).go ?_
 simp [isPersonI]
def hasS (k:Int):ByteArray:=
 if k=1 then ⟨#[112,115,117]⟩ else if k=2 then ⟨#[101,115,117]⟩ else if k=3 then ⟨#[112,111]⟩ else if k=4 then ⟨#[101,112]⟩
 else if k=5 then ⟨#[103,117,112]⟩ else if k=6 then ⟨#[101,102]⟩ else if k=7 then ⟨#[103,112]⟩ else if k=8 then ⟨#[112,115,117]⟩ else ⟨#[]⟩
theorem has_none {k:Int} (h:k<1∨8<k):hasS k=⟨#[]⟩:=by unfold hasS; repeat rw [if_neg (by omega)]
theorem has_sel {k:Int} (h:k=1∨k=2∨k=3∨k=4∨k=5∨k=6∨k=7∨k=8):List.take 1 (List.drop (k.toNat - 1) [Value.string ⟨#[112,115,117]⟩,.string ⟨#[101,115,117]⟩,.string ⟨#[112,111]⟩,.string ⟨#[101,112]⟩,.string ⟨#[103,117,112]⟩,.string ⟨#[101,102]⟩,.string ⟨#[103,112]⟩,.string ⟨#[112,115,117]⟩])= [.string (hasS k)]:=by
 rcases h with rfl|rfl|rfl|rfl|rfl|rfl|rfl|rfl<;>rfl
theorem has_con (k:Int) (H:GH):C 45 [vi k] H (.string (hasS k)) H:=by
 refine con_wp tok mix fok45 (F:=g45) (c:=_) rfl (n:=16) rfl (rs:= [.tmp 2]) rfl (anch_closed rfl) ?_
 simp
 refine contG_bool (fun h1=>?_) (fun h1=>?_)<;>(try simp only [Bool.not_eq_true',Bool.not_eq_false',decide_eq_true_eq,decide_eq_false_iff_not] at h1)
 ·simp [h1]
  refine wpB_bool (fun h2=>?_) (fun h2=>?_)<;>(try simp only [decide_eq_true_eq,decide_eq_false_iff_not] at h2)
  ·rw [has_none (.inr h2)]; simp
  ·simp (disch:=omega) [wrap64]
   have:k=1∨k=2∨k=3∨k=4∨k=5∨k=6∨k=7∨k=8:=by omega
   have hk:k≤8:=by omega
   rw [if_pos hk,has_sel this]
   simp
 ·rw [has_none (.inl h1)]; simp [h1]
def withB (s:ByteArray) (c:Int):Bool:=s.data.toList.any fun b=>decide ((b.toNat:Int)=c)
theorem with_con (s:ByteArray) (hs:s.size≤1000000) (c:Int) (H:GH):C 47 [.string s,.int .u8 c] H (.bool (withB s c)) H:=by
 refine con_wp tok mix fok47 (F:=g47) (c:=_) rfl (n:=17) rfl (rs:= [.tmp 4]) rfl (anch_closed rfl) ?_
 simp
 refine wp_up tok mix (by kernel_rfl) s.size (fun i ρ m H'=>ρ 0=.string s∧ρ 1=.int .u8 c∧ρ 5=vi i∧m= []∧H'=H∧∀j (h:j<s.data.size),j<i→¬((s.data[j].toNat:Int)=c)) (i0:=0) (by omega) (by simp) ?_
 rintro i ρ m H' hi ⟨e0,e1,e5,rfl,rfl,hj⟩
 simp [e0,e5]
 have hsz:s.data.size=s.size:=rfl
 refine wpB_dec (fun hlt=>?_) (fun hge=>?_)
 ·have hlt':i<s.data.size:=by omega
  have hat:s.data[i]?=some s.data[i]:=Array.getElem?_eq_getElem hlt'
  by_cases hc:((s.data[i].toNat:Int)=c)
  ·have:withB s c=true:=List.any_eq_true.2 ⟨s.data[i],by simp,by simpa using hc⟩
   rw [this]
   simp (disch:=omega) [e0,e1,e5,hlt,ixS,hc]
  ·simp (disch:=omega) [e0,e1,e5,hlt,ixS,wrap64,hc]
   intro j h hji
   by_cases hq:j=i
   ·subst hq; exact hc
   ·exact hj j h (by omega)
 ·have:withB s c=false:=by
   unfold withB
   rw [List.any_eq_false]
   intro x hx
   obtain ⟨j,hjl,rfl⟩:=List.mem_iff_getElem.1 hx
   simp at hjl ⊢
   exact hj j hjl (by omega)
  simp [this]
end Go.Gm.Tryz
end
section
namespace Go.Gm
theorem wp_mid {X:Cx} {a:Code} {K:Rho→List Nat→GH→Prop} {Q:VQ} {ρ:Rho} {m:List Nat} {H:GH} (P:Rho→List Nat→GH→Prop) (h:wpC X a (fun x ρ m H=>x=.normal∧P ρ m H) ρ m H) (hk:∀ρ m H,P ρ m H→K ρ m H):wpC X a (seqQ K Q) ρ m H:=
 wpC_mono h fun x ρ m H hx=>by obtain ⟨rfl,hp⟩:=hx; exact hk _ _ _ hp
end Go.Gm
namespace Go.Gm.Tryz
open Go.Proofs
theorem hasS_size (k:Int):(hasS k).size≤1000000:=by
 unfold hasS
 repeat' split
 all_goals decide
def fieldB (s:ByteArray) (c:Int) (ok:Bool) (n:Int):Bool:=(withB s c&&ok)||(!withB s c&&decide (n=0))
def evRef (b:Book) (x:Ev):Bool:=
 let s:=hasS x.kind
 if s.data= #[] then false else isDayI x.day&&(fieldB s 112 (isPersonI b x.person) x.person&&
  ((withB s 111&&isPersonI b x.other||(withB s 102&&isEstateI x.other||(!withB s 111&&(!withB s 102&&decide (x.other=0)))))&&
  (fieldB s 101 (isEstateI x.estate) x.estate&&(fieldB s 103 (isGrantI x.grant) x.grant&&(fieldB s 115 (isSystemI x.system) x.system&&fieldB s 117 (isUnitsI x.units) x.units)))))
theorem rEvent_con (l:BLoc) (b:Book) (x:Ev) (H:GH):C 17 [bookV l b,evV x] H (.bool (evRef b x)) H:=by
 refine con_wp tok mix fok17 (F:=g17) (c:=_) rfl (n:=157) rfl (rs:= [.tmp 4]) rfl (anch_closed rfl) ?_
 simp
 refine (has_con _ _).go ?_
 simp
 generalize hs:hasS x.kind=s
 have hsz:s.size≤1000000:=by rw [←hs]; exact hasS_size _
 refine contG_bool (fun h1=>?_) (fun h1=>?_)<;>(try simp only [Bool.not_eq_true',Bool.not_eq_false',decide_eq_true_eq,decide_eq_false_iff_not] at h1)
 ·simp [h1]
  refine (rDay_con _ _).go ?_
  simp
  generalize hH1:GH.push (GH.push H _) _=H1
  have k0:H1.get H.next=some (.arr { cells:=bookC l b,ty:=28 }):=by subst hH1; simp
  have k1:H1.get (H.next+1)=some (.arr { cells:=encEv x,ty:=54 }):=by subst hH1; simp
  have hsub:Sub H H1:=by subst hH1; exact (Sub.push (.refl H) _).push _
  clear hH1
  refine wpB_bool (fun h2=>?_) (fun h2=>?_)<;>(try simp only [Bool.not_eq_true',Bool.not_eq_false'] at h2)
  ·have hF:evRef b x=false:=by simp [evRef,hs,h1,h2]
   simp [hF]
   exact hsub
  refine wp_mid (fun ρ m H'=>ρ 2=.pointer (some (ga H.next 0 0))∧ρ 3=.pointer (some (ga (H.next+1) 0 0))∧ρ 5=.string s∧ρ 6=.bool (fieldB s 112 (isPersonI b x.person) x.person)∧m= []∧H'=H1) ?_ ?_
  ·have hf:fieldB s 112 (isPersonI b x.person) x.person=(withB s 112&&isPersonI b x.person|| !withB s 112&&decide (x.person=0)):=rfl
   cases hw:withB s 112<;>cases hp:isPersonI b x.person<;>simp only [hw,hp] at hf<;>simp [*]
   repeat' (first
    |(with_reducible refine (with_con s hsz _ _).go ?_; simp [*])
    |(with_reducible refine (rPerson_con l b _ _).go ?_; simp [*])
    |(with_reducible refine (restate_con _ _).go ?_; simp [*])
    |(with_reducible refine (rGrant_con _ _).go ?_; simp [*])
    |(with_reducible refine (r3System_con _ _).go ?_; simp [*])
    |(with_reducible refine (runits_con _ _).go ?_; simp [*]))
  rintro ρ m H1 ⟨e2,e3,e5,e6,rfl,rfl⟩
  refine wp_mid (fun ρ m H'=>ρ 2=.pointer (some (ga H.next 0 0))∧ρ 3=.pointer (some (ga (H.next+1) 0 0))∧ρ 5=.string s∧ρ 6=.bool (fieldB s 112 (isPersonI b x.person) x.person)∧ρ 7=.bool (withB s 111&&isPersonI b x.other||(withB s 102&&isEstateI x.other||(!withB s 111&&(!withB s 102&&decide (x.other=0)))))∧m= []∧H'=H1) ?_ ?_
  ·cases hw:withB s 111<;>cases hw2:withB s 102<;>cases hp:isPersonI b x.other<;>cases hp2:isEstateI x.other<;>simp [*]
   repeat' (first
    |(with_reducible refine (with_con s hsz _ _).go ?_; simp [*])
    |(with_reducible refine (rPerson_con l b _ _).go ?_; simp [*])
    |(with_reducible refine (restate_con _ _).go ?_; simp [*])
    |(with_reducible refine (rGrant_con _ _).go ?_; simp [*])
    |(with_reducible refine (r3System_con _ _).go ?_; simp [*])
    |(with_reducible refine (runits_con _ _).go ?_; simp [*]))
  rintro ρ m H1 ⟨e2,e3,e5,e6,e7,rfl,rfl⟩
  refine wp_mid (fun ρ m H'=>ρ 2=.pointer (some (ga H.next 0 0))∧ρ 3=.pointer (some (ga (H.next+1) 0 0))∧ρ 5=.string s∧ρ 6=.bool (fieldB s 112 (isPersonI b x.person) x.person)∧ρ 7=.bool (withB s 111&&isPersonI b x.other||(withB s 102&&isEstateI x.other||(!withB s 111&&(!withB s 102&&decide (x.other=0)))))∧ρ 8=.bool (fieldB s 101 (isEstateI x.estate) x.estate)∧m= []∧H'=H1) ?_ ?_
  ·have hf:fieldB s 101 (isEstateI x.estate) x.estate=(withB s 101&&isEstateI x.estate|| !withB s 101&&decide (x.estate=0)):=rfl
   cases hw:withB s 101<;>cases hp:isEstateI x.estate<;>simp only [hw,hp] at hf<;>simp [*]
   repeat' (first
    |(with_reducible refine (with_con s hsz _ _).go ?_; simp [*])
    |(with_reducible refine (rPerson_con l b _ _).go ?_; simp [*])
    |(with_reducible refine (restate_con _ _).go ?_; simp [*])
    |(with_reducible refine (rGrant_con _ _).go ?_; simp [*])
    |(with_reducible refine (r3System_con _ _).go ?_; simp [*])
    |(with_reducible refine (runits_con _ _).go ?_; simp [*]))
  rintro ρ m H1 ⟨e2,e3,e5,e6,e7,e8,rfl,rfl⟩
  refine wp_mid (fun ρ m H'=>ρ 2=.pointer (some (ga H.next 0 0))∧ρ 3=.pointer (some (ga (H.next+1) 0 0))∧ρ 5=.string s∧ρ 6=.bool (fieldB s 112 (isPersonI b x.person) x.person)∧ρ 7=.bool (withB s 111&&isPersonI b x.other||(withB s 102&&isEstateI x.other||(!withB s 111&&(!withB s 102&&decide (x.other=0)))))∧ρ 8=.bool (fieldB s 101 (isEstateI x.estate) x.estate)∧ρ 9=.bool (fieldB s 103 (isGrantI x.grant) x.grant)∧m= []∧H'=H1) ?_ ?_
  ·have hf:fieldB s 103 (isGrantI x.grant) x.grant=(withB s 103&&isGrantI x.grant|| !withB s 103&&decide (x.grant=0)):=rfl
   cases hw:withB s 103<;>cases hp:isGrantI x.grant<;>simp only [hw,hp] at hf<;>simp [*]
   repeat' (first
    |(with_reducible refine (with_con s hsz _ _).go ?_; simp [*])
    |(with_reducible refine (rPerson_con l b _ _).go ?_; simp [*])
    |(with_reducible refine (restate_con _ _).go ?_; simp [*])
    |(with_reducible refine (rGrant_con _ _).go ?_; simp [*])
    |(with_reducible refine (r3System_con _ _).go ?_; simp [*])
    |(with_reducible refine (runits_con _ _).go ?_; simp [*]))
  rintro ρ m H1 ⟨e2,e3,e5,e6,e7,e8,e9,rfl,rfl⟩
  refine wp_mid (fun ρ m H'=>ρ 2=.pointer (some (ga H.next 0 0))∧ρ 3=.pointer (some (ga (H.next+1) 0 0))∧ρ 5=.string s∧ρ 6=.bool (fieldB s 112 (isPersonI b x.person) x.person)∧ρ 7=.bool (withB s 111&&isPersonI b x.other||(withB s 102&&isEstateI x.other||(!withB s 111&&(!withB s 102&&decide (x.other=0)))))∧ρ 8=.bool (fieldB s 101 (isEstateI x.estate) x.estate)∧ρ 9=.bool (fieldB s 103 (isGrantI x.grant) x.grant)∧ρ 10=.bool (fieldB s 115 (isSystemI x.system) x.system)∧m= []∧H'=H1) ?_ ?_
  ·have hf:fieldB s 115 (isSystemI x.system) x.system=(withB s 115&&isSystemI x.system|| !withB s 115&&decide (x.system=0)):=rfl
   cases hw:withB s 115<;>cases hp:isSystemI x.system<;>simp only [hw,hp] at hf<;>simp [*]
   repeat' (first
    |(with_reducible refine (with_con s hsz _ _).go ?_; simp [*])
    |(with_reducible refine (rPerson_con l b _ _).go ?_; simp [*])
    |(with_reducible refine (restate_con _ _).go ?_; simp [*])
    |(with_reducible refine (rGrant_con _ _).go ?_; simp [*])
    |(with_reducible refine (r3System_con _ _).go ?_; simp [*])
    |(with_reducible refine (runits_con _ _).go ?_; simp [*]))
  rintro ρ m H1 ⟨e2,e3,e5,e6,e7,e8,e9,e10,rfl,rfl⟩
  refine wp_mid (fun ρ m H'=>ρ 2=.pointer (some (ga H.next 0 0))∧ρ 3=.pointer (some (ga (H.next+1) 0 0))∧ρ 5=.string s∧ρ 6=.bool (fieldB s 112 (isPersonI b x.person) x.person)∧ρ 7=.bool (withB s 111&&isPersonI b x.other||(withB s 102&&isEstateI x.other||(!withB s 111&&(!withB s 102&&decide (x.other=0)))))∧ρ 8=.bool (fieldB s 101 (isEstateI x.estate) x.estate)∧ρ 9=.bool (fieldB s 103 (isGrantI x.grant) x.grant)∧ρ 10=.bool (fieldB s 115 (isSystemI x.system) x.system)∧ρ 11=.bool (fieldB s 117 (isUnitsI x.units) x.units)∧m= []∧H'=H1) ?_ ?_
  ·have hf:fieldB s 117 (isUnitsI x.units) x.units=(withB s 117&&isUnitsI x.units|| !withB s 117&&decide (x.units=0)):=rfl
   cases hw:withB s 117<;>cases hp:isUnitsI x.units<;>simp only [hw,hp] at hf<;>simp [*]
   repeat' (first
    |(with_reducible refine (with_con s hsz _ _).go ?_; simp [*])
    |(with_reducible refine (rPerson_con l b _ _).go ?_; simp [*])
    |(with_reducible refine (restate_con _ _).go ?_; simp [*])
    |(with_reducible refine (rGrant_con _ _).go ?_; simp [*])
    |(with_reducible refine (r3System_con _ _).go ?_; simp [*])
    |(with_reducible refine (runits_con _ _).go ?_; simp [*]))
  rintro ρ m H1 ⟨e2,e3,e5,e6,e7,e8,e9,e10,e11,rfl,rfl⟩
  have hev:evRef b x=(fieldB s 112 (isPersonI b x.person) x.person&&((withB s 111&&isPersonI b x.other||(withB s 102&&isEstateI x.other||(!withB s 111&&(!withB s 102&&decide (x.other=0)))))&&(fieldB s 101 (isEstateI x.estate) x.estate&&(fieldB s 103 (isGrantI x.grant) x.grant&&(fieldB s 115 (isSystemI x.system) x.system&&fieldB s 117 (isUnitsI x.units) x.units))))):=by
   simp [evRef,hs,h1,h2]
  rw [hev]
  generalize fieldB s 112 (isPersonI b x.person) x.person=a1 at e6 ⊢
  generalize (withB s 111&&isPersonI b x.other||(withB s 102&&isEstateI x.other||(!withB s 111&&(!withB s 102&&decide (x.other=0)))))=a2 at e7 ⊢
  generalize fieldB s 101 (isEstateI x.estate) x.estate=a3 at e8 ⊢
  generalize fieldB s 103 (isGrantI x.grant) x.grant=a4 at e9 ⊢
  generalize fieldB s 115 (isSystemI x.system) x.system=a5 at e10 ⊢
  generalize fieldB s 117 (isUnitsI x.units) x.units=a6 at e11 ⊢
  cases a1<;>cases a2<;>cases a3<;>cases a4<;>cases a5<;>simp [*]
 ·have hF:evRef b x=false:=by simp [evRef,hs,h1]
  simp [h1,hF]
theorem evRef_eq (b:Book) (x:Ev):evRef b x=isEventB b x:=by
 by_cases hk:x.kind<1∨8<x.kind
 ·have e1:evRef b x=false:=by simp [evRef,has_none hk]
  have e2:isEventB b x=false:=by
   unfold isEventB
   repeat rw [if_neg (by omega)]
   simp
  rw [e1,e2]
 ·have:x.kind=1∨x.kind=2∨x.kind=3∨x.kind=4∨x.kind=5∨x.kind=6∨x.kind=7∨x.kind=8:=by omega
  unfold evRef isEventB
  rcases this with h|h|h|h|h|h|h|h<;>rw [h]<;>simp [hasS,fieldB,withB,emptyB,Bool.and_assoc]
  all_goals ac_rfl
end Go.Gm.Tryz
end
section
namespace Go.Gm.Tryz
open Go.Proofs
theorem r3Table_con (l:TLoc) (t:Tbl) (H:GH) (ht:TblIn H l t) (hl:t.rows.length≤1000000):C 14 [tblV l t] H (.bool (isTableB t)) H:=by
 rcases l with ⟨⟨ra,rf⟩⟩
 refine con_wp tok mix fok14 (F:=g14) (c:=_) rfl (n:=42) rfl (rs:= [.tmp 2]) rfl (anch_closed rfl) ?_
 simp
 generalize hH1:GH.push H _=H1
 have k0:H1.get H.next=some (.arr { cells:= [.slice ra t.rows.length rf,vi t.draw],ty:=24 }):=by subst hH1; simp
 have hsub:Sub H H1:=by subst hH1; exact Sub.push (.refl H) _
 have hn1:H.next<H1.next:=by subst hH1; simp
 have ht1:=ht.mono hsub
 clear hH1
 refine wp_up tok mix (by kernel_rfl) t.rows.length (fun i ρ m H'=>ρ 1=.pointer (some (ga H.next 0 0))∧ρ 3=vi i∧m= []∧Sub H1 H'∧∀j (h:j<t.rows.length),j<i→rowBad t.rows[j]=false) (i0:=0) (by omega) (by simp) ?_
 rintro i ρ m H' hi ⟨e1,e3,rfl,hs,hj⟩
 have hg:=hs.2 H.next hn1
 rw [k0] at hg
 have hn:H.next<H'.next:=by have:=hs.1; omega
 simp [e1,e3,hg]
 refine wpB_dec (fun hlt=>?_) (fun hge=>?_)
 ·obtain ⟨a,ha,hal,hrd⟩:=(ht1.mono hs).at i hlt
  simp only at ha
  subst ha
  simp (disch:=omega) [e1,e3,hg,hlt,hrd]
  refine (r3in_con _ _ _ _).go ?_
  simp
  have hlater:∀j (h:j<t.rows.length),rowBad t.rows[i]=false→j<i+1→rowBad t.rows[j]=false:=fun j h hb hji=>by
   by_cases hq:j=i
   ·subst hq; exact hb
   ·exact hj j h (by omega)
  have hbadT:rowBad t.rows[i]=true→isTableB t=false:=fun hb=>by
   have:t.rows.any rowBad=true:=List.any_eq_true.2 ⟨_,List.getElem_mem hlt,hb⟩
   simp [isTableB,this]
  cases q1:inI t.rows[i].first 1 60
  ·rw [hbadT (by simp [rowBad,q1])]
   simp
   exact hsub.trans ((hs.push _).put hs.1 _)
  simp (disch:=omega)
  refine (r3in_con _ _ _ _).go ?_
  simp
  cases q2:inI t.rows[i].second 1 60
  ·rw [hbadT (by simp [rowBad,q2])]
   simp
   exact hsub.trans ((hs.push _).put hs.1 _)
  simp (disch:=omega)
  refine (r3in_con _ _ _ _).go ?_
  simp
  cases q3:inI t.rows[i].gives 1 1000
  ·rw [hbadT (by simp [rowBad,q3])]
   simp
   exact hsub.trans ((hs.push _).put hs.1 _)
  simp (disch:=omega) [e1,e3,wrap64]
  exact ⟨(hs.push _).put hs.1 _,fun j h hji=>hlater j h (by simp [rowBad,q1,q2,q3]) hji⟩
 ·have hnb:t.rows.any rowBad=false:=by
   rw [List.any_eq_false]
   intro x hx
   obtain ⟨j,hjl,rfl⟩:=List.mem_iff_getElem.1 hx
   rw [hj j hjl (by omega)]; simp
  simp [e1,hg]
  refine (r3in_con _ _ _ _).go ?_
  simp
  cases q1:inI (t.rows.length:Int) 1 12
  ·simp [isTableB,q1]
   exact hsub.trans hs
  simp [e1,hg]
  refine (r3in_con _ _ _ _).go ?_
  simp [isTableB,q1,hnb]
  exact hsub.trans hs
theorem rBook_con (l:BLoc) (b:Book) (H:GH) (hb:BookIn H l b) (hl:b.tbl.rows.length≤1000000):C 4 [bookV l b] H (.bool (isBookB b)) H:=by
 rcases l with ⟨⟨⟨ra,rf⟩⟩,⟨oa,of'⟩,⟨va,vf⟩⟩
 refine con_wp tok mix fok4 (F:=g4) (c:=_) rfl (n:=89) rfl (rs:= [.tmp 2]) rfl (anch_closed rfl) ?_
 simp
 generalize hH1:GH.push H _=H1
 have hs1:Sub H H1:=by subst hH1; exact Sub.push (.refl H) _
 have hg1:H1.get H.next=some (.arr { cells:=bookC ⟨⟨⟨ra,rf⟩⟩,⟨oa,of'⟩,⟨va,vf⟩⟩ b,ty:=28 }):=by subst hH1; simp
 have hn1:H.next<H1.next:=by subst hH1; simp
 have hb1:=hb.mono hs1
 clear hH1
 have hst:∀H',Sub H1 H'→Sub H H':=fun H' h=>hs1.trans h
 with_reducible refine (r3Table_con ⟨⟨_,_⟩⟩ b.tbl _ hb1.t hl).go ?_
 simp
 cases ht:isTableB b.tbl
 case false=>simp [isBookB,ht]; exact hs1
 simp [hg1]
 with_reducible refine (rin_con _ _ _ _).go ?_
 simp
 cases h1:inI b.supply 0 10000
 case false=>simp [h1,isBookB]; exact hs1
 simp [hg1]
 with_reducible refine (rin_con _ _ _ _).go ?_
 simp
 cases h2:inI b.term 0 1000
 case false=>simp [h2,isBookB]; exact hs1
 simp [hg1]
 with_reducible refine (rin_con _ _ _ _).go ?_
 simp
 cases h3:inI b.persons 1 8
 case false=>simp [h3,isBookB]; exact hs1
 simp [hg1]
 refine contG_bool (fun h4=>?_) (fun h4=>?_)<;>(try simp only [Bool.not_eq_true',Bool.not_eq_false',decide_eq_true_eq,decide_eq_false_iff_not] at h4)
 case refine_2=>
  have:¬b.owners.length≤6:=by omega
  simp [h4,isBookB,this]; exact hs1
 simp [h4,hg1]
 refine wpB_bool (fun h5=>?_) (fun h5=>?_)<;>(try simp only [decide_eq_true_eq,decide_eq_false_iff_not] at h5)
 ·have:¬b.events.length≤12:=by omega
  simp [h5,isBookB,this]; exact hs1
 simp [h5]
 refine wp_up tok mix (by kernel_rfl) b.owners.length (fun i ρ m H'=>ρ 1=.pointer (some (ga H.next 0 0))∧ρ 3=vi i∧m= []∧H'=H1∧∀j (h:j<b.owners.length),j<i→isPersonI b b.owners[j]=true) (i0:=0) (by omega) (by simp) ?_
 rintro i ρ m H1 hi ⟨e1,e3,rfl,rfl,hj⟩
 simp [e1,e3,hg1]
 refine wpB_dec (fun hlt=>?_) (fun hge=>?_)
 ·obtain ⟨a,ha,hal,hrd⟩:=hb1.owners.at i hlt
  simp only at ha
  subst ha
  simp (disch:=omega) [e1,e3,hg1,hlt,hrd]
  with_reducible refine (rPerson_con ⟨⟨⟨_,_⟩⟩,⟨_,_⟩,⟨_,_⟩⟩ b b.owners[i] _).go ?_
  simp (disch:=omega)
  cases hp:isPersonI b b.owners[i]
  ·have hF:isBookB b=false:=by
    have:b.owners.any (fun n=> !isPersonI b n)=true:=List.any_eq_true.2 ⟨_,List.getElem_mem hlt,by simp [hp]⟩
    simp [isBookB,this]
   simp [hF]; exact hs1
  ·simp (disch:=omega) [e1,e3,wrap64]
   intro j h hji
   by_cases hq:j=i
   ·subst hq; exact hp
   ·exact hj j h (by omega)
 have hown:b.owners.any (fun n=> !isPersonI b n)=false:=by
  rw [List.any_eq_false]
  intro x hx
  obtain ⟨j,hjl,rfl⟩:=List.mem_iff_getElem.1 hx
  rw [hj j hjl (by omega)]; simp
 clear hj
 simp
 refine wp_up tok mix (by kernel_rfl) b.events.length (fun i ρ m H'=>ρ 1=.pointer (some (ga H.next 0 0))∧ρ 4=vi i∧m= []∧H'=H1∧∀j,j<i→badAt b j=false) (i0:=0) (by omega) (by simp [e1]) ?_
 rintro i ρ m H1 hi ⟨e1,e4,rfl,rfl,hj⟩
 simp [e1,e4,hg1]
 refine wpB_dec (fun hlt=>?_) (fun hge=>?_)
 case refine_2=>
  have h6:b.owners.length≤6:=by omega
  have h7:b.events.length≤12:=by omega
  have h8:(List.range b.events.length).all (fun i=> !badAt b i)=true:=by
   rw [List.all_eq_true]
   intro j hjm
   rw [hj j (by have:=List.mem_range.1 hjm; omega)]; rfl
  simp [isBookB,ht,h1,h2,h3,h6,h7,h8,hown]
  exact hs1
 have hbadF:badAt b i=true→isBookB b=false:=fun hb=>by
  have:(List.range b.events.length).all (fun i=> !badAt b i)=false:=by
   rw [List.all_eq_false]
   exact ⟨i,List.mem_range.2 hlt,by simp [hb]⟩
  simp [isBookB,this]
 have hnext:badAt b i=false→∀j,j<i+1→badAt b j=false:=fun hb j hji=>by
  by_cases hq:j=i
  ·subst hq; exact hb
  ·exact hj j (by omega)
 have hbad:badAt b i=(!isEventB b b.events[i]||(decide (0<i)&&decide (b.events[i].day<(b.events.getD (i - 1) default).day))):=by
  unfold badAt
  rw [getD_at hlt]
 obtain ⟨a,ha,hal,hrd⟩:=hb1.events.at i hlt
 simp only at ha
 subst ha
 simp (disch:=omega) [e1,e4,hg1,hlt,hrd]
 with_reducible refine (rEvent_con ⟨⟨⟨_,_⟩⟩,⟨_,_⟩,⟨_,_⟩⟩ b b.events[i] _).go ?_
 rw [evRef_eq]
 simp (disch:=omega)
 cases hev:isEventB b b.events[i]
 ·rw [hbadF (by rw [hbad,hev]; rfl)]
  simp; exact hs1
 simp (disch:=omega) [e4]
 refine planG_bool (fun h6=>?_) (fun h6=>?_)<;>(try simp only [decide_eq_true_eq,decide_eq_false_iff_not] at h6)
 ·have hi0:0<i:=by omega
  obtain ⟨a',ha',_,hr'⟩:=hb1.events.at (i - 1) (by omega)
  simp only at ha'
  cases ha'
  have e9:((i:Int) - 1).toNat=i - 1:=by omega
  have hgd:b.events[i - 1]=b.events.getD (i - 1) default:=(getD_at (by omega)).symm
  simp (disch:=omega) [e1,e4,hg1,hrd,wrap64,e9,hr',h6]
  refine wpB_bool (fun h7=>?_) (fun h7=>?_)<;>(try simp only [decide_eq_true_eq,decide_eq_false_iff_not] at h7)
  ·rw [hbadF (by rw [hbad,hev,←hgd]; simp [hi0,h7])]
   simp; exact hs1
  ·simp (disch:=omega) [e1,e4,wrap64]
   exact hnext (by rw [hbad,hev,←hgd]; simp [h7])
 ·simp (disch:=omega) [e1,e4,h6,wrap64]
  exact hnext (by rw [hbad,hev]; simp [h6])
def shortB (b:Book):Bool:=decide (b.tbl.rows.length≤15)&&(decide (b.owners.length≤8)&&(decide (b.events.length≤14)&&(decide (b.tbl.rows.length≤4)|| !isTableB b.tbl)))
end Go.Gm.Tryz
end
section
namespace Go.Gm.Tryz
open Go.Proofs
theorem book_days {x:Book} (h:isBookB x=true):∀e∈x.events,e.day≤36500:=by
 intro e he
 obtain ⟨i,hi,rfl⟩:=List.mem_iff_getElem.1 he
 unfold isBookB at h
 simp only [Bool.and_eq_true,List.all_eq_true,List.mem_range] at h
 have h1:=h.1.2 i hi
 unfold badAt at h1
 rw [getD_at hi] at h1
 simp at h1
 have h2:=h1.1
 unfold isEventB at h2
 simp [isDayI,inI] at h2
 omega
end Go.Gm.Tryz
end
section
namespace Go.Gm.Tryz
open Go.Proofs
structure Agr (N:Nat) (b c:Book):Prop where
 tbl:b.tbl=c.tbl
 sup:b.supply=c.supply
 term:b.term=c.term
 per:b.persons=c.persons
 own:b.owners=c.owners
 ev:∀n:Int,n.toNat<N→evAt b n=evAt c n
def LtW (N:Nat) (s:Stand):Prop:=∀w∈s.waits,w.toNat<N
theorem freeI_agr {N:Nat} {b c:Book} (h:Agr N b c) (s:Stand):freeI b s=freeI c s:=by
 have e:freeStep b=freeStep c:=by funext n g; simp [freeStep,h.tbl]
 simp [freeI,e,h.sup]
theorem serveS_agr {N:Nat} {b c:Book} (h:Agr N b c):∀ {n:Nat} {s:Stand},LtW N s→serveS b n s=serveS c n s∧LtW N (serveS b n s):=by
 intro n
 induction n with
 |zero=>intro s hs; exact ⟨rfl,hs⟩
 |succ n ih=>
  intro s hs
  simp only [serveS]
  cases hw:s.waits with
  |nil=>exact ⟨rfl,hs⟩
  |cons w ws=>
   have hN:w.toNat<N:=hs w (by rw [hw]; simp)
   simp only [←h.ev w hN,freeI_agr h,h.tbl]
   split
   ·exact ⟨rfl,hs⟩
   ·refine ih fun v hv=>hs v ?_
    rw [hw]
    exact List.mem_cons_of_mem _ hv
theorem serve_agr {N:Nat} {b c:Book} (h:Agr N b c) {s:Stand} (hs:LtW N s):serve b s=serve c s∧LtW N (serve b s):=serveS_agr h hs
theorem endS_agr {N:Nat} {b c:Book} (h:Agr N b c) {s:Stand} (hs:LtW N s) (g:Nat) (d:Int):endS b s g d=endS c s g d∧LtW N (endS b s g d):=serve_agr h (s:=endG s g d) hs
theorem passS_agr {N:Nat} {b c:Book} (h:Agr N b c) {d:Int}:∀ {n:Nat} {s:Stand},LtW N s→passS b d n s=passS c d n s∧LtW N (passS b d n s):=by
 intro n
 induction n with
 |zero=>intro s hs; exact ⟨rfl,hs⟩
 |succ n ih=>
  intro s hs
  simp only [passS]
  split
  ·exact ⟨rfl,hs⟩
  ·obtain ⟨e1,e2⟩:=endS_agr h hs (findAt s d).toNat (IntKind.i64.wrap (lastAt s (findAt s d)+1))
   rw [←e1]
   exact ih e2
theorem pass_agr {N:Nat} {b c:Book} (h:Agr N b c) {s:Stand} (hs:LtW N s) (d:Int):pass b s d=pass c s d∧LtW N (pass b s d):=passS_agr h hs
theorem foldl_agr {α:Type} {P:Stand→Prop} {f g:Stand→α→Stand} (hf:∀s x,P s→f s x=g s x∧P (f s x)):∀(l:List α) {s:Stand},P s→l.foldl f s=l.foldl g s∧P (l.foldl f s):=by
 intro l
 induction l with
 |nil=>intro s hs; exact ⟨rfl,hs⟩
 |cons x l ih=>
  intro s hs
  obtain ⟨e1,e2⟩:=hf s x hs
  simp only [List.foldl_cons,←e1]
  exact ih e2
theorem fitsB_agr {N:Nat} {b c:Book} (h:Agr N b c) (s:Stand) (e:Ev):fitsB b s e=fitsB c s e:=by simp [fitsB,h.tbl,freeI_agr h]
theorem goesB_agr {N:Nat} {b c:Book} (h:Agr N b c) (s:Stand) (e:Ev):goesB b s e=goesB c s e:=by
 simp [goesB,fitsB_agr h,divB,partB,h.tbl,freeI_agr h]
theorem dieB_waits (s:Stand) (e:Ev):(dieB s e).waits=s.waits:=by
 have:∀(l:List Nat) (t:Stand),(l.foldl (ownStep e) t).waits=t.waits:=by
  intro l
  induction l with
  |nil=>intro t; rfl
  |cons x l ih=>
   intro t
   rw [List.foldl_cons,ih]
   unfold ownStep
   split<;>rfl
 exact this _ _
theorem dieS_agr {N:Nat} {b c:Book} (h:Agr N b c) {s:Stand} (hs:LtW N s) (e:Ev):dieS b s e=dieS c s e∧LtW N (dieS b s e):=by
 have h1:LtW N (dieB (dieA s e) e):=fun w hw=>by rw [dieB_waits] at hw; exact hs w hw
 have h2:dieC b (dieB (dieA s e) e) e=dieC c (dieB (dieA s e) e) e:=by
  unfold dieC
  congr 1
  apply List.filter_congr
  intro w hw
  simp [notOf,h.ev w (h1 w hw)]
 have h3:LtW N (dieC b (dieB (dieA s e) e) e):=fun w hw=>h1 w ((List.mem_filter.1 hw).1)
 obtain ⟨h4,h5⟩:=foldl_agr (P:=LtW N) (f:=endStep b e) (g:=endStep c e) (fun t i ht=>by
  unfold endStep
  split
  ·exact endS_agr h ht _ _
  ·exact ⟨rfl,ht⟩) (List.range (dieC b (dieB (dieA s e) e) e).grants.length) h3
 have h6:∀t i,heirStep b e t i=heirStep c e t i∧(LtW N t→LtW N (heirStep b e t i)):=fun t i=>by
  unfold heirStep
  rw [h.term]
  refine ⟨rfl,fun ht=>?_⟩
  split
  ·exact ht
  ·exact ht
 unfold dieS dieE dieD
 rw [←h2,←h4]
 exact foldl_agr (P:=LtW N) (fun t i ht=>⟨(h6 t i).1,(h6 t i).2 ht⟩) _ h5
theorem doS_agr {N:Nat} {b c:Book} (h:Agr N b c) {s:Stand} (hs:LtW N s) (e:Ev) {n:Nat} (hn:n<N):doS b s e n=doS c s e n∧LtW N (doS b s e n):=by
 unfold doS
 repeat' split
 ·exact ⟨rfl,hs⟩
 ·exact ⟨rfl,hs⟩
 ·exact dieS_agr h hs e
 ·exact ⟨rfl,hs⟩
 ·exact ⟨rfl,hs⟩
 ·exact ⟨rfl,hs⟩
 ·exact ⟨rfl,hs⟩
 ·refine ⟨rfl,fun w hw=>?_⟩
  simp only [askS,List.mem_append,List.mem_singleton] at hw
  rcases hw with hw|rfl
  ·exact hs w hw
  ·simpa using hn
def runS (b:Book):List Ev→Nat→Stand→Nat⊕Stand
 | [],_,s=>.inr s
 |e::es,n,s=>if goesB b (pass b s e.day) e then runS b es (n+1) (serve b (doS b (pass b s e.day) e n)) else .inl n
theorem runS_agr {N:Nat} {b c:Book} (h:Agr N b c):∀ {es:List Ev} {n:Nat} {s:Stand},LtW N s→n+es.length≤N→runS b es n s=runS c es n s∧∀t,runS b es n s=.inr t→LtW N t:=by
 intro es
 induction es with
 |nil=>intro n s hs _; exact ⟨rfl,fun t ht=>by cases ht; exact hs⟩
 |cons e es ih=>
  intro n s hs hn
  simp only [List.length_cons] at hn
  obtain ⟨e1,e2⟩:=pass_agr h hs e.day
  obtain ⟨e3,e4⟩:=doS_agr h e2 e (n:=n) (by omega)
  obtain ⟨e5,e6⟩:=serve_agr h e4
  simp only [runS,←e1,←goesB_agr h,←e3,←e5]
  split
  ·exact ih e6 (by omega)
  ·exact ⟨rfl,fun t ht=>by cases ht⟩
theorem upFrom_run {b:Book} {d:Int}:∀ {es:List Ev} {n:Nat} {s:Stand},(∀e∈es,e.day≤d)→upFrom b d es n s=match runS b es n s with| .inl k=>.inl k| .inr t=>.inr (pass b t d):=by
 intro es
 induction es with
 |nil=>intro n s _; rfl
 |cons e es ih=>
  intro n s hd
  have h1:¬e.day>d:=by have:=hd e (by simp); omega
  simp only [upFrom,runS,if_neg h1]
  split
  ·exact ih fun x hx=>hd x (by simp [hx])
  ·rfl
theorem runS_append {b:Book}:∀ {es fs:List Ev} {n:Nat} {s:Stand},runS b (es++fs) n s=match runS b es n s with| .inl k=>.inl k| .inr t=>runS b fs (n+es.length) t:=by
 intro es
 induction es with
 |nil=>intro fs n s; rfl
 |cons e es ih=>
  intro fs n s
  simp only [List.cons_append,runS]
  split
  ·rw [ih]
   simp only [List.length_cons]
   rw [show n+1+es.length=n+(es.length+1) by omega]
  ·rfl
theorem runS_inl {b:Book}:∀ {es:List Ev} {n:Nat} {s:Stand} {k:Nat},runS b es n s=.inl k→n≤k∧k<n+es.length:=by
 intro es
 induction es with
 |nil=>intro n s k h; cases h
 |cons e es ih=>
  intro n s k h
  simp only [runS] at h
  simp only [List.length_cons]
  split at h
  ·have:=ih h; omega
  ·cases h; omega
theorem wrong_run {b:Book} (hB:isBookB b=true):wrongO b=match runS b b.events 0 (start b) with| .inl k=>some (k:Int)| .inr _=>none:=by
 unfold wrongO upS
 rw [upFrom_run (book_days hB)]
 cases runS b b.events 0 (start b)<;>rfl
theorem until_agr (b:Book) (many:Nat) (_hm:many≤b.events.length):Agr many b { b with events:=b.events.take many }:=by
 refine ⟨rfl,rfl,rfl,rfl,rfl,fun n hn=>?_⟩
 unfold evAt
 rw [List.getD_eq_getElem?_getD,List.getD_eq_getElem?_getD]
 simp only
 rw [List.getElem?_take,if_pos hn]
theorem until_book {b:Book} (hB:isBookB b=true) (many:Nat):isBookB { b with events:=b.events.take many }=true:=by
 have hB':=hB
 simp only [isBookB,Bool.and_eq_true] at hB ⊢
 obtain ⟨⟨⟨⟨⟨⟨⟨h1,h2⟩,h3⟩,h4⟩,h5⟩,h6⟩,h7⟩,h8⟩:=hB
 simp only [decide_eq_true_eq] at h5 h6
 refine ⟨⟨⟨⟨⟨⟨⟨h1,h2⟩,h3⟩,h4⟩,by simpa using h5⟩,by simp; omega⟩,?_⟩,h8⟩
 rw [List.all_eq_true] at h7 ⊢
 intro i hi
 have hi':=List.mem_range.1 hi
 simp only [List.length_take] at hi'
 have h9:=h7 i (List.mem_range.2 (by omega))
 have g1:∀j,j<many→(b.events.take many).getD j default=b.events.getD j default:=fun j hj=>by
  rw [List.getD_eq_getElem?_getD,List.getD_eq_getElem?_getD,List.getElem?_take,if_pos hj]
 unfold badAt at h9 ⊢
 simp only [g1 i (by omega),g1 (i - 1) (by omega)]
 exact h9
theorem LtW_start (b:Book) (N:Nat):LtW N (start b):=fun w hw=>by simp [start] at hw
theorem first_plain {b:Book} (hB:isBookB b=true) {many:Nat} (hm:many≤b.events.length):
  wrongO { b with events:=b.events.take many }=match wrongO b with|some n=>if many≤n then none else some n|none=>none:=by
 have hA:=until_agr b many hm
 rw [wrong_run (until_book hB many),wrong_run hB]
 have hl:(b.events.take many).length=many:=by simp; omega
 obtain ⟨e1,e2⟩:=runS_agr hA (es:=b.events.take many) (n:=0) (LtW_start b many) (by rw [hl]; omega)
 have e3:runS b b.events 0 (start b)=match runS b (b.events.take many) 0 (start b) with| .inl k=>.inl k| .inr t=>runS b (b.events.drop many) (0+(b.events.take many).length) t:=by
  rw [←runS_append,List.take_append_drop]
 have e4:start { b with events:=b.events.take many }=start b:=rfl
 rw [e4,←e1,e3]
 cases h:runS b (b.events.take many) 0 (start b) with
 |inl k=>
  have:=(runS_inl h).2
  simp only
  rw [if_neg (by omega)]
 |inr t=>
  simp only
  cases h2:runS b (b.events.drop many) (0+(b.events.take many).length) t with
  |inl k=>
   have:=(runS_inl h2).1
   simp only
   rw [if_pos (by omega)]
  |inr _=>rfl
theorem wrongO_nonneg {b:Book} {n:Int} (h:wrongO b=some n):0≤n:=by
 unfold wrongO at h
 split at h
 ·cases h; omega
 ·cases h
end Go.Gm.Tryz
end
section
namespace Go.Gm.Tryz
open Go.Proofs
def SlOk (s:SLoc) (sz:Nat):Prop:=(s.a=none∧s.fl=0)∨∃a,s.a=some a∧s.fl=sz
theorem wrongR_ok {b:Book} (hB:isBookB b=true):wrongR b=match wrongO b with|some n=>(n,0)|none=>(0,5):=by unfold wrongR; rw [if_pos hB] <;> rfl
end Go.Gm.Tryz
end
section
namespace Go.Gm.Tryz
open Go.Proofs Go.Proofs.YtccimeehmeibfaaGreat
theorem own:ownKnob Tryz.prog.godebug=none:=by kernel_rfl
theorem laidOut:laidOutB Tryz.prog=true:=by kernel_rfl
theorem and_tt {a b:Bool} (h:a=true) (k:b=true):(a&&b)=true:=by rw [h,k]; rfl
abbrev dI:DT:=.int .i64
def dRow:DT:=.struct (.cons dI (.cons dI (.cons dI .nil)))
def dTbl:DT:=.struct (.cons (.slice dRow) (.cons dI .nil))
def dEv:DT:=.struct (.cons dI (.cons dI (.cons dI (.cons dI (.cons dI (.cons dI (.cons dI (.cons dI .nil))))))))
def dBook:DT:=.struct (.cons dTbl (.cons dI (.cons dI (.cons dI (.cons (.slice dI) (.cons (.slice dEv) .nil))))))
theorem fitI:Fit Tryz.prog dI 3:=.int Tryz.underlying3
theorem fitRow:Fit Tryz.prog dRow 116:=.struct Tryz.underlying116 (by kernel_rfl) (.cons rfl (by kernel_rfl) fitI (.cons rfl (by kernel_rfl) fitI (.cons rfl (by kernel_rfl) fitI .nil)))
theorem fitTbl:Fit Tryz.prog dTbl 24:=.struct Tryz.underlying24 (by kernel_rfl) (.cons rfl (by kernel_rfl) (.slice Tryz.underlying22 (by kernel_rfl) (by decide) fitRow) (.cons rfl (by kernel_rfl) fitI .nil))
theorem fitEv:Fit Tryz.prog dEv 54:=.struct Tryz.underlying54 (by kernel_rfl) (.cons rfl (by kernel_rfl) (.int Tryz.underlying51) (.cons rfl (by kernel_rfl) fitI (.cons rfl (by kernel_rfl) fitI (.cons rfl (by kernel_rfl) fitI (.cons rfl (by kernel_rfl) fitI (.cons rfl (by kernel_rfl) fitI (.cons rfl (by kernel_rfl) (.int Tryz.underlying52) (.cons rfl (by kernel_rfl) fitI .nil))))))))
theorem fitBook:Fit Tryz.prog dBook 28:=.struct Tryz.underlying28 (by kernel_rfl) (.cons rfl (by kernel_rfl) fitTbl (.cons rfl (by kernel_rfl) fitI (.cons rfl (by kernel_rfl) fitI (.cons rfl (by kernel_rfl) fitI
 (.cons rfl (by kernel_rfl) (.slice Tryz.underlying25 (by kernel_rfl) (by decide) fitI) (.cons rfl (by kernel_rfl) (.slice Tryz.underlying26 (by kernel_rfl) (by decide) fitEv) .nil))))))
theorem lie_elems {α:Type} {H:GH} {e:DT} {enc:α→List Value} {sz:Nat} (hsz:e.sz=sz) (hl:∀x,(enc x).length=sz) (hdec:∀cs,Lie H e cs→∃x,cs=enc x) {cs:List Value} (h:Lie H (.slice e) cs):
  ∃(s:SLoc) (l:List α),cs= [.slice s.a l.length s.fl]∧Elems H s.a sz enc l∧SlOk s sz:=by
 subst hsz
 rcases h with rfl|⟨a,ls,rfl,hm,hb,hr,hx⟩
 ·exact ⟨⟨none,0⟩,[],rfl,⟨hl,fun c hc=>(by cases hc),fun _=>rfl⟩,.inl ⟨rfl,rfl⟩⟩
 ·have hex:∃l:List α,ls=l.map enc:=by
   clear hr hm
   induction ls with
   |nil=>exact ⟨[],rfl⟩
   |cons c ls ih=>
    obtain ⟨l,rfl⟩:=ih fun x hxm=>hx x (List.mem_cons_of_mem _ hxm)
    obtain ⟨x,rfl⟩:=hdec c (hx c (List.mem_cons_self ..)).2
    exact ⟨x::l,rfl⟩
  obtain ⟨l,rfl⟩:=hex
  refine ⟨⟨some a,e.sz⟩,l,by simp,⟨hl,fun c hc=>?_,fun hc=>by cases hc⟩,.inr ⟨a,rfl,rfl⟩⟩
  cases hc
  rw [List.length_map] at hr
  exact ⟨hb,by rw [hr,List.flatMap_def]⟩
theorem lie_cons {H:GH} {d r:DT} {cs:List Value} (h:Lie H (.cons d r) cs):∃a b,cs=a++b∧Lie H d a∧Lie H r b:=by
 obtain ⟨a,b,e,_,h1,h2⟩:=h; exact ⟨a,b,e,h1,h2⟩
theorem lie_int {H:GH} {cs:List Value} (h:Lie H dI cs):∃n,cs= [vi n]:=by obtain ⟨n,e,_⟩:=h; exact ⟨n,e⟩
theorem lie_I (H:GH) (cs:List Value) (h:Lie H dI cs):∃n,cs=encI n:=lie_int h
theorem lie_row (H:GH) (cs:List Value) (h:Lie H dRow cs):∃x,cs=encRow x:=by
 obtain ⟨_,_,rfl,h1,h⟩:=lie_cons h
 obtain ⟨_,_,rfl,h2,h⟩:=lie_cons h
 obtain ⟨_,_,rfl,h3,h⟩:=lie_cons h
 obtain rfl:_= []:=h
 obtain ⟨a,rfl⟩:=lie_int h1
 obtain ⟨b,rfl⟩:=lie_int h2
 obtain ⟨c,rfl⟩:=lie_int h3
 exact ⟨⟨a,b,c⟩,rfl⟩
theorem lie_ev (H:GH) (cs:List Value) (h:Lie H dEv cs):∃x,cs=encEv x:=by
 obtain ⟨_,_,rfl,h1,h⟩:=lie_cons h
 obtain ⟨_,_,rfl,h2,h⟩:=lie_cons h
 obtain ⟨_,_,rfl,h3,h⟩:=lie_cons h
 obtain ⟨_,_,rfl,h4,h⟩:=lie_cons h
 obtain ⟨_,_,rfl,h5,h⟩:=lie_cons h
 obtain ⟨_,_,rfl,h6,h⟩:=lie_cons h
 obtain ⟨_,_,rfl,h7,h⟩:=lie_cons h
 obtain ⟨_,_,rfl,h8,h⟩:=lie_cons h
 obtain rfl:_= []:=h
 obtain ⟨a1,rfl⟩:=lie_int h1
 obtain ⟨a2,rfl⟩:=lie_int h2
 obtain ⟨a3,rfl⟩:=lie_int h3
 obtain ⟨a4,rfl⟩:=lie_int h4
 obtain ⟨a5,rfl⟩:=lie_int h5
 obtain ⟨a6,rfl⟩:=lie_int h6
 obtain ⟨a7,rfl⟩:=lie_int h7
 obtain ⟨a8,rfl⟩:=lie_int h8
 exact ⟨⟨a1,a2,a3,a4,a5,a6,a7,a8⟩,rfl⟩
theorem lie_book {H:GH} {cs:List Value} (h:Lie H dBook cs):∃l b,argV dBook cs=bookV l b∧BookIn H l b∧SlOk l.t.rows 3∧SlOk l.owners 1∧SlOk l.events 8:=by
 obtain ⟨_,_,rfl,ht,h⟩:=lie_cons h
 obtain ⟨_,_,rfl,h2,h⟩:=lie_cons h
 obtain ⟨_,_,rfl,h3,h⟩:=lie_cons h
 obtain ⟨_,_,rfl,h4,h⟩:=lie_cons h
 obtain ⟨_,_,rfl,h5,h⟩:=lie_cons h
 obtain ⟨_,_,rfl,h6,h⟩:=lie_cons h
 obtain rfl:_= []:=h
 obtain ⟨_,_,rfl,hr,ht⟩:=lie_cons ht
 obtain ⟨_,_,rfl,hd,ht⟩:=lie_cons ht
 obtain rfl:_= []:=ht
 obtain ⟨dr,rfl⟩:=lie_int hd
 obtain ⟨su,rfl⟩:=lie_int h2
 obtain ⟨te,rfl⟩:=lie_int h3
 obtain ⟨pe,rfl⟩:=lie_int h4
 obtain ⟨s1,l1,rfl,e1,k1⟩:=lie_elems (sz:=3) rfl (fun _=>rfl) (lie_row H) hr
 obtain ⟨s2,l2,rfl,e2,k2⟩:=lie_elems (sz:=1) rfl (fun _=>rfl) (lie_I H) h5
 obtain ⟨s3,l3,rfl,e3,k3⟩:=lie_elems (sz:=8) rfl (fun _=>rfl) (lie_ev H) h6
 exact ⟨⟨⟨s1⟩,s2,s3⟩,⟨⟨l1,dr⟩,su,te,pe,l2,l3⟩,rfl,⟨e1,e2,e3⟩,k1,k2,k3⟩
end Go.Gm.Tryz
end
section
namespace Go.Gm
noncomputable section
theorem setAll_fa2 (n:Nat) (ρ:Rho) (p q:Nat) (v w:Value):setAll ((List.range n).map ρ) (([p,q]:List Nat).zip [v,w])=(List.range n).map (upd (upd ρ p v) q w):=by
 have h1:=congrArg GA.tmps (fa_put n ρ [] (some p) v)
 have h2:=congrArg GA.tmps (fa_put n (upd ρ p v) [] (some q) w)
 simp only [fa,putd,GA.putT] at h1 h2
 show (((List.range n).map ρ).set p v).set q w=_
 rw [h1,h2]
theorem ground_wp2 {P:Program} {T:Tab} (hT:TabOk P T) (hmix:P.follows .mixedOrders=true) {plans:List (Nat×Plan)} {n l:Nat} {f:FuncId} {p q:Tmp} {avs bd:Code} {d:Nat} {gt:GT} {ρ:Rho} (hgt:gt.list=(List.range n).map ρ)
  (hb:codeOk T plans avs=true) (hb2:codeOk T plans bd=true) {H:GH} {v w:Value} {R:GO→GH→Prop} (hg:H.get l=some (loopO f #[p,q] avs bd d .ready none gt))
  (h:wpC ⟨P,T,plans,n,some l⟩ avs (fun x ρ1 m1 H1=>x=.normal∧m1= []∧H1.get l=some (loopO f #[p,q] avs bd d .ready none gt)∧wpC ⟨P,T,plans,n,some l⟩ bd (rdQ l f #[p,q] avs bd d gt R) ρ1 [] (H1.put l (loopO f #[p,q] avs bd d .busy none gt))) (upd (upd ρ p v) q w) [] H):GRound P l [v,w] H R:=by
 refine ground_of hg rfl ?_
 simp only
 have e:({ tmps:=setAll gt.list (([p,q]:List Nat).zip [v,w]) }:GA)=fa n (upd (upd ρ p v) q w) []:=by rw [hgt,setAll_fa2]; rfl
 show GW P (some l) avs { tmps:=setAll gt.list (([p,q]:List Nat).zip [v,w]) } H _
 rw [e]
 refine (wpC_sound (X:=⟨P,T,plans,n,some l⟩) hT hmix avs hb h).mono ?_
 rintro x a H1 ⟨ρ1,m1,rfl,rfl,rfl,h1,h2⟩
 refine ⟨rfl,_,gt,h1,rfl,?_⟩
 refine (wpC_sound (X:=⟨P,T,plans,n,some l⟩) hT hmix bd hb2 h2).mono ?_
 rintro x a H2 ⟨ρ2,m2,rfl,hq⟩
 cases x with
 |normal=>exact ⟨_,gt,hq.1,hq.2⟩
 |exit i=>exact ⟨_,gt,hq.1,hq.2⟩
 |ret=>exact ⟨_,gt,hq.1,hq.2⟩
 |pan v=>exact hq.elim
end
end Go.Gm
end
section
namespace Go.Gm
structure Pt where
 low:Int
 high:Int
 need:Int
 deriving DecidableEq,Inhabited
structure Ch where
 fr:Int
 to:Int
 cups:Int
 gate:Bool
 deriving DecidableEq,Inhabited
structure Cnt where
 point:Int
 low:Int
 high:Int
 deriving DecidableEq,Inhabited
structure Nd where
 parent:Int
 cap:Int
 deriving DecidableEq,Inhabited
structure Ou where
 node:Int
 claim:Int
 cls:Int
 deriving DecidableEq,Inhabited
structure Net where
 pts:List Pt
 chs:List Ch
 deriving DecidableEq,Inhabited
structure LLine where
 gives:List Int
 least:Int
 most:Int
 taps:Int
 counts:List Cnt
 deriving DecidableEq,Inhabited
structure DTree where
 inflow:Int
 nodes:List Nd
 outs:List Ou
 deriving DecidableEq,Inhabited
structure Suite where
 book:Book
 net:Net
 opn:List Int
 line:LLine
 tree:DTree
 deriving DecidableEq,Inhabited
@[simp] def encPt (x:Pt):List Value:= [vi x.low,vi x.high,vi x.need]
@[simp] def encCh (x:Ch):List Value:= [vi x.fr,vi x.to,vi x.cups,.bool x.gate]
@[simp] def encCnt (x:Cnt):List Value:= [vi x.point,vi x.low,vi x.high]
@[simp] def encNd (x:Nd):List Value:= [vi x.parent,vi x.cap]
@[simp] def encOu (x:Ou):List Value:= [vi x.node,vi x.claim,vi x.cls]
structure NLoc where
 pts:SLoc
 chs:SLoc
structure LLoc where
 gives:SLoc
 counts:SLoc
structure DLoc where
 nodes:SLoc
 outs:SLoc
structure ULoc where
 book:BLoc
 net:NLoc
 opn:SLoc
 line:LLoc
 tree:DLoc
@[simp,reducible] def netC (l:NLoc) (n:Net):List Value:= [.slice l.pts.a n.pts.length l.pts.fl,.slice l.chs.a n.chs.length l.chs.fl]
@[simp,reducible] def netV (l:NLoc) (n:Net):Value:=.agg (netC l n).toArray
@[simp,reducible] def lineC (l:LLoc) (x:LLine):List Value:= [.slice l.gives.a x.gives.length l.gives.fl,vi x.least,vi x.most,vi x.taps,.slice l.counts.a x.counts.length l.counts.fl]
@[simp,reducible] def lineV (l:LLoc) (x:LLine):Value:=.agg (lineC l x).toArray
@[simp,reducible] def treeC (l:DLoc) (x:DTree):List Value:= [vi x.inflow,.slice l.nodes.a x.nodes.length l.nodes.fl,.slice l.outs.a x.outs.length l.outs.fl]
@[simp,reducible] def treeV (l:DLoc) (x:DTree):Value:=.agg (treeC l x).toArray
@[simp,reducible] def suiteC (l:ULoc) (s:Suite):List Value:=
 [.slice l.book.t.rows.a s.book.tbl.rows.length l.book.t.rows.fl,vi s.book.tbl.draw,vi s.book.supply,vi s.book.term,vi s.book.persons,.slice l.book.owners.a s.book.owners.length l.book.owners.fl,.slice l.book.events.a s.book.events.length l.book.events.fl,
  .slice l.net.pts.a s.net.pts.length l.net.pts.fl,.slice l.net.chs.a s.net.chs.length l.net.chs.fl,.slice l.opn.a s.opn.length l.opn.fl,
  .slice l.line.gives.a s.line.gives.length l.line.gives.fl,vi s.line.least,vi s.line.most,vi s.line.taps,.slice l.line.counts.a s.line.counts.length l.line.counts.fl,
  vi s.tree.inflow,.slice l.tree.nodes.a s.tree.nodes.length l.tree.nodes.fl,.slice l.tree.outs.a s.tree.outs.length l.tree.outs.fl]
@[simp,reducible] def suiteV (l:ULoc) (s:Suite):Value:=.agg (suiteC l s).toArray
def SlIn {α:Type} (H:GH) (lo:Nat) (s:SLoc) (sz:Nat) (enc:α→List Value) (l:List α):Prop:=Elems H s.a sz enc l∧∀b,s.a=some b→lo≤b.block
theorem SlIn.sub {α:Type} {H H':GH} {lo sz:Nat} {s:SLoc} {enc:α→List Value} {l:List α} (h:SlIn H lo s sz enc l) (hs:Sub H H'):SlIn H' lo s sz enc l:=⟨h.1.mono hs,h.2⟩
theorem SlIn.put {α:Type} {H:GH} {lo sz:Nat} {s:SLoc} {enc:α→List Value} {l:List α} (h:SlIn H lo s sz enc l) {g:Nat} (hg:g<lo) (o:GObj):SlIn (H.put g o) lo s sz enc l:=
 ⟨h.1.put o fun b hb=>by have:=h.2 b hb; omega,h.2⟩
theorem SlIn.low {α:Type} {H:GH} {lo lo' sz:Nat} {s:SLoc} {enc:α→List Value} {l:List α} (h:SlIn H lo s sz enc l) (hl:lo'≤lo):SlIn H lo' s sz enc l:=⟨h.1,fun b hb=>Nat.le_trans hl (h.2 b hb)⟩
theorem SlIn.of_own {α:Type} {H:GH} {lo ty sz:Nat} {v:Value} {enc:α→List Value} {l:List α} (h:OwnL H lo v ty sz enc l) (hs:∀x,(enc x).length=sz):∃s:SLoc,v=.slice s.a l.length s.fl∧SlIn H lo s sz enc l:=by
 obtain ⟨a,fl,rfl,he⟩:=h.elems hs
 have key:∀b,a=some b→lo≤b.block:=by
  intro b hb
  rcases h with ⟨h1,h2⟩|⟨g,ver,szs,pre,h0,h1,_,h2,_⟩
  ·simp only [Value.slice.injEq] at h2
   rw [h2.1] at hb; cases hb
  ·simp only [Value.slice.injEq] at h2
   rw [h2.1] at hb
   cases hb
   exact h1
 exact ⟨⟨a,fl⟩,rfl,he,key⟩
theorem SlIn.lt {α:Type} {H:GH} {lo sz:Nat} {s:SLoc} {enc:α→List Value} {l:List α} (h:SlIn H lo s sz enc l):∀b,s.a=some b→b.block<H.next:=fun b hb=>(h.1.ok b hb).1
theorem Elems.put_lt {α:Type} {H:GH} {sz:Nat} {a:Option Addr} {enc:α→List Value} {l:List α} (h:Elems H a sz enc l) {g n:Nat} (hl:∀b,a=some b→b.block<n) (hg:n≤g) (o:GObj):Elems (H.put g o) a sz enc l:=
 h.put o fun b hb=>by have:=hl b hb; omega
structure NetIn (H:GH) (l:NLoc) (n:Net):Prop where
 pts:Elems H l.pts.a 3 encPt n.pts
 chs:Elems H l.chs.a 4 encCh n.chs
structure LineIn (H:GH) (l:LLoc) (x:LLine):Prop where
 gives:Elems H l.gives.a 1 encI x.gives
 counts:Elems H l.counts.a 3 encCnt x.counts
structure TreeIn (H:GH) (l:DLoc) (x:DTree):Prop where
 nodes:Elems H l.nodes.a 2 encNd x.nodes
 outs:Elems H l.outs.a 3 encOu x.outs
structure SuiteIn (H:GH) (l:ULoc) (s:Suite):Prop where
 book:BookIn H l.book s.book
 net:NetIn H l.net s.net
 opn:Elems H l.opn.a 1 encI s.opn
 line:LineIn H l.line s.line
 tree:TreeIn H l.tree s.tree
structure SuiteLo (n:Nat) (l:ULoc):Prop where
 rows:∀b,l.book.t.rows.a=some b→n≤b.block
 owners:∀b,l.book.owners.a=some b→n≤b.block
 pts:∀b,l.net.pts.a=some b→n≤b.block
 chs:∀b,l.net.chs.a=some b→n≤b.block
 opn:∀b,l.opn.a=some b→n≤b.block
 gives:∀b,l.line.gives.a=some b→n≤b.block
 nodes:∀b,l.tree.nodes.a=some b→n≤b.block
 outs:∀b,l.tree.outs.a=some b→n≤b.block
theorem SuiteIn.mono {H H':GH} {l:ULoc} {s:Suite} (h:SuiteIn H l s) (hs:Sub H H'):SuiteIn H' l s:=
 ⟨⟨h.book.t.mono hs,h.book.owners.mono hs,h.book.events.mono hs⟩,⟨h.net.pts.mono hs,h.net.chs.mono hs⟩,h.opn.mono hs,⟨h.line.gives.mono hs,h.line.counts.mono hs⟩,⟨h.tree.nodes.mono hs,h.tree.outs.mono hs⟩⟩
def blksOf (l:ULoc) (g:Nat):Prop:=∃b:Addr,b.block=g∧(l.book.t.rows.a=some b∨l.book.owners.a=some b∨l.book.events.a=some b∨l.net.pts.a=some b∨l.net.chs.a=some b∨l.opn.a=some b∨l.line.gives.a=some b∨l.line.counts.a=some b∨l.tree.nodes.a=some b∨l.tree.outs.a=some b)
theorem SuiteIn.frm {H H':GH} {O O':Nat→Prop} {l:ULoc} {s:Suite} (h:SuiteIn H l s) (hf:Frm O O' H H') (hb:∀g,blksOf l g→¬O g):SuiteIn H' l s:=by
 have k:∀a:Option Addr,(∀b,a=some b→blksOf l b.block)→∀b,a=some b→¬O b.block:=fun a ha b hab=>hb _ (ha b hab)
 exact ⟨⟨h.book.t.frm hf (k _ fun b hb=>⟨b,rfl,by simp [hb]⟩),h.book.owners.frm hf (k _ fun b hb=>⟨b,rfl,by simp [hb]⟩),h.book.events.frm hf (k _ fun b hb=>⟨b,rfl,by simp [hb]⟩)⟩,⟨h.net.pts.frm hf (k _ fun b hb=>⟨b,rfl,by simp [hb]⟩),h.net.chs.frm hf (k _ fun b hb=>⟨b,rfl,by simp [hb]⟩)⟩,
  h.opn.frm hf (k _ fun b hb=>⟨b,rfl,by simp [hb]⟩),⟨h.line.gives.frm hf (k _ fun b hb=>⟨b,rfl,by simp [hb]⟩),h.line.counts.frm hf (k _ fun b hb=>⟨b,rfl,by simp [hb]⟩)⟩,⟨h.tree.nodes.frm hf (k _ fun b hb=>⟨b,rfl,by simp [hb]⟩),h.tree.outs.frm hf (k _ fun b hb=>⟨b,rfl,by simp [hb]⟩)⟩⟩
theorem SuiteIn.blk_lt {H:GH} {l:ULoc} {s:Suite} (h:SuiteIn H l s) {g:Nat} (hg:blksOf l g):g<H.next:=by
 obtain ⟨b,rfl,h1|h1|h1|h1|h1|h1|h1|h1|h1|h1⟩:=hg
 ·exact (h.book.t.ok b h1).1
 ·exact (h.book.owners.ok b h1).1
 ·exact (h.book.events.ok b h1).1
 ·exact (h.net.pts.ok b h1).1
 ·exact (h.net.chs.ok b h1).1
 ·exact (h.opn.ok b h1).1
 ·exact (h.line.gives.ok b h1).1
 ·exact (h.line.counts.ok b h1).1
 ·exact (h.tree.nodes.ok b h1).1
 ·exact (h.tree.outs.ok b h1).1
theorem SuiteIn.put_map {H:GH} {l:ULoc} {s:Suite} (h:SuiteIn H l s) {g:Nat} {o:GObj} (hg:H.get g=some o) (ho:o.isArr=false) (o':GObj):SuiteIn (H.put g o') l s:=
 ⟨⟨h.book.t.put_loop hg ho o',h.book.owners.put_loop hg ho o',h.book.events.put_loop hg ho o'⟩,⟨h.net.pts.put_loop hg ho o',h.net.chs.put_loop hg ho o'⟩,h.opn.put_loop hg ho o',⟨h.line.gives.put_loop hg ho o',h.line.counts.put_loop hg ho o'⟩,⟨h.tree.nodes.put_loop hg ho o',h.tree.outs.put_loop hg ho o'⟩⟩
theorem SuiteIn.put {H:GH} {l:ULoc} {s:Suite} (h:SuiteIn H l s) {g:Nat} (hb:∀g',blksOf l g'→g'≠g) (o:GObj):SuiteIn (H.put g o) l s:=
 ⟨⟨h.book.t.put o fun b e=>hb _ ⟨b,rfl,by simp [e]⟩,h.book.owners.put o fun b e=>hb _ ⟨b,rfl,by simp [e]⟩,h.book.events.put o fun b e=>hb _ ⟨b,rfl,by simp [e]⟩⟩,⟨h.net.pts.put o fun b e=>hb _ ⟨b,rfl,by simp [e]⟩,h.net.chs.put o fun b e=>hb _ ⟨b,rfl,by simp [e]⟩⟩,
  h.opn.put o fun b e=>hb _ ⟨b,rfl,by simp [e]⟩,⟨h.line.gives.put o fun b e=>hb _ ⟨b,rfl,by simp [e]⟩,h.line.counts.put o fun b e=>hb _ ⟨b,rfl,by simp [e]⟩⟩,⟨h.tree.nodes.put o fun b e=>hb _ ⟨b,rfl,by simp [e]⟩,h.tree.outs.put o fun b e=>hb _ ⟨b,rfl,by simp [e]⟩⟩⟩
theorem SuiteLo.blk {n:Nat} {l l0:ULoc} (h:SuiteLo n l) (hv:l.book.events=l0.book.events) (hc:l.line.counts=l0.line.counts) {g:Nat} (hg:blksOf l g):n≤g∨blksOf l0 g:=by
 obtain ⟨b,rfl,h1|h1|h1|h1|h1|h1|h1|h1|h1|h1⟩:=hg
 ·exact .inl (h.rows b h1)
 ·exact .inl (h.owners b h1)
 ·exact .inr ⟨b,rfl,by simp [←hv,h1]⟩
 ·exact .inl (h.pts b h1)
 ·exact .inl (h.chs b h1)
 ·exact .inl (h.opn b h1)
 ·exact .inl (h.gives b h1)
 ·exact .inr ⟨b,rfl,by simp [←hc,h1]⟩
 ·exact .inl (h.nodes b h1)
 ·exact .inl (h.outs b h1)
def SubA (H H':GH):Prop:=H.next≤H'.next∧∀g A,g<H.next→H.get g=some (.arr A)→H'.get g=H.get g
theorem SubA.of {H H':GH} (h:Sub H H'):SubA H H':=⟨h.1,fun g _ hg _=>h.2 g hg⟩
theorem SubA.trans {H H1 H2:GH} (a:SubA H H1) (b:SubA H1 H2):SubA H H2:=⟨Nat.le_trans a.1 b.1,fun g A hg hA=>(b.2 g A (Nat.lt_of_lt_of_le hg a.1) ((a.2 g A hg hA).trans hA)).trans (a.2 g A hg hA)⟩
theorem SubA.put_loop {h:GH} {g:Nat} {o:GObj} (hg:h.get g=some o) (ho:o.isArr=false) (o':GObj):SubA h (h.put g o'):=⟨Nat.le_refl _,fun k A _ hA=>GH.get_put_ne _ _ (by intro hc; subst hc; rw [hg] at hA; cases hA; cases ho)⟩
theorem SuiteIn.monoA {H H':GH} {l:ULoc} {s:Suite} (h:SuiteIn H l s) (hs:SubA H H'):SuiteIn H' l s:=
 ⟨⟨h.book.t.same hs.1 hs.2,h.book.owners.same hs.1 hs.2,h.book.events.same hs.1 hs.2⟩,⟨h.net.pts.same hs.1 hs.2,h.net.chs.same hs.1 hs.2⟩,h.opn.same hs.1 hs.2,⟨h.line.gives.same hs.1 hs.2,h.line.counts.same hs.1 hs.2⟩,⟨h.tree.nodes.same hs.1 hs.2,h.tree.outs.same hs.1 hs.2⟩⟩
def Short (s:Suite):Prop:=s.book.tbl.rows.length≤1000∧s.book.owners.length≤1000∧s.book.events.length≤1000∧s.net.pts.length≤1000∧s.net.chs.length≤1000∧s.opn.length≤1000∧s.line.gives.length≤1000∧s.line.counts.length≤1000∧s.tree.nodes.length≤1000∧s.tree.outs.length≤1000
end Go.Gm
end
section
namespace Go.Gm.Tryz
open Go.Proofs
theorem clnI_con (l:List Int) (hl:l.length≤1000) (a:Option Addr) (fl:Nat) (H:GH) (hr:Elems H a 1 encI l):GCall Tryz.prog 39 [.slice a l.length fl] H (fun x H'=>∃s:SLoc,x=.ret (.slice s.a l.length s.fl)∧Sub H H'∧SlIn H' H.next s 1 encI l∧OwnL H' H.next (.slice s.a l.length s.fl) 3 1 encI l):=by
 refine gcall_wp tok mix fok39 (F:=g39) (c:=_) rfl (n:=8) rfl (rs:= [.tmp 2]) rfl ?_
 simp
 cases a with
 |none=>
  have:=hr.nil rfl
  subst this
  simp
  exact ⟨⟨none,0⟩,(by first|exact ⟨rfl,rfl⟩|rfl),⟨hr,fun b hb=>by cases hb⟩,OwnL.nil⟩
 |some b=>
  obtain ⟨hb,hrd⟩:=hr.ok b rfl
  simp (disch:=omega)
  have h1:(H.push (.arr { cells:= [],ty:=3 })).read b (l.length*1)=some (l.flatMap encI):=by rw [read_push _ _ _ hb]; exact hrd
  have h0:OwnL (H.push (.arr { cells:= [],ty:=3 })) H.next (.slice (some (ga H.next 0 0)) 0 1) 3 1 encI []:=OwnL.mk (l:= []) (by decide) (Nat.le_refl _) (by simp) (ver:=0) (szs:= []) (by simp)
  obtain ⟨v',H',happ,hown,hnx,hfr,_⟩:=h0.apps (by simp) (by intro x; simp; try rfl) (by decide) l (by simp)
  have c8:8*l.length≤1000000:=by omega
  have c9:l.length≤1000000:=by omega
  try rw [Nat.mul_one] at h1
  simp (disch:=omega) [h1,happ,c8,c9]
  have hown':OwnL H' H.next v' 3 1 encI l:=by simpa using hown
  obtain ⟨s,rfl,hs⟩:=SlIn.of_own hown' (by simp)
  refine ⟨s,(by first|exact ⟨rfl,rfl⟩|rfl),⟨by simp at hnx; omega,fun g hg=>?_⟩,hs,hown'⟩
  rw [hfr g (by simp; omega) (by simp; omega),GH.get_push_lt _ _ hg]
theorem clnRow_con (l:List Row) (hl:l.length≤1000) (a:Option Addr) (fl:Nat) (H:GH) (hr:Elems H a 3 encRow l):GCall Tryz.prog 79 [.slice a l.length fl] H (fun x H'=>∃s:SLoc,x=.ret (.slice s.a l.length s.fl)∧Sub H H'∧SlIn H' H.next s 3 encRow l∧OwnL H' H.next (.slice s.a l.length s.fl) 116 3 encRow l):=by
 refine gcall_wp tok mix fok79 (F:=g79) (c:=_) rfl (n:=8) rfl (rs:= [.tmp 2]) rfl ?_
 simp
 cases a with
 |none=>
  have:=hr.nil rfl
  subst this
  simp
  exact ⟨⟨none,0⟩,(by first|exact ⟨rfl,rfl⟩|rfl),⟨hr,fun b hb=>by cases hb⟩,OwnL.nil⟩
 |some b=>
  obtain ⟨hb,hrd⟩:=hr.ok b rfl
  simp (disch:=omega)
  have h1:(H.push (.arr { cells:= [],ty:=116 })).read b (l.length*3)=some (l.flatMap encRow):=by rw [read_push _ _ _ hb]; exact hrd
  have h0:OwnL (H.push (.arr { cells:= [],ty:=116 })) H.next (.slice (some (ga H.next 0 0)) 0 3) 116 3 encRow []:=OwnL.mk (l:= []) (by decide) (Nat.le_refl _) (by simp) (ver:=0) (szs:= []) (by simp)
  obtain ⟨v',H',happ,hown,hnx,hfr,_⟩:=h0.apps (by simp) (by intro x; simp; try rfl) (by decide) l (by simp)
  have c8:24*l.length≤1000000:=by omega
  have c9:l.length≤1000000:=by omega
  try rw [Nat.mul_one] at h1
  simp (disch:=omega) [h1,happ,c8,c9]
  have hown':OwnL H' H.next v' 116 3 encRow l:=by simpa using hown
  obtain ⟨s,rfl,hs⟩:=SlIn.of_own hown' (by simp)
  refine ⟨s,(by first|exact ⟨rfl,rfl⟩|rfl),⟨by simp at hnx; omega,fun g hg=>?_⟩,hs,hown'⟩
  rw [hfr g (by simp; omega) (by simp; omega),GH.get_push_lt _ _ hg]
theorem clnPt_con (l:List Pt) (hl:l.length≤1000) (a:Option Addr) (fl:Nat) (H:GH) (hr:Elems H a 3 encPt l):GCall Tryz.prog 80 [.slice a l.length fl] H (fun x H'=>∃s:SLoc,x=.ret (.slice s.a l.length s.fl)∧Sub H H'∧SlIn H' H.next s 3 encPt l∧OwnL H' H.next (.slice s.a l.length s.fl) 141 3 encPt l):=by
 refine gcall_wp tok mix fok80 (F:=g80) (c:=_) rfl (n:=8) rfl (rs:= [.tmp 2]) rfl ?_
 simp
 cases a with
 |none=>
  have:=hr.nil rfl
  subst this
  simp
  exact ⟨⟨none,0⟩,(by first|exact ⟨rfl,rfl⟩|rfl),⟨hr,fun b hb=>by cases hb⟩,OwnL.nil⟩
 |some b=>
  obtain ⟨hb,hrd⟩:=hr.ok b rfl
  simp (disch:=omega)
  have h1:(H.push (.arr { cells:= [],ty:=141 })).read b (l.length*3)=some (l.flatMap encPt):=by rw [read_push _ _ _ hb]; exact hrd
  have h0:OwnL (H.push (.arr { cells:= [],ty:=141 })) H.next (.slice (some (ga H.next 0 0)) 0 3) 141 3 encPt []:=OwnL.mk (l:= []) (by decide) (Nat.le_refl _) (by simp) (ver:=0) (szs:= []) (by simp)
  obtain ⟨v',H',happ,hown,hnx,hfr,_⟩:=h0.apps (by simp) (by intro x; simp; try rfl) (by decide) l (by simp)
  have c8:24*l.length≤1000000:=by omega
  have c9:l.length≤1000000:=by omega
  try rw [Nat.mul_one] at h1
  simp (disch:=omega) [h1,happ,c8,c9]
  have hown':OwnL H' H.next v' 141 3 encPt l:=by simpa using hown
  obtain ⟨s,rfl,hs⟩:=SlIn.of_own hown' (by simp)
  refine ⟨s,(by first|exact ⟨rfl,rfl⟩|rfl),⟨by simp at hnx; omega,fun g hg=>?_⟩,hs,hown'⟩
  rw [hfr g (by simp; omega) (by simp; omega),GH.get_push_lt _ _ hg]
theorem clnCh_con (l:List Ch) (hl:l.length≤1000) (a:Option Addr) (fl:Nat) (H:GH) (hr:Elems H a 4 encCh l):GCall Tryz.prog 81 [.slice a l.length fl] H (fun x H'=>∃s:SLoc,x=.ret (.slice s.a l.length s.fl)∧Sub H H'∧SlIn H' H.next s 4 encCh l∧OwnL H' H.next (.slice s.a l.length s.fl) 143 4 encCh l):=by
 refine gcall_wp tok mix fok81 (F:=g81) (c:=_) rfl (n:=8) rfl (rs:= [.tmp 2]) rfl ?_
 simp
 cases a with
 |none=>
  have:=hr.nil rfl
  subst this
  simp
  exact ⟨⟨none,0⟩,(by first|exact ⟨rfl,rfl⟩|rfl),⟨hr,fun b hb=>by cases hb⟩,OwnL.nil⟩
 |some b=>
  obtain ⟨hb,hrd⟩:=hr.ok b rfl
  simp (disch:=omega)
  have h1:(H.push (.arr { cells:= [],ty:=143 })).read b (l.length*4)=some (l.flatMap encCh):=by rw [read_push _ _ _ hb]; exact hrd
  have h0:OwnL (H.push (.arr { cells:= [],ty:=143 })) H.next (.slice (some (ga H.next 0 0)) 0 4) 143 4 encCh []:=OwnL.mk (l:= []) (by decide) (Nat.le_refl _) (by simp) (ver:=0) (szs:= []) (by simp)
  obtain ⟨v',H',happ,hown,hnx,hfr,_⟩:=h0.apps (by simp) (by intro x; simp; try rfl) (by decide) l (by simp)
  have c8:32*l.length≤1000000:=by omega
  have c9:l.length≤1000000:=by omega
  try rw [Nat.mul_one] at h1
  simp (disch:=omega) [h1,happ,c8,c9]
  have hown':OwnL H' H.next v' 143 4 encCh l:=by simpa using hown
  obtain ⟨s,rfl,hs⟩:=SlIn.of_own hown' (by simp)
  refine ⟨s,(by first|exact ⟨rfl,rfl⟩|rfl),⟨by simp at hnx; omega,fun g hg=>?_⟩,hs,hown'⟩
  rw [hfr g (by simp; omega) (by simp; omega),GH.get_push_lt _ _ hg]
theorem clnNd_con (l:List Nd) (hl:l.length≤1000) (a:Option Addr) (fl:Nat) (H:GH) (hr:Elems H a 2 encNd l):GCall Tryz.prog 82 [.slice a l.length fl] H (fun x H'=>∃s:SLoc,x=.ret (.slice s.a l.length s.fl)∧Sub H H'∧SlIn H' H.next s 2 encNd l∧OwnL H' H.next (.slice s.a l.length s.fl) 147 2 encNd l):=by
 refine gcall_wp tok mix fok82 (F:=g82) (c:=_) rfl (n:=8) rfl (rs:= [.tmp 2]) rfl ?_
 simp
 cases a with
 |none=>
  have:=hr.nil rfl
  subst this
  simp
  exact ⟨⟨none,0⟩,(by first|exact ⟨rfl,rfl⟩|rfl),⟨hr,fun b hb=>by cases hb⟩,OwnL.nil⟩
 |some b=>
  obtain ⟨hb,hrd⟩:=hr.ok b rfl
  simp (disch:=omega)
  have h1:(H.push (.arr { cells:= [],ty:=147 })).read b (l.length*2)=some (l.flatMap encNd):=by rw [read_push _ _ _ hb]; exact hrd
  have h0:OwnL (H.push (.arr { cells:= [],ty:=147 })) H.next (.slice (some (ga H.next 0 0)) 0 2) 147 2 encNd []:=OwnL.mk (l:= []) (by decide) (Nat.le_refl _) (by simp) (ver:=0) (szs:= []) (by simp)
  obtain ⟨v',H',happ,hown,hnx,hfr,_⟩:=h0.apps (by simp) (by intro x; simp; try rfl) (by decide) l (by simp)
  have c8:16*l.length≤1000000:=by omega
  have c9:l.length≤1000000:=by omega
  try rw [Nat.mul_one] at h1
  simp (disch:=omega) [h1,happ,c8,c9]
  have hown':OwnL H' H.next v' 147 2 encNd l:=by simpa using hown
  obtain ⟨s,rfl,hs⟩:=SlIn.of_own hown' (by simp)
  refine ⟨s,(by first|exact ⟨rfl,rfl⟩|rfl),⟨by simp at hnx; omega,fun g hg=>?_⟩,hs,hown'⟩
  rw [hfr g (by simp; omega) (by simp; omega),GH.get_push_lt _ _ hg]
theorem clnOu_con (l:List Ou) (hl:l.length≤1000) (a:Option Addr) (fl:Nat) (H:GH) (hr:Elems H a 3 encOu l):GCall Tryz.prog 83 [.slice a l.length fl] H (fun x H'=>∃s:SLoc,x=.ret (.slice s.a l.length s.fl)∧Sub H H'∧SlIn H' H.next s 3 encOu l∧OwnL H' H.next (.slice s.a l.length s.fl) 149 3 encOu l):=by
 refine gcall_wp tok mix fok83 (F:=g83) (c:=_) rfl (n:=8) rfl (rs:= [.tmp 2]) rfl ?_
 simp
 cases a with
 |none=>
  have:=hr.nil rfl
  subst this
  simp
  exact ⟨⟨none,0⟩,(by first|exact ⟨rfl,rfl⟩|rfl),⟨hr,fun b hb=>by cases hb⟩,OwnL.nil⟩
 |some b=>
  obtain ⟨hb,hrd⟩:=hr.ok b rfl
  simp (disch:=omega)
  have h1:(H.push (.arr { cells:= [],ty:=149 })).read b (l.length*3)=some (l.flatMap encOu):=by rw [read_push _ _ _ hb]; exact hrd
  have h0:OwnL (H.push (.arr { cells:= [],ty:=149 })) H.next (.slice (some (ga H.next 0 0)) 0 3) 149 3 encOu []:=OwnL.mk (l:= []) (by decide) (Nat.le_refl _) (by simp) (ver:=0) (szs:= []) (by simp)
  obtain ⟨v',H',happ,hown,hnx,hfr,_⟩:=h0.apps (by simp) (by intro x; simp; try rfl) (by decide) l (by simp)
  have c8:24*l.length≤1000000:=by omega
  have c9:l.length≤1000000:=by omega
  try rw [Nat.mul_one] at h1
  simp (disch:=omega) [h1,happ,c8,c9]
  have hown':OwnL H' H.next v' 149 3 encOu l:=by simpa using hown
  obtain ⟨s,rfl,hs⟩:=SlIn.of_own hown' (by simp)
  refine ⟨s,(by first|exact ⟨rfl,rfl⟩|rfl),⟨by simp at hnx; omega,fun g hg=>?_⟩,hs,hown'⟩
  rw [hfr g (by simp; omega) (by simp; omega),GH.get_push_lt _ _ hg]
theorem clnEv_con (l:List Ev) (hl:l.length≤1000) (a:Option Addr) (fl:Nat) (H:GH) (hr:Elems H a 8 encEv l):GCall Tryz.prog 91 [.slice a l.length fl] H (fun x H'=>∃s:SLoc,x=.ret (.slice s.a l.length s.fl)∧Sub H H'∧SlIn H' H.next s 8 encEv l∧OwnL H' H.next (.slice s.a l.length s.fl) 54 8 encEv l):=by
 refine gcall_wp tok mix fok91 (F:=g91) (c:=_) rfl (n:=8) rfl (rs:= [.tmp 2]) rfl ?_
 simp
 cases a with
 |none=>
  have:=hr.nil rfl
  subst this
  simp
  exact ⟨⟨none,0⟩,(by first|exact ⟨rfl,rfl⟩|rfl),⟨hr,fun b hb=>by cases hb⟩,OwnL.nil⟩
 |some b=>
  obtain ⟨hb,hrd⟩:=hr.ok b rfl
  simp (disch:=omega)
  have h1:(H.push (.arr { cells:= [],ty:=54 })).read b (l.length*8)=some (l.flatMap encEv):=by rw [read_push _ _ _ hb]; exact hrd
  have h0:OwnL (H.push (.arr { cells:= [],ty:=54 })) H.next (.slice (some (ga H.next 0 0)) 0 8) 54 8 encEv []:=OwnL.mk (l:= []) (by decide) (Nat.le_refl _) (by simp) (ver:=0) (szs:= []) (by simp)
  obtain ⟨v',H',happ,hown,hnx,hfr,_⟩:=h0.apps (by simp) (by intro x; simp; try rfl) (by decide) l (by simp)
  have c8:64*l.length≤1000000:=by omega
  have c9:l.length≤1000000:=by omega
  try rw [Nat.mul_one] at h1
  simp (disch:=omega) [h1,happ,c8,c9]
  have hown':OwnL H' H.next v' 54 8 encEv l:=by simpa using hown
  obtain ⟨s,rfl,hs⟩:=SlIn.of_own hown' (by simp)
  refine ⟨s,(by first|exact ⟨rfl,rfl⟩|rfl),⟨by simp at hnx; omega,fun g hg=>?_⟩,hs,hown'⟩
  rw [hfr g (by simp; omega) (by simp; omega),GH.get_push_lt _ _ hg]
end Go.Gm.Tryz
end
section
namespace Go.Gm.Tryz
open Go.Proofs
theorem copied_con (L:ULoc) (s:Suite) (hs:Short s) (H:GH) (hi:SuiteIn H L s):GCall Tryz.prog 31 [suiteV L s] H fun x H'=>∃L',x=.ret (suiteV L' s)∧Sub H H'∧SuiteIn H' L' s∧SuiteLo H.next L'∧L'.book.events=L.book.events∧L'.line.counts=L.line.counts:=by
 obtain ⟨s1,s2,s3,s4,s5,s6,s7,s8,s9,s10⟩:=hs
 refine gcall_wp tok mix fok31 (F:=g31) (c:=_) rfl (n:=52) rfl (rs:= [.cell 2 43]) rfl ?_
 simp
 have b0:Sub H ((H.push (.arr { cells:=suiteC L s,ty:=43 })).push (.arr { cells:= [.slice none 0 0,vi 0,vi 0,vi 0,vi 0,.slice none 0 0,.slice none 0 0,.slice none 0 0,.slice none 0 0,.slice none 0 0,.slice none 0 0,vi 0,vi 0,vi 0,.slice none 0 0,vi 0,.slice none 0 0,.slice none 0 0],ty:=43 })):=((Sub.refl H).push _).push _
 refine (clnRow_con _ (by omega) _ _ _ (Elems.mono hi.book.t b0)).mono ?_
 rintro x H1 ⟨t1,rfl,a1,c1,_⟩
 have k1:=a1.2 H.next (by first|omega|(simp; done)|(simp; omega))
 have j1:=a1.2 (H.next+1) (by first|omega|(simp; done)|(simp; omega))
 have n1:=a1.1
 (try simp (disch:=omega) at k1); (try simp (disch:=omega) at j1); (try simp (disch:=omega) at n1)
 have b1:=b0.trans a1
 simp (disch:=omega) [k1]
 refine (clnI_con _ (by omega) _ _ _ (Elems.mono hi.book.owners (b1.put (Nat.le_refl _) _))).mono ?_
 rintro x H2 ⟨t2,rfl,a2,c2,_⟩
 have k2:=a2.2 H.next (by first|omega|(simp; done)|(simp; omega))
 have j2:=a2.2 (H.next+1) (by first|omega|(simp; done)|(simp; omega))
 have n2:=a2.1
 (try simp (disch:=omega) at k2); (try simp (disch:=omega) [j1] at j2); (try simp (disch:=omega) at n2)
 have b2:=(b1.put (Nat.le_refl _) _).trans a2
 simp (disch:=omega) [k2]
 refine (clnPt_con _ (by omega) _ _ _ (Elems.mono hi.net.pts (b2.put (Nat.le_refl _) _))).mono ?_
 rintro x H3 ⟨t3,rfl,a3,c3,_⟩
 have k3:=a3.2 H.next (by first|omega|(simp; done)|(simp; omega))
 have j3:=a3.2 (H.next+1) (by first|omega|(simp; done)|(simp; omega))
 have n3:=a3.1
 (try simp (disch:=omega) at k3); (try simp (disch:=omega) [j2] at j3); (try simp (disch:=omega) at n3)
 have b3:=(b2.put (Nat.le_refl _) _).trans a3
 simp (disch:=omega) [k3]
 refine (clnCh_con _ (by omega) _ _ _ (Elems.mono hi.net.chs b3)).mono ?_
 rintro x H4 ⟨t4,rfl,a4,c4,_⟩
 have k4:=a4.2 H.next (by first|omega|(simp; done)|(simp; omega))
 have j4:=a4.2 (H.next+1) (by first|omega|(simp; done)|(simp; omega))
 have n4:=a4.1
 (try simp (disch:=omega) [k3] at k4); (try simp (disch:=omega) [j3] at j4); (try simp (disch:=omega) at n4)
 have b4:=b3.trans a4
 simp (disch:=omega) [k4]
 refine (clnI_con _ (by omega) _ _ _ (Elems.mono hi.opn ((b4.put (Nat.le_refl _) _).put (Nat.le_refl _) _))).mono ?_
 rintro x H5 ⟨t5,rfl,a5,c5,_⟩
 have k5:=a5.2 H.next (by first|omega|(simp; done)|(simp; omega))
 have j5:=a5.2 (H.next+1) (by first|omega|(simp; done)|(simp; omega))
 have n5:=a5.1
 (try simp (disch:=omega) at k5); (try simp (disch:=omega) [j4] at j5); (try simp (disch:=omega) at n5)
 have b5:=((b4.put (Nat.le_refl _) _).put (Nat.le_refl _) _).trans a5
 simp (disch:=omega) [k5]
 refine (clnI_con _ (by omega) _ _ _ (Elems.mono hi.line.gives (b5.put (Nat.le_refl _) _))).mono ?_
 rintro x H6 ⟨t6,rfl,a6,c6,_⟩
 have k6:=a6.2 H.next (by first|omega|(simp; done)|(simp; omega))
 have j6:=a6.2 (H.next+1) (by first|omega|(simp; done)|(simp; omega))
 have n6:=a6.1
 (try simp (disch:=omega) at k6); (try simp (disch:=omega) [j5] at j6); (try simp (disch:=omega) at n6)
 have b6:=(b5.put (Nat.le_refl _) _).trans a6
 simp (disch:=omega) [k6]
 refine (clnNd_con _ (by omega) _ _ _ (Elems.mono hi.tree.nodes (b6.put (Nat.le_refl _) _))).mono ?_
 rintro x H7 ⟨t7,rfl,a7,c7,_⟩
 have k7:=a7.2 H.next (by first|omega|(simp; done)|(simp; omega))
 have j7:=a7.2 (H.next+1) (by first|omega|(simp; done)|(simp; omega))
 have n7:=a7.1
 (try simp (disch:=omega) at k7); (try simp (disch:=omega) [j6] at j7); (try simp (disch:=omega) at n7)
 have b7:=(b6.put (Nat.le_refl _) _).trans a7
 simp (disch:=omega) [k7]
 refine (clnOu_con _ (by omega) _ _ _ (Elems.mono hi.tree.outs b7)).mono ?_
 rintro x H8 ⟨t8,rfl,a8,c8,_⟩
 have k8:=a8.2 H.next (by first|omega|(simp; done)|(simp; omega))
 have j8:=a8.2 (H.next+1) (by first|omega|(simp; done)|(simp; omega))
 have n8:=a8.1
 (try simp (disch:=omega) [k7] at k8); (try simp (disch:=omega) [j7] at j8); (try simp (disch:=omega) at n8)
 have b8:=b7.trans a8
 simp (disch:=omega) [k8,j8]
 refine ⟨⟨⟨⟨t1⟩,t2,L.book.events⟩,⟨t3,t4⟩,t5,⟨t6,L.line.counts⟩,⟨t7,t8⟩⟩,by simp,(((b8.put (Nat.le_refl _) _).put (Nat.le_refl _) _).put (by omega) _),?_,?_,rfl,rfl⟩
 ·have q:∀ {α:Type} {sz:Nat} {s:SLoc} {enc:α→List Value} {l:List α} {M:Nat} {o1 o2 o3:GObj},SlIn H8 M s sz enc l→H.next+2≤M→Elems (((H8.put H.next o1).put H.next o2).put (H.next+1) o3) s.a sz enc l:=
   fun h hM=>(((h.put (by omega) _).put (by omega) _).put (by omega) _).1
  have r:∀ {α:Type} {sz:Nat} {a:Option Addr} {enc:α→List Value} {l:List α} {o1 o2 o3:GObj},Elems H a sz enc l→Elems (((H8.put H.next o1).put H.next o2).put (H.next+1) o3) a sz enc l:=
   fun h=>h.mono (((b8.put (Nat.le_refl _) _).put (Nat.le_refl _) _).put (by omega) _)
  have d1:=(((((((((((((c1.put (by first|omega|(simp; done)|(simp; omega)) _).sub a2).put (by first|omega|(simp; done)|(simp; omega)) _).sub a3).sub a4).put (by first|omega|(simp; done)|(simp; omega)) _).put (by first|omega|(simp; done)|(simp; omega)) _).sub a5).put (by first|omega|(simp; done)|(simp; omega)) _).sub a6).put (by first|omega|(simp; done)|(simp; omega)) _).sub a7).sub a8)
  have d2:=(((((((((((c2.put (by first|omega|(simp; done)|(simp; omega)) _).sub a3).sub a4).put (by first|omega|(simp; done)|(simp; omega)) _).put (by first|omega|(simp; done)|(simp; omega)) _).sub a5).put (by first|omega|(simp; done)|(simp; omega)) _).sub a6).put (by first|omega|(simp; done)|(simp; omega)) _).sub a7).sub a8)
  have d3:=(((((((((c3.sub a4).put (by first|omega|(simp; done)|(simp; omega)) _).put (by first|omega|(simp; done)|(simp; omega)) _).sub a5).put (by first|omega|(simp; done)|(simp; omega)) _).sub a6).put (by first|omega|(simp; done)|(simp; omega)) _).sub a7).sub a8)
  have d4:=((((((((c4.put (by first|omega|(simp; done)|(simp; omega)) _).put (by first|omega|(simp; done)|(simp; omega)) _).sub a5).put (by first|omega|(simp; done)|(simp; omega)) _).sub a6).put (by first|omega|(simp; done)|(simp; omega)) _).sub a7).sub a8)
  have d5:=(((((c5.put (by first|omega|(simp; done)|(simp; omega)) _).sub a6).put (by first|omega|(simp; done)|(simp; omega)) _).sub a7).sub a8)
  have d6:=(((c6.put (by first|omega|(simp; done)|(simp; omega)) _).sub a7).sub a8)
  have d7:=(c7.sub a8)
  exact ⟨⟨q d1 (by first|omega|(simp; done)|(simp; omega)),q d2 (by first|omega|(simp; done)|(simp; omega)),r hi.book.events⟩,⟨q d3 (by first|omega|(simp; done)|(simp; omega)),q d4 (by first|omega|(simp; done)|(simp; omega))⟩,q d5 (by first|omega|(simp; done)|(simp; omega)),⟨q d6 (by first|omega|(simp; done)|(simp; omega)),r hi.line.counts⟩,⟨q d7 (by first|omega|(simp; done)|(simp; omega)),q c8 (by first|omega|(simp; done)|(simp; omega))⟩⟩
 ·exact ⟨fun b hb=>Nat.le_trans (by first|omega|(simp; done)|(simp; omega)) (c1.2 b hb),fun b hb=>Nat.le_trans (by first|omega|(simp; done)|(simp; omega)) (c2.2 b hb),fun b hb=>Nat.le_trans (by first|omega|(simp; done)|(simp; omega)) (c3.2 b hb),fun b hb=>Nat.le_trans (by first|omega|(simp; done)|(simp; omega)) (c4.2 b hb),fun b hb=>Nat.le_trans (by first|omega|(simp; done)|(simp; omega)) (c5.2 b hb),fun b hb=>Nat.le_trans (by first|omega|(simp; done)|(simp; omega)) (c6.2 b hb),fun b hb=>Nat.le_trans (by first|omega|(simp; done)|(simp; omega)) (c7.2 b hb),fun b hb=>Nat.le_trans (by first|omega|(simp; done)|(simp; omega)) (c8.2 b hb)⟩
end Go.Gm.Tryz
end
section
namespace Go.Gm.Tryz
open Go.Proofs
def netX:Net:=⟨[⟨100,120,0⟩,⟨0,0,0⟩,⟨0,0,40⟩,⟨0,0,50⟩],[⟨0,1,100,true⟩,⟨0,1,95,true⟩,⟨1,2,50,false⟩,⟨1,3,60,true⟩,⟨2,3,30,true⟩]⟩
def lineX:LLine:=⟨[10,0,20],5,15,1,[⟨0,100,104⟩,⟨3,58,62⟩]⟩
def treeX:DTree:=⟨10,[⟨0,6⟩,⟨1,3⟩],[⟨2,4,0⟩,⟨1,5,0⟩,⟨0,6,1⟩,⟨2,2,1⟩]⟩
def tblX:Tbl:=⟨[⟨5,4,10⟩,⟨10,8,20⟩,⟨20,15,45⟩],50⟩
def bookX:Book:=⟨tblX,100,30,4,[0,1],[⟨1,10,0,0,0,0,1,20⟩,⟨2,20,0,0,0,0,1,10⟩,⟨8,30,2,0,0,0,1,25⟩,⟨3,100,0,3,0,0,0,0⟩,⟨4,200,1,0,0,0,0,0⟩,⟨5,300,2,0,0,1,0,5⟩,⟨6,400,0,1,0,0,0,0⟩]⟩
def suiteX:Suite:=⟨{ bookX with events:= [] },netX,[0,3],{ lineX with counts:= [] },treeX⟩
theorem slIn_arr {α:Type} {H:GH} {enc:α→List Value} {sz ty:Nat} {l:List α} {lo:Nat} (hs:∀x,(enc x).length=sz) {g fl:Nat} {szs:List Nat} (hg:g<H.next) (h:H.get g=some (.arr ⟨l.flatMap enc,ty,0,szs,false⟩)) (hlo:lo≤g):SlIn H lo ⟨some (ga g 0 0),fl⟩ sz enc l:=
 ⟨elems_arr hs hg h,fun b hb=>by cases hb; exact hlo⟩
theorem xN_con (H:GH):GCall Tryz.prog 23 [] H fun x H'=>∃L,x=.ret (netV L netX)∧Sub H H'∧SlIn H' H.next L.pts 3 encPt netX.pts∧SlIn H' H.next L.chs 4 encCh netX.chs∧L.pts.fl=3∧L.chs.fl=4:=by
 refine gcall_wp tok mix fok23 (F:=g23) (c:=_) rfl (n:=14) rfl (rs:= [.cell 0 34]) rfl ?_
 simp
 exact ⟨⟨⟨some (ga (H.next+1) 0 0),3⟩,⟨some (ga (H.next+2) 0 0),4⟩⟩,⟨⟨rfl,rfl,rfl⟩,rfl,rfl,rfl⟩,(((((Sub.refl H).push _).push _).push _).put (Nat.le_refl _) _),slIn_arr (ty:=141) (szs:= []) (by simp) (by simp) (by simp (disch:=omega); rfl) (by omega),slIn_arr (ty:=143) (szs:= []) (by simp) (by simp) (by simp (disch:=omega); rfl) (by omega),rfl,rfl⟩
theorem xM_con (H:GH):GCall Tryz.prog 24 [] H fun x H'=>∃L,x=.ret (lineV L lineX)∧Sub H H'∧SlIn H' H.next L.gives 1 encI lineX.gives∧SlIn H' H.next L.counts 3 encCnt lineX.counts∧L.gives.fl=1:=by
 refine gcall_wp tok mix fok24 (F:=g24) (c:=_) rfl (n:=6) rfl (rs:= [.cell 0 37]) rfl ?_
 simp
 refine ⟨⟨⟨some (ga (H.next+1) 0 0),1⟩,⟨some (ga (H.next+2) 0 0),3⟩⟩,?_,(((((Sub.refl H).push _).push _).push _).put (Nat.le_refl _) _),slIn_arr (ty:=3) (szs:= []) (by simp) (by simp) (by simp (disch:=omega); rfl) (by omega),slIn_arr (ty:=145) (szs:= []) (by simp) (by simp) (by simp (disch:=omega); rfl) (by omega),rfl⟩
 simp [lineX]
theorem xT_con (H:GH):GCall Tryz.prog 25 [] H fun x H'=>∃L,x=.ret (treeV L treeX)∧Sub H H'∧SlIn H' H.next L.nodes 2 encNd treeX.nodes∧SlIn H' H.next L.outs 3 encOu treeX.outs∧L.nodes.fl=2∧L.outs.fl=3:=by
 refine gcall_wp tok mix fok25 (F:=g25) (c:=_) rfl (n:=10) rfl (rs:= [.cell 0 41]) rfl ?_
 simp
 refine ⟨⟨⟨some (ga (H.next+1) 0 0),2⟩,⟨some (ga (H.next+2) 0 0),3⟩⟩,?_,(((((Sub.refl H).push _).push _).push _).put (Nat.le_refl _) _),slIn_arr (ty:=147) (szs:= []) (by simp) (by simp) (by simp (disch:=omega); rfl) (by omega),slIn_arr (ty:=149) (szs:= []) (by simp) (by simp) (by simp (disch:=omega); rfl) (by omega),rfl,rfl⟩
 simp [treeX]
theorem xT6_con (H:GH):GCall Tryz.prog 63 [] H fun x H'=>∃L,x=.ret (tblV L tblX)∧Sub H H'∧SlIn H' H.next L.rows 3 encRow tblX.rows:=by
 refine gcall_wp tok mix fok63 (F:=g63) (c:=_) rfl (n:=6) rfl (rs:= [.cell 0 24]) rfl ?_
 simp
 refine ⟨⟨⟨some (ga (H.next+1) 0 0),3⟩⟩,?_,((((Sub.refl H).push _).push _).put (Nat.le_refl _) _),slIn_arr (ty:=116) (szs:= []) (by simp) (by simp) (by simp (disch:=omega); rfl) (by omega)⟩
 simp [tblX]
theorem xG_con (H:GH):GCall Tryz.prog 22 [] H fun x H'=>∃L,x=.ret (bookV L bookX)∧Sub H H'∧SlIn H' H.next L.t.rows 3 encRow bookX.tbl.rows∧SlIn H' H.next L.owners 1 encI bookX.owners∧SlIn H' H.next L.events 8 encEv bookX.events:=by
 refine gcall_wp tok mix fok22 (F:=g22) (c:=_) rfl (n:=12) rfl (rs:= [.cell 0 28]) rfl ?_
 simp
 refine (xT6_con _).mono ?_
 rintro x H1 ⟨L1,hx,a1,h1⟩
 obtain ⟨r1⟩:=L1
 subst hx
 have k:=a1.2 H.next (by simp)
 have n1:=a1.1
 simp at k n1
 have e1:¬H.next=H1.next+1:=by omega
 have e2:¬H.next=H1.next:=by omega
 simp (disch:=omega) [k,e1]
 have b1:Sub H H1:=((Sub.refl H).push _).trans a1
 refine ⟨⟨⟨r1⟩,⟨some (ga H1.next 0 0),1⟩,⟨some (ga (H1.next+1) 0 0),8⟩⟩,(by simp [bookX,tblX]),((b1.push _).push _).put (Nat.le_refl _) _,((((h1.sub (.push (.refl _) _)).sub (.push (.refl _) _)).put (by simp) _).low (by simp)),slIn_arr (ty:=3) (szs:= []) (by simp) (by simp) (by simp (disch:=omega); rfl) (by omega),slIn_arr (ty:=54) (szs:= []) (by simp) (by simp) (by simp (disch:=omega); rfl) (by omega)⟩
structure FlX (L:ULoc):Prop where
 pts:L.net.pts.fl=3
 chs:L.net.chs.fl=4
 opn:L.opn.fl=1
 gives:L.line.gives.fl=1
 counts:L.line.counts=⟨none,0⟩
 nodes:L.tree.nodes.fl=2
 outs:L.tree.outs.fl=3
theorem Suite_con (H:GH):GCall Tryz.prog 6 [] H fun x H'=>∃L,x=.ret (suiteV L suiteX)∧Sub H H'∧SuiteIn H' L suiteX∧(∀g,blksOf L g→H.next≤g)∧FlX L:=by
 refine gcall_wp tok mix fok6 (F:=g6) (c:=_) rfl (n:=13) rfl (rs:= [.cell 0 43]) rfl ?_
 simp
 refine (xG_con _).mono ?_
 rintro x H1 ⟨⟨⟨r1⟩,o1,v1⟩,rfl,a1,h1,i1,_⟩
 simp
 refine (xN_con _).mono ?_
 rintro x H2 ⟨⟨p2,c2⟩,rfl,a2,h2,i2,f1,f2⟩
 simp
 refine (xM_con _).mono ?_
 rintro x H3 ⟨⟨g3,c3⟩,rfl,a3,h3,_,f3⟩
 simp
 refine (xT_con _).mono ?_
 rintro x H4 ⟨⟨d4,u4⟩,rfl,a4,h4,i4,f4,f5⟩
 have k1:=a1.2 H.next (by simp)
 have n1:=a1.1
 have n2:=a2.1
 have n3:=a3.1
 have n4:=a4.1
 simp at k1 n1 n3
 have k2:=(a2.2 H.next (by omega)).trans k1
 have k3:=a3.2 H.next (by simp; omega)
 simp (disch:=omega) [k2] at k3
 have k4:=(a4.2 H.next (by omega)).trans k3
 have e2:¬H.next=H4.next:=by omega
 simp (disch:=omega) [k4]
 have b1:Sub H H1:=((Sub.refl H).push _).trans a1
 have b3:Sub H2 H3:=((Sub.refl H2).push _).trans a3
 have b4:Sub H H4:=((b1.trans a2).trans b3).trans a4
 have ho:SlIn H4 (H.next+1) ⟨some (ga H2.next 0 0),1⟩ 1 encI [0,3]:=((slIn_arr (H:=H2.push (.arr { cells:= [vi 0,vi 3],ty:=3 })) (ty:=3) (szs:= []) (l:= [(0:Int),3]) (enc:=encI) (by simp) (by simp) (by simp) (by omega)).sub a3).sub a4
 refine ⟨⟨⟨⟨r1⟩,o1,⟨none,0⟩⟩,⟨p2,c2⟩,⟨some (ga H2.next 0 0),1⟩,⟨g3,⟨none,0⟩⟩,⟨d4,u4⟩⟩,?_,?_,?_,?_,⟨f1,f2,rfl,f3,rfl,f4,f5⟩⟩
 ·simp [suiteX,bookX,tblX,netX,lineX,treeX]
 ·exact ((((b4.push _).put (by omega) _).put (by omega) _).put (by omega) _).put (Nat.le_refl _) _
 ·have q:∀ {α:Type} {sz:Nat} {s:SLoc} {enc:α→List Value} {l:List α} {M:Nat} {o1 o2 o3 o4 o5:GObj},SlIn H4 M s sz enc l→H.next<M→Elems (((((H4.push o1).put H4.next o2).put H4.next o3).put H4.next o4).put H.next o5) s.a sz enc l:=
   fun h hM=>((((((h.1.push _).put_lt (fun b hb=>h.lt b hb) (Nat.le_refl _) _).put_lt (fun b hb=>h.lt b hb) (Nat.le_refl _) _).put_lt (fun b hb=>h.lt b hb) (Nat.le_refl _) _).put _ fun b hb=>by have:=h.2 b hb; omega))
  have z:∀ {α:Type} {sz:Nat} {enc:α→List Value} {h:GH},(∀x,(enc x).length=sz)→Elems h none sz enc ([]:List α):=fun hs=>⟨hs,(fun b hb=>by cases hb),fun _=>rfl⟩
  exact ⟨⟨q (((h1.sub a2).sub b3).sub a4) (by simp),q (((i1.sub a2).sub b3).sub a4) (by simp),z (by simp)⟩,⟨q ((h2.sub b3).sub a4) (by omega),q ((i2.sub b3).sub a4) (by omega)⟩,q ho (by omega),⟨q (h3.sub a4) (by simp; omega),z (by simp)⟩,⟨q h4 (by omega),q i4 (by omega)⟩⟩
 ·rintro g ⟨b,rfl,h|h|h|h|h|h|h|h|h|h⟩
  ·have:=h1.2 b h; simp at this; omega
  ·have:=i1.2 b h; simp at this; omega
  ·cases h
  ·have:=h2.2 b h; omega
  ·have:=i2.2 b h; omega
  ·cases h; simp; omega
  ·have:=h3.2 b h; simp at this; omega
  ·cases h
  ·have:=h4.2 b h; omega
  ·have:=i4.2 b h; omega
end Go.Gm.Tryz
end
section
namespace Go.Gm
def canG:List (List Value×TypeId)→GH→GH
 | [],H=>H
 |r::rs,H=>canG rs (H.push (.arr { cells:=r.1,ty:=r.2,ro:=true }))
def canH (fx:List (Nat×Obj)) (rows:List (List Value×TypeId)):GH:=canG rows (GH.emp fx)
theorem canG_get:∀ {rows:List (List Value×TypeId)} {H:GH},(∀g,H.next≤g→H.get g=none)→∀g,(canG rows H).get g=if g<H.next then H.get g else (rows[g - H.next]?).map fun r=>.arr { cells:=r.1,ty:=r.2,ro:=true }
 | [],H,h,g=>by
  simp only [canG]
  split
  ·rfl
  ·rename_i hg; rw [h g (by omega)]; simp
 |r::rs,H,h,g=>by
  simp only [canG]
  rw [canG_get (fun g hg=>by
   rw [GH.get_push_ne _ _ (by simp at hg; omega)]
   exact h g (by simp at hg; omega))]
  simp only [GH.next_push]
  by_cases h1:g<H.next
  ·have h2:g<H.next+1:=by omega
   simp only [h1,h2,if_true]
   exact GH.get_push_lt _ _ h1
  ·by_cases h2:g=H.next
   ·subst h2
    have h3:H.next<H.next+1:=by omega
    simp only [h3,if_true,h1,if_false]
    rw [GH.get_push_same]
    simp
   ·have h3:¬g<H.next+1:=by omega
    have h4:g - H.next=(g - (H.next+1))+1:=by omega
    simp only [h3,h1,if_false]
    rw [h4,List.getElem?_cons_succ]
theorem canG_next:∀ {rows:List (List Value×TypeId)} {H:GH},(canG rows H).next=H.next+rows.length
 | [],H=>rfl
 |r::rs,H=>by simp only [canG]; rw [canG_next]; simp; omega
theorem canG_fx:∀ {rows:List (List Value×TypeId)} {H:GH},(canG rows H).fx=H.fx
 | [],H=>rfl
 |r::rs,H=>by simp only [canG]; rw [canG_fx]; rfl
theorem canH_get (fx:List (Nat×Obj)) (rows:List (List Value×TypeId)) (g:Nat):(canH fx rows).get g=(rows[g]?).map fun r=>.arr { cells:=r.1,ty:=r.2,ro:=true }:=by
 unfold canH
 rw [canG_get (fun g _=>by simp [GH.get,GH.emp])]
 simp [GH.emp]
def manyB (Ls:List Loc):Bm:=fun g v=>if v=0 then Ls[g]? else none
theorem manyB_some {Ls:List Loc} {g v:Nat} {M:Loc} (h:manyB Ls g v=some M):v=0∧Ls[g]?=some M:=by
 unfold manyB at h
 split at h
 ·rename_i hv; exact ⟨hv,h⟩
 ·cases h
structure CSl (β:Bm) (H:GH) (cs:List Value) (n fl:Nat) (a:Addr) (r:Value):Prop where
 closed:∀c∈cs,closedV c=true
 vr:VR β (.slice (some a) n fl) r
 fl0:fl≠0
 n0:0<n
 rd:H.read a cs.length=some cs
theorem CSl.loc {β:Bm} {H:GH} {w:World} {cs:List Value} {n fl:Nat} {a:Addr} {r:Value} (h:CSl β H cs n fl a r) (hR:Rel β H w):∃L:Loc,L.blk<w.heap.size∧(∀(Ls:List Loc) (i:Nat),Ls[i]?=some L→VR (manyB Ls) (.slice (some (ga i 0 0)) n fl) r)∧
  ∀(i r':Nat),i<cs.length→(r':Int)=i+L.d→∃rv,w.cell? ⟨L.blk,r',none⟩=some rv∧rv=cs.getD i undef:=by
 obtain ⟨hc,hv,hfl,hlen,hr⟩:=h
 cases hv with
 |slice0=>omega
 |@slice g off v r len c fl L e hoff h0 hcap hle=>
  refine ⟨⟨L.blk,r,L.cap⟩,(by have:=hR.lt _ _ _ e; exact this),fun Ls i hi=>.slice (L:=⟨L.blk,r,L.cap⟩) (by simp [manyB,hi]) (by simp) h0 hcap hle,fun i r' hi hri=>?_⟩
  unfold GH.read at hr
  simp only at hr
  split at hr
  ·rename_i s A hs hA
   cases hs
   split at hr
   ·rename_i hle2
    have hcs:=Option.some.inj hr
    obtain ⟨rv,h1,h2⟩:=hR.cell _ _ _ _ (off+i) r' hA e (by omega) (by simp at hri; omega)
    have hcell:cs.getD i undef=A.cells.getD (off+i) undef:=by
     have hcc:((A.cells.drop off).take cs.length)[i]?=A.cells[off+i]?:=by rw [List.getElem?_take,if_pos hi,List.getElem?_drop]
     rw [hcs] at hcc
     rw [List.getD_eq_getElem?_getD,List.getD_eq_getElem?_getD,hcc]
    refine ⟨rv,h1,?_⟩
    rw [hcell]
    refine closed_eq h2 ?_
    rw [←hcell]
    exact getD_closed hc hi
   ·cases hr
  ·cases hr
inductive CSls (β:Bm) (H:GH) (w:World):List (List Value×TypeId)→List Loc→Prop where
 |nil:CSls β H w [] []
 |cons {cs:List Value} {ty:TypeId} {rows:List (List Value×TypeId)} {L:Loc} {Ls:List Loc}:(∀c∈cs,closedV c=true)→L.blk<w.heap.size→(∀(i r':Nat),i<cs.length→(r':Int)=i+L.d→∃rv,w.cell? ⟨L.blk,r',none⟩=some rv∧rv=cs.getD i undef)→CSls β H w rows Ls→CSls β H w ((cs,ty)::rows) (L::Ls)
theorem CSls.at {β:Bm} {H:GH} {w:World} {rows:List (List Value×TypeId)} {Ls:List Loc} (h:CSls β H w rows Ls):rows.length=Ls.length∧∀(g:Nat) (r:List Value×TypeId) (L:Loc),rows[g]?=some r→Ls[g]?=some L→(∀c∈r.1,closedV c=true)∧L.blk<w.heap.size∧∀(i r':Nat),i<r.1.length→(r':Int)=i+L.d→∃rv,w.cell? ⟨L.blk,r',none⟩=some rv∧rv=r.1.getD i undef:=by
 induction h with
 |nil=>exact ⟨rfl,fun g r L h=>by simp at h⟩
 |cons h1 h2 h3 _ ih=>
  refine ⟨by simp [ih.1],fun g r L hr hL=>?_⟩
  cases g with
  |zero=>simp at hr hL; subst hr hL; exact ⟨h1,h2,h3⟩
  |succ g=>exact ih.2 g r L (by simpa using hr) (by simpa using hL)
theorem many_rel {β:Bm} {H:GH} {w:World} {rows:List (List Value×TypeId)} {Ls:List Loc} (hR:Rel β H w) (h:CSls β H w rows Ls):Rel (manyB Ls) (canH H.fx rows) w:=by
 obtain ⟨hlen,hat⟩:=h.at
 have hg:∀g o,(canH H.fx rows).get g=some o→∃r,rows[g]?=some r∧o=.arr { cells:=r.1,ty:=r.2,ro:=true }:=by
  intro g o ho
  rw [canH_get] at ho
  cases hr:rows[g]? with
  |none=>rw [hr] at ho; cases ho
  |some r=>rw [hr] at ho; exact ⟨r,rfl,by simpa using ho.symm⟩
 have hn:(canH H.fx rows).next=rows.length:=by unfold canH; rw [canG_next]; simp [GH.emp]
 have hf:(canH H.fx rows).fx=H.fx:=by unfold canH; rw [canG_fx]; rfl
 refine ⟨?_,?_,?_,?_,?_,?_,?_,?_,?_⟩
 ·intro g v L hb
  obtain ⟨rfl,hL⟩:=manyB_some hb
  have hlt:g<rows.length:=by rw [hlen]; exact (List.getElem?_eq_some_iff.1 hL).1
  exact (hat g _ L (List.getElem?_eq_getElem hlt) hL).2.1
 ·intro g v L hb
  obtain ⟨rfl,hL⟩:=manyB_some hb
  rw [hn,hlen]; exact (List.getElem?_eq_some_iff.1 hL).1
 ·intro g o ho
  obtain ⟨r,hr,_⟩:=hg g o ho
  rw [hn]; exact (List.getElem?_eq_some_iff.1 hr).1
 ·intro g A v L _ hb
  obtain ⟨rfl,_⟩:=manyB_some hb
  exact Nat.zero_le _
 ·intro g A v L i r' ho hb hi hri
  obtain ⟨rfl,hL⟩:=manyB_some hb
  obtain ⟨r,hr,e⟩:=hg g _ ho
  cases e
  obtain ⟨hc,_,hcell⟩:=hat g r L hr hL
  have hi:i<r.1.length:=by simpa [GArr.rd] using hi
  obtain ⟨rv,h1,rfl⟩:=hcell i r' hi hri
  exact ⟨_,h1,closed_ok (getD_closed hc hi)⟩
 ·intro g A L ho hro hb
  obtain ⟨r,hr,e⟩:=hg g _ ho
  cases e; cases hro
 ·intro g o L ho hna hb
  obtain ⟨r,hr,rfl⟩:=hg g _ ho
  cases hna
 ·intro g v L g' v' L' o hb hb' ho hrw _
  obtain ⟨r,hr,rfl⟩:=hg g _ ho
  cases hrw
 ·intro k q hk
  rw [hf] at hk
  obtain ⟨h1,_⟩:=hR.fix k q hk
  refine ⟨h1,fun g v L o hb ho hrw=>?_⟩
  obtain ⟨r,hr,rfl⟩:=hg g _ ho
  cases hrw
def NoPl (v:Value):Prop:=(∀β r,VR β v r→r=v)∧∀β,VR β v v
theorem NoPl.of {v:Value} (h:closedV v=true):NoPl v:=⟨fun _ _ hv=>closed_eq hv h,fun _=>closed_ok h⟩
theorem NoPl.tuple {l:List Value} (h:l.all closedV=true):NoPl (.tuple ⟨l⟩):=by
 have hc:∀i,i<l.length→closedV ((⟨l⟩:Array Value).getD i undef)=true:=fun i hi=>by
  have:=List.all_eq_true.1 h l[i] (List.getElem_mem hi)
  simpa [Array.getD,hi] using this
 refine ⟨fun β r hv=>?_,fun β=>.tuple rfl fun i hi=>closed_ok (hc i hi)⟩
 cases hv with
 |@tuple _ a' hs hall=>
  congr 1
  refine Array.ext hs.symm fun i h1 h2=>?_
  have:=closed_eq (hall i (by omega)) (hc i (by simpa using h2))
  have hi:i<l.length:=by simpa using h2
  simpa [Array.getD,h1,hi] using this
theorem GCall.canon {P:Program} {f:FuncId} {v:Value} {args args0:List Value} {rows:List (List Value×TypeId)} (hv:NoPl v) (H:GH)
  (hc:∀(β:Bm) (w:World) (args':List Value),Rel β H w→VRs β args args'→∃Ls,CSls β H w rows Ls∧VRs (manyB Ls) args0 args')
  (h:GCall P f args0 (canH H.fx rows) fun x _=>x=.ret v):Con P f args H v H:=by
 refine ⟨h.1,fun β w args' hR hA=>?_⟩
 obtain ⟨Ls,hCs,hA0⟩:=hc β w args' hR hA
 have hR0:=many_rel hR hCs
 refine CallsIn.mono (h.2 _ w args' hR0 hA0) fun e w' hp=>?_
 obtain ⟨x,β',h',rfl,hR',hE,he⟩:=hp
 cases he with
 |ret hr=>
  have hblk:∀k,k<w.heap.size→w'.heap[k]?=w.heap[k]?:=fun k hk=>hE.blk k hk (fun g v L o hb _ ho=>by
   rw [canH_get] at ho
   cases hr:rows[g]? with
   |none=>rw [hr] at ho; cases ho
   |some r=>rw [hr] at ho; simp at ho; subst ho; rfl)
  have hcell:∀(a:Addr),a.block<w.heap.size→w'.cell? a=w.cell? a:=by
   intro a ha
   simp only [World.cell?,hblk _ ha]
  have hvr:=hv.1 _ _ hr
  subst hvr
  refine ⟨_,β,H,⟨rfl,rfl⟩,?_,?_,.ret (hv.2 _)⟩
  ·refine ⟨fun g v L hb=>Nat.lt_of_lt_of_le (hR.lt g v L hb) hE.size,hR.dom,hR.top,hR.ver,?_,?_,?_,hR.inj,fun k r hk=>⟨(hblk _ (lt_of_get (hR.fix k r hk).1)).trans (hR.fix k r hk).1,(hR.fix k r hk).2⟩⟩
   ·intro g A v L i r hA hb hi hr
    obtain ⟨rv,hc,hv⟩:=hR.cell g A v L i r hA hb hi hr
    exact ⟨rv,by rw [hcell _ (hR.lt g v L hb)]; exact hc,hv⟩
   ·intro g A L hA hro hb
    obtain ⟨rc,fr,h1,h2⟩:=hR.row g A L hA hro hb
    exact ⟨rc,fr,by rw [hblk _ (hR.lt g _ L hb)]; exact h1,h2⟩
   ·intro g o L ho hia hb
    obtain ⟨r,h1,h2⟩:=hR.obj g o L ho hia hb
    exact ⟨r,by rw [hblk _ (hR.lt g _ L hb)]; exact h1,h2⟩
  ·exact ⟨Bm.le_refl β,Nat.le_refl _,fun _ _ _ hb=>.inl hb,fun _ o ho _=>⟨o,ho,rfl⟩,fun _ _ hu=>⟨rfl,hu⟩,hE.size,hE.os,hE.tape,hE.output,fun k hk _=>hblk k hk,rfl⟩
end Go.Gm
end
section
namespace Go.Gm.Tryz
open Go.Proofs
theorem allF:F.AllP (fun f G=>FnOk Tryz.prog T f G) (fun k=>k):=
 ⟨trivial,⟨trivial,⟨fok3,⟨fok7,⟨fok15,⟨fok31,⟨fok63,⟨fok127,⟨fok255,trivial,trivial⟩,trivial⟩,⟨fok191,trivial,trivial⟩⟩,⟨fok95,⟨fok159,trivial,trivial⟩,⟨fok223,trivial,trivial⟩⟩⟩,⟨fok47,⟨fok79,⟨fok143,⟨fok271,trivial,trivial⟩,trivial⟩,⟨fok207,trivial,trivial⟩⟩,⟨fok111,⟨fok175,⟨fok303,trivial,trivial⟩,trivial⟩,⟨fok239,trivial,trivial⟩⟩⟩⟩,⟨fok23,⟨fok39,⟨fok71,⟨fok135,⟨fok263,trivial,trivial⟩,trivial⟩,⟨fok199,trivial,trivial⟩⟩,⟨fok103,⟨fok167,⟨fok295,trivial,trivial⟩,trivial⟩,⟨fok231,trivial,trivial⟩⟩⟩,⟨fok55,⟨fok87,⟨fok151,trivial,trivial⟩,⟨fok215,trivial,trivial⟩⟩,⟨fok119,⟨fok183,⟨fok311,trivial,trivial⟩,trivial⟩,⟨fok247,trivial,trivial⟩⟩⟩⟩⟩,⟨fok11,⟨fok19,⟨trivial,⟨fok67,⟨fok131,⟨fok259,trivial,trivial⟩,trivial⟩,⟨fok195,trivial,trivial⟩⟩,⟨fok99,⟨fok163,⟨fok291,trivial,trivial⟩,trivial⟩,⟨fok227,trivial,trivial⟩⟩⟩,⟨fok51,⟨fok83,⟨fok147,trivial,trivial⟩,⟨fok211,trivial,trivial⟩⟩,⟨fok115,⟨fok179,⟨fok307,trivial,trivial⟩,trivial⟩,⟨fok243,trivial,trivial⟩⟩⟩⟩,⟨trivial,⟨fok43,⟨fok75,⟨fok139,⟨fok267,trivial,trivial⟩,trivial⟩,⟨fok203,trivial,trivial⟩⟩,⟨fok107,⟨fok171,⟨fok299,trivial,trivial⟩,trivial⟩,⟨fok235,trivial,trivial⟩⟩⟩,⟨fok59,⟨fok91,⟨fok155,trivial,trivial⟩,⟨fok219,trivial,trivial⟩⟩,⟨fok123,⟨fok187,trivial,trivial⟩,⟨fok251,trivial,trivial⟩⟩⟩⟩⟩⟩,⟨fok5,⟨fok9,⟨fok17,⟨fok33,⟨fok65,⟨fok129,⟨fok257,trivial,trivial⟩,trivial⟩,⟨fok193,trivial,trivial⟩⟩,⟨fok97,⟨fok161,⟨fok289,trivial,trivial⟩,trivial⟩,⟨fok225,trivial,trivial⟩⟩⟩,⟨fok49,⟨fok81,⟨trivial,⟨fok273,trivial,trivial⟩,trivial⟩,⟨fok209,trivial,trivial⟩⟩,⟨fok113,⟨fok177,⟨fok305,trivial,trivial⟩,trivial⟩,⟨fok241,trivial,trivial⟩⟩⟩⟩,⟨fok25,⟨fok41,⟨fok73,⟨fok137,trivial,trivial⟩,⟨fok201,trivial,trivial⟩⟩,⟨fok105,⟨fok169,⟨fok297,trivial,trivial⟩,trivial⟩,⟨fok233,trivial,trivial⟩⟩⟩,⟨fok57,⟨fok89,⟨fok153,trivial,trivial⟩,⟨fok217,trivial,trivial⟩⟩,⟨fok121,⟨fok185,⟨fok313,trivial,trivial⟩,trivial⟩,⟨fok249,trivial,trivial⟩⟩⟩⟩⟩,⟨fok13,⟨fok21,⟨fok37,⟨fok69,⟨fok133,⟨fok261,trivial,trivial⟩,trivial⟩,⟨fok197,trivial,trivial⟩⟩,⟨fok101,⟨fok165,⟨fok293,trivial,trivial⟩,trivial⟩,⟨fok229,trivial,trivial⟩⟩⟩,⟨fok53,⟨fok85,⟨fok149,trivial,trivial⟩,⟨fok213,trivial,trivial⟩⟩,⟨fok117,⟨fok181,⟨fok309,trivial,trivial⟩,trivial⟩,⟨fok245,trivial,trivial⟩⟩⟩⟩,⟨fok29,⟨fok45,⟨fok77,⟨fok141,⟨fok269,trivial,trivial⟩,trivial⟩,⟨fok205,trivial,trivial⟩⟩,⟨fok109,⟨fok173,⟨fok301,trivial,trivial⟩,trivial⟩,⟨fok237,trivial,trivial⟩⟩⟩,⟨fok61,⟨fok93,⟨fok157,trivial,trivial⟩,⟨fok221,trivial,trivial⟩⟩,⟨fok125,⟨fok189,trivial,trivial⟩,⟨fok253,trivial,trivial⟩⟩⟩⟩⟩⟩⟩,⟨fok2,⟨fok4,⟨fok8,⟨fok16,⟨fok32,⟨fok64,⟨fok128,⟨fok256,trivial,trivial⟩,trivial⟩,⟨fok192,trivial,trivial⟩⟩,⟨fok96,⟨fok160,trivial,trivial⟩,⟨fok224,trivial,trivial⟩⟩⟩,⟨fok48,⟨fok80,⟨fok144,⟨fok272,trivial,trivial⟩,trivial⟩,⟨fok208,trivial,trivial⟩⟩,⟨fok112,⟨fok176,⟨fok304,trivial,trivial⟩,trivial⟩,⟨fok240,trivial,trivial⟩⟩⟩⟩,⟨fok24,⟨fok40,⟨fok72,⟨fok136,⟨fok264,trivial,trivial⟩,trivial⟩,⟨fok200,trivial,trivial⟩⟩,⟨fok104,⟨fok168,⟨fok296,trivial,trivial⟩,trivial⟩,⟨fok232,trivial,trivial⟩⟩⟩,⟨fok56,⟨fok88,⟨fok152,trivial,trivial⟩,⟨fok216,trivial,trivial⟩⟩,⟨fok120,⟨fok184,⟨fok312,trivial,trivial⟩,trivial⟩,⟨fok248,trivial,trivial⟩⟩⟩⟩⟩,⟨fok12,⟨fok20,⟨fok36,⟨fok68,⟨fok132,⟨fok260,trivial,trivial⟩,trivial⟩,⟨fok196,trivial,trivial⟩⟩,⟨fok100,⟨fok164,⟨fok292,trivial,trivial⟩,trivial⟩,⟨fok228,trivial,trivial⟩⟩⟩,⟨fok52,⟨fok84,⟨fok148,trivial,trivial⟩,⟨fok212,trivial,trivial⟩⟩,⟨fok116,⟨fok180,⟨fok308,trivial,trivial⟩,trivial⟩,⟨fok244,trivial,trivial⟩⟩⟩⟩,⟨fok28,⟨fok44,⟨fok76,⟨fok140,⟨fok268,trivial,trivial⟩,trivial⟩,⟨fok204,trivial,trivial⟩⟩,⟨fok108,⟨fok172,⟨fok300,trivial,trivial⟩,trivial⟩,⟨fok236,trivial,trivial⟩⟩⟩,⟨fok60,⟨fok92,⟨fok156,trivial,trivial⟩,⟨fok220,trivial,trivial⟩⟩,⟨fok124,⟨fok188,trivial,trivial⟩,⟨fok252,trivial,trivial⟩⟩⟩⟩⟩⟩,⟨fok6,⟨fok10,⟨fok18,⟨fok34,⟨fok66,⟨fok130,⟨fok258,trivial,trivial⟩,trivial⟩,⟨fok194,trivial,trivial⟩⟩,⟨fok98,⟨fok162,⟨fok290,trivial,trivial⟩,trivial⟩,⟨fok226,trivial,trivial⟩⟩⟩,⟨fok50,⟨fok82,⟨fok146,trivial,trivial⟩,⟨fok210,trivial,trivial⟩⟩,⟨fok114,⟨fok178,⟨fok306,trivial,trivial⟩,trivial⟩,⟨fok242,trivial,trivial⟩⟩⟩⟩,⟨fok26,⟨fok42,⟨fok74,⟨fok138,⟨fok266,trivial,trivial⟩,trivial⟩,⟨fok202,trivial,trivial⟩⟩,⟨fok106,⟨fok170,⟨fok298,trivial,trivial⟩,trivial⟩,⟨fok234,trivial,trivial⟩⟩⟩,⟨fok58,⟨fok90,⟨fok154,trivial,trivial⟩,⟨fok218,trivial,trivial⟩⟩,⟨fok122,⟨fok186,⟨fok314,trivial,trivial⟩,trivial⟩,⟨fok250,trivial,trivial⟩⟩⟩⟩⟩,⟨fok14,⟨fok22,⟨fok38,⟨fok70,⟨fok134,⟨fok262,trivial,trivial⟩,trivial⟩,⟨fok198,trivial,trivial⟩⟩,⟨fok102,⟨fok166,⟨fok294,trivial,trivial⟩,trivial⟩,⟨fok230,trivial,trivial⟩⟩⟩,⟨fok54,⟨fok86,⟨fok150,trivial,trivial⟩,⟨fok214,trivial,trivial⟩⟩,⟨fok118,⟨fok182,⟨fok310,trivial,trivial⟩,trivial⟩,⟨fok246,trivial,trivial⟩⟩⟩⟩,⟨fok30,⟨fok46,⟨fok78,⟨fok142,⟨fok270,trivial,trivial⟩,trivial⟩,⟨fok206,trivial,trivial⟩⟩,⟨fok110,⟨fok174,⟨fok302,trivial,trivial⟩,trivial⟩,⟨fok238,trivial,trivial⟩⟩⟩,⟨fok62,⟨fok94,⟨fok158,trivial,trivial⟩,⟨fok222,trivial,trivial⟩⟩,⟨fok126,⟨fok190,trivial,trivial⟩,⟨fok254,trivial,trivial⟩⟩⟩⟩⟩⟩⟩⟩
theorem fnF:∀f G,F.get f=some G→FnOk Tryz.prog T f G:=fun f G h=>Tr.allP_spec allF f G h
end Go.Gm.Tryz
end
section
namespace Go.Gm.Tryz
open Go.Proofs
noncomputable section
def env0 (fx:List (Nat×Obj)):FEnv:=⟨T,F,Tr.nil,fx⟩
theorem env0_ok {fx:List (Nat×Obj)}:EnvOk Tryz.prog (env0 fx) where
 tab:=tok
 mix:=mix
 fn:=fnF
 orc:=by
  intro f o ho
  simp only [env0,Tr.get_nil] at ho
  cases ho
def rowsN:List (List Value×TypeId):= [(netX.pts.flatMap encPt,141),(netX.chs.flatMap encCh,143),([0,3].flatMap encI,3)]
def isTup (a b:Int):FR→Bool
 | .val (.tuple ⟨[.int .i64 x,.int .i64 y]⟩) _=>decide (x=a)&&decide (y=b)
 |_=>false
def isInt (a:Int):FR→Bool
 | .val (.int .i64 x) _=>decide (x=a)
 |_=>false
theorem kFed (fx:List (Nat×Obj)):isTup 3 0 (frun (env0 fx) 3000 (.call 78 [.agg #[.slice (some (ga 0 0 0)) 4 3,.slice (some (ga 1 0 0)) 5 4],.slice (some (ga 2 0 0)) 2 1]) (canH fx rowsN))=true:=by kernel_rfl
theorem kLeak (fx:List (Nat×Obj)):isInt 0 (frun (env0 fx) 3000 (.call 76 [.agg #[.slice (some (ga 0 0 0)) 3 1,vi 5,vi 15,vi 1,.slice none 0 0]]) (canH fx [([10,0,20].flatMap encI,3)]))=true:=by kernel_rfl
theorem kTree (fx:List (Nat×Obj)):isInt 0 (frun (env0 fx) 3000 (.call 77 [.agg #[vi 10,.slice (some (ga 0 0 0)) 2 2,.slice (some (ga 1 0 0)) 4 3]]) (canH fx [(treeX.nodes.flatMap encNd,147),(treeX.outs.flatMap encOu,149)]))=true:=by kernel_rfl
end
end Go.Gm.Tryz
end
section
namespace Go.Gm
structure Form where
 word:ByteArray
 many:Int
@[simp] def encForm (f:Form):List Value:= [.string f.word,vi f.many]
structure En where
 kind:Int
 nums:List Int
 deriving DecidableEq,Inhabited
@[simp,reducible] def enV (s:SLoc) (e:En):Value:=.agg #[vi e.kind,.slice s.a e.nums.length s.fl]
namespace Tryz
open Go.Proofs
def formsL:List Form:= [⟨⟨#[119,97,105,116]⟩,1⟩,⟨⟨#[103,105,118,101]⟩,3⟩,⟨⟨#[97,116,116,97,99,104]⟩,3⟩,⟨⟨#[100,105,101]⟩,2⟩,⟨⟨#[115,101,108,108]⟩,2⟩,⟨⟨#[100,105,118,105,100,101]⟩,3⟩,⟨⟨#[106,111,105,110]⟩,2⟩,⟨⟨#[114,101,110,101,119]⟩,2⟩,⟨⟨#[97,115,107]⟩,3⟩,⟨⟨#[109,111,118,101]⟩,1⟩,⟨⟨#[99,108,101,97,110]⟩,1⟩,⟨⟨#[99,111,117,110,116]⟩,3⟩,⟨⟨#[102,111,114,103,101,116]⟩,0⟩,⟨⟨#[105,110,102,108,111,119]⟩,1⟩,⟨⟨#[117,110,100,111]⟩,0⟩]
def manyE (k:Int):Option Int:=if 1≤k∧k≤15 then some ((formsL.map (·.many)).getD (k - 1).toNat 0) else none
theorem cin_con (x lo hi:Int) (H:GH):C 42 [vi x,vi lo,vi hi] H (.bool (inI x lo hi)) H:=by
 refine con_wp tok mix fok42 (F:=g42) (c:=_) rfl (n:=15) rfl (rs:= [.tmp 6]) rfl (anch_closed rfl) ?_
 simp
 refine contG_bool (fun h=>?_) (fun h=>?_)<;>(try simp only [decide_eq_true_eq,decide_eq_false_iff_not] at h)<;>simp [h,inI]
theorem forms_con (H:GH):GCall Tryz.prog 141 [] H fun x H'=>∃s:SLoc,x=.ret (.slice s.a 15 s.fl)∧Sub H H'∧SlIn H' H.next s 2 encForm formsL:=by
 refine gcall_wp tok mix fok141 (F:=g141) (c:=_) rfl (n:=17) rfl (rs:= [.tmp 0]) rfl ?_
 simp
 exact ⟨⟨some (ga H.next 0 0),2⟩,⟨rfl,rfl⟩,slIn_arr (ty:=251) (szs:= []) (by simp) (by simp) (by simp; rfl) (by omega)⟩
theorem many_con (k:Int) (H:GH):C 84 [vi k] H (match manyE k with|some m=>.tuple #[vi m,.bool true]|none=>.tuple #[vi 0,.bool false]) H:=by
 refine con_wp tok mix fok84 (F:=g84) (c:=_) rfl (n:=16) rfl (rs:= [.tmp 2,.tmp 3]) rfl (by split<;>exact anch_tuple (l:= [_,_]) (by simp; exact ⟨anch_closed rfl,anch_closed rfl⟩)) ?_
 simp
 by_cases h:k<1
 ·have:manyE k=none:=by unfold manyE; rw [if_neg (by omega)]
  simp [this,h]
 simp [h]
 by_cases h2:15<k
 ·have:manyE k=none:=by unfold manyE; rw [if_neg (by omega)]
  simp [h2,this]
 have hm:manyE k=some ((formsL.map (·.many)).getD (k - 1).toNat 0):=by unfold manyE; rw [if_pos (by omega)]
 simp [h2]
 refine (forms_con _).mono ?_
 rintro x H1 ⟨s,rfl,a1,h1⟩
 obtain ⟨n,hn⟩:∃n:Nat,k=(n:Int)+1:=⟨(k - 1).toNat,by omega⟩
 have hn15:n<formsL.length:=by simp [formsL]; omega
 obtain ⟨b,hb,hlt,hrd⟩:=h1.1.at n hn15
 have hn':((n:Int))<15:=by omega
 subst hn
 rcases s with ⟨sa,sf⟩
 simp only at hb
 subst hb
 simp (disch:=omega) [hrd,wrap64,hm]
 exact ((Sub.refl H).trans a1)
def isEntryB (e:En):Bool:=match manyE e.kind with|some m=>decide ((e.nums.length:Int)=m)&& !e.nums.any (fun n=> !inI n 0 36500)|none=>false
theorem outE_con (n:Int) (H:GH):C 85 [vi n] H (.bool (!inI n 0 36500)) H:=by
 refine con_wp tok mix fok85 (F:=g85) (c:=_) rfl (n:=6) rfl (rs:= [.tmp 2]) rfl (anch_closed rfl) ?_
 simp
 with_reducible refine (cin_con _ _ _ _).go ?_
 simp
theorem isEntry_con (s:SLoc) (e:En) (H:GH) (hl:e.nums.length≤1000) (hr:Elems H s.a 1 encI e.nums):C 33 [enV s e] H (.bool (isEntryB e)) H:=by
 rcases s with ⟨sa,sf⟩
 refine con_wp tok mix fok33 (F:=g33) (c:=_) rfl (n:=25) rfl (rs:= [.tmp 2]) rfl (anch_closed rfl) ?_
 simp
 refine (many_con _ _).go ?_
 unfold isEntryB
 cases hm:manyE e.kind with
 |none=>simp
 |some m=>
  simp
  by_cases hlm:(e.nums.length:Int)=m
  ·simp [hlm]
   refine (anyInt_con e.nums (by omega) sa sf 85 #[] (fun n=> !inI n 0 36500) _ (hr.push _) (fun k hk=>outE_con _ _)).go ?_
   simp
  ·simp [hlm]
end Tryz
end Go.Gm
end
section
namespace Go.Gm.Tryz
open Go.Proofs
def nthI (l:List Int) (i:Nat):Int:=l.getD i 0
def evE (e:En) (day:Int):Ev:=
 let n:=nthI e.nums
 if e.kind=2 then ⟨1,day,n 0,0,0,0,n 1,n 2⟩ else if e.kind=3 then ⟨2,day,0,0,n 0,0,n 1,n 2⟩ else if e.kind=4 then ⟨3,day,n 0,n 1,0,0,0,0⟩ else
 if e.kind=5 then ⟨4,day,n 1,0,n 0,0,0,0⟩ else if e.kind=6 then ⟨5,day,n 2,0,0,n 0,0,n 1⟩ else if e.kind=7 then ⟨6,day,0,n 1,n 0,0,0,0⟩ else
 if e.kind=8 then ⟨7,day,n 1,0,0,n 0,0,0⟩ else ⟨8,day,n 0,0,0,0,n 1,n 2⟩
def stepV (e:En) (day:Int):Value:=
 let n:=nthI e.nums
 if e.kind=1 then .iface 189 (.agg #[vi (n 0)]) else if e.kind=10 then .iface 194 (.agg #[vi (n 0)]) else if e.kind=11 then .iface 199 (.agg #[vi (n 0)]) else
 if e.kind=12 then .iface 202 (.agg #[vi (n 0),vi (n 1),vi (n 2)]) else if e.kind=13 then .iface 207 (.agg #[]) else if e.kind=14 then .iface 209 (.agg #[vi (n 0)]) else .iface 191 (evV (evE e day))
theorem manyE_of {e:En} (h:isEntryB e=true):∃m:Nat,manyE e.kind=some (m:Int)∧e.nums.length=m∧∀n∈e.nums,0≤n∧n≤36500:=by
 unfold isEntryB at h
 split at h
 ·rename_i m hm
  simp only [Bool.and_eq_true,decide_eq_true_eq,Bool.not_eq_true',List.any_eq_false] at h
  refine ⟨e.nums.length,by rw [hm,h.1],rfl,fun n hn=>?_⟩
  have:=h.2 n hn
  simp [inI] at this
  omega
 ·cases h
theorem kind_of {e:En} (h:isEntryB e=true):1≤e.kind∧e.kind≤15:=by
 obtain ⟨m,hm,_⟩:=manyE_of h
 unfold manyE at hm
 split at hm
 ·assumption
 ·cases hm
theorem vrs_ints {β:Bm}:∀l:List Int,VRs β (l.map vi) (l.map vi)
 | []=>.nil
 |_n::l=>.cons (.int _ _) (vrs_ints l)
theorem vr_ints {β:Bm} (t:TypeId) (l:List Int):VR β (.iface t (.agg (l.map vi).toArray)) (.iface t (.agg (l.map vi).toArray)):=.iface (VR.agg_iff.2 ⟨_,rfl,by simpa using vrs_ints l⟩)
theorem anch_step {args:List Value} {H:GH} (e:En) (day:Int):Anch args H (stepV e day):=.of_VR fun β _ _ _ _=>by
 have h1:∀t (a:Int),VR β (.iface t (.agg #[vi a])) (.iface t (.agg #[vi a])):=fun t a=>vr_ints t [a]
 have h3:∀t (a b c:Int),VR β (.iface t (.agg #[vi a,vi b,vi c])) (.iface t (.agg #[vi a,vi b,vi c])):=fun t a b c=>vr_ints t [a,b,c]
 have h0:∀t,VR β (.iface t (.agg #[])) (.iface t (.agg #[])):=fun t=>vr_ints t []
 have h8:∀t (x:Ev),VR β (.iface t (evV x)) (.iface t (evV x)):=fun t x=>vr_ints t [x.kind,x.day,x.person,x.other,x.estate,x.grant,x.system,x.units]
 unfold stepV
 simp only
 repeat' split
 all_goals first|exact ⟨_,h1 _ _⟩|exact ⟨_,h3 _ _ _ _⟩|exact ⟨_,h0 _⟩|exact ⟨_,h8 _ _⟩
theorem two_of {l:List Int} (h:l.length=2):∃a b,l= [a,b]:=by
 match l,h with
 | [a,b],_=>exact ⟨a,b,rfl⟩
theorem three_of {l:List Int} (h:l.length=3):∃a b c,l= [a,b,c]:=by
 match l,h with
 | [a,b,c],_=>exact ⟨a,b,c,rfl⟩
theorem change1 (s:SLoc) (l:List Int) (day:Int) (H:GH) (hlen:l.length=1) (hr:Elems H s.a 1 encI l):C 89 [enV s ⟨1,l⟩,vi day] H (stepV ⟨1,l⟩ day) H:=by
 rcases s with ⟨sa,sf⟩
 refine con_wp tok mix fok89 (F:=g89) (c:=_) rfl (n:=151) rfl (rs:= [.tmp 4]) rfl (anch_step _ _) ?_
 obtain ⟨a,rfl⟩:=List.length_eq_one_iff.1 hlen
 obtain ⟨w,e0,hb,d0⟩:=hr.at 0 (by simp)
 simp only at e0
 subst e0
 have p0:∀h o,GH.read (GH.put h (H.next+1) o) (ea w 0 1 0) 1=h.read (ea w 0 1 0) 1:=fun h o=>read_put _ _ _ _ (by have:(ea w 0 1 0).block=w.block:=rfl; omega)
 have q0:∀o o',((H.push o).push o').read (ea w 0 1 0) 1=H.read (ea w 0 1 0) 1:=fun o o'=>by rw [read_push _ _ _ (by have:(ea w 0 1 0).block=w.block:=rfl; simp; omega),read_push _ _ _ (by exact hb)]
 simp (disch:=omega) [d0,stepV,nthI]
 repeat (first|exact Sub.refl _|refine Sub.put ?_ (by omega) _|refine Sub.push ?_ _)
theorem change2 (s:SLoc) (l:List Int) (day:Int) (H:GH) (hlen:l.length=3) (hr:Elems H s.a 1 encI l):C 89 [enV s ⟨2,l⟩,vi day] H (stepV ⟨2,l⟩ day) H:=by
 rcases s with ⟨sa,sf⟩
 refine con_wp tok mix fok89 (F:=g89) (c:=_) rfl (n:=151) rfl (rs:= [.tmp 4]) rfl (anch_step _ _) ?_
 obtain ⟨a,b,c,rfl⟩:=three_of hlen
 obtain ⟨w,e0,hb,d0⟩:=hr.at 0 (by simp)
 simp only at e0
 subst e0
 obtain ⟨w1,e1,_,d1⟩:=hr.at 1 (by simp)
 cases e1
 obtain ⟨w2,e2,_,d2⟩:=hr.at 2 (by simp)
 cases e2
 have p0:∀h o,GH.read (GH.put h (H.next+1) o) (ea w 0 1 0) 1=h.read (ea w 0 1 0) 1:=fun h o=>read_put _ _ _ _ (by have:(ea w 0 1 0).block=w.block:=rfl; omega)
 have q0:∀o o',((H.push o).push o').read (ea w 0 1 0) 1=H.read (ea w 0 1 0) 1:=fun o o'=>by rw [read_push _ _ _ (by have:(ea w 0 1 0).block=w.block:=rfl; simp; omega),read_push _ _ _ (by exact hb)]
 have p1:∀h o,GH.read (GH.put h (H.next+1) o) (ea w 1 1 0) 1=h.read (ea w 1 1 0) 1:=fun h o=>read_put _ _ _ _ (by have:(ea w 1 1 0).block=w.block:=rfl; omega)
 have q1:∀o o',((H.push o).push o').read (ea w 1 1 0) 1=H.read (ea w 1 1 0) 1:=fun o o'=>by rw [read_push _ _ _ (by have:(ea w 1 1 0).block=w.block:=rfl; simp; omega),read_push _ _ _ (by exact hb)]
 have p2:∀h o,GH.read (GH.put h (H.next+1) o) (ea w 2 1 0) 1=h.read (ea w 2 1 0) 1:=fun h o=>read_put _ _ _ _ (by have:(ea w 2 1 0).block=w.block:=rfl; omega)
 have q2:∀o o',((H.push o).push o').read (ea w 2 1 0) 1=H.read (ea w 2 1 0) 1:=fun o o'=>by rw [read_push _ _ _ (by have:(ea w 2 1 0).block=w.block:=rfl; simp; omega),read_push _ _ _ (by exact hb)]
 simp (disch:=omega) [d0,p0,q0,d1,p1,q1,d2,p2,q2,stepV,evE,nthI,wrap64]
 repeat (first|exact Sub.refl _|refine Sub.put ?_ (by omega) _|refine Sub.push ?_ _)
theorem change3 (s:SLoc) (l:List Int) (day:Int) (H:GH) (hlen:l.length=3) (hr:Elems H s.a 1 encI l):C 89 [enV s ⟨3,l⟩,vi day] H (stepV ⟨3,l⟩ day) H:=by
 rcases s with ⟨sa,sf⟩
 refine con_wp tok mix fok89 (F:=g89) (c:=_) rfl (n:=151) rfl (rs:= [.tmp 4]) rfl (anch_step _ _) ?_
 obtain ⟨a,b,c,rfl⟩:=three_of hlen
 obtain ⟨w,e0,hb,d0⟩:=hr.at 0 (by simp)
 simp only at e0
 subst e0
 obtain ⟨w1,e1,_,d1⟩:=hr.at 1 (by simp)
 cases e1
 obtain ⟨w2,e2,_,d2⟩:=hr.at 2 (by simp)
 cases e2
 have p0:∀h o,GH.read (GH.put h (H.next+1) o) (ea w 0 1 0) 1=h.read (ea w 0 1 0) 1:=fun h o=>read_put _ _ _ _ (by have:(ea w 0 1 0).block=w.block:=rfl; omega)
 have q0:∀o o',((H.push o).push o').read (ea w 0 1 0) 1=H.read (ea w 0 1 0) 1:=fun o o'=>by rw [read_push _ _ _ (by have:(ea w 0 1 0).block=w.block:=rfl; simp; omega),read_push _ _ _ (by exact hb)]
 have p1:∀h o,GH.read (GH.put h (H.next+1) o) (ea w 1 1 0) 1=h.read (ea w 1 1 0) 1:=fun h o=>read_put _ _ _ _ (by have:(ea w 1 1 0).block=w.block:=rfl; omega)
 have q1:∀o o',((H.push o).push o').read (ea w 1 1 0) 1=H.read (ea w 1 1 0) 1:=fun o o'=>by rw [read_push _ _ _ (by have:(ea w 1 1 0).block=w.block:=rfl; simp; omega),read_push _ _ _ (by exact hb)]
 have p2:∀h o,GH.read (GH.put h (H.next+1) o) (ea w 2 1 0) 1=h.read (ea w 2 1 0) 1:=fun h o=>read_put _ _ _ _ (by have:(ea w 2 1 0).block=w.block:=rfl; omega)
 have q2:∀o o',((H.push o).push o').read (ea w 2 1 0) 1=H.read (ea w 2 1 0) 1:=fun o o'=>by rw [read_push _ _ _ (by have:(ea w 2 1 0).block=w.block:=rfl; simp; omega),read_push _ _ _ (by exact hb)]
 simp (disch:=omega) [d0,p0,q0,d1,p1,q1,d2,p2,q2,stepV,evE,nthI,wrap64]
 repeat (first|exact Sub.refl _|refine Sub.put ?_ (by omega) _|refine Sub.push ?_ _)
theorem change4 (s:SLoc) (l:List Int) (day:Int) (H:GH) (hlen:l.length=2) (hr:Elems H s.a 1 encI l):C 89 [enV s ⟨4,l⟩,vi day] H (stepV ⟨4,l⟩ day) H:=by
 rcases s with ⟨sa,sf⟩
 refine con_wp tok mix fok89 (F:=g89) (c:=_) rfl (n:=151) rfl (rs:= [.tmp 4]) rfl (anch_step _ _) ?_
 obtain ⟨a,b,rfl⟩:=two_of hlen
 obtain ⟨w,e0,hb,d0⟩:=hr.at 0 (by simp)
 simp only at e0
 subst e0
 obtain ⟨w1,e1,_,d1⟩:=hr.at 1 (by simp)
 cases e1
 have p0:∀h o,GH.read (GH.put h (H.next+1) o) (ea w 0 1 0) 1=h.read (ea w 0 1 0) 1:=fun h o=>read_put _ _ _ _ (by have:(ea w 0 1 0).block=w.block:=rfl; omega)
 have q0:∀o o',((H.push o).push o').read (ea w 0 1 0) 1=H.read (ea w 0 1 0) 1:=fun o o'=>by rw [read_push _ _ _ (by have:(ea w 0 1 0).block=w.block:=rfl; simp; omega),read_push _ _ _ (by exact hb)]
 have p1:∀h o,GH.read (GH.put h (H.next+1) o) (ea w 1 1 0) 1=h.read (ea w 1 1 0) 1:=fun h o=>read_put _ _ _ _ (by have:(ea w 1 1 0).block=w.block:=rfl; omega)
 have q1:∀o o',((H.push o).push o').read (ea w 1 1 0) 1=H.read (ea w 1 1 0) 1:=fun o o'=>by rw [read_push _ _ _ (by have:(ea w 1 1 0).block=w.block:=rfl; simp; omega),read_push _ _ _ (by exact hb)]
 simp (disch:=omega) [d0,p0,q0,d1,p1,q1,stepV,evE,nthI,wrap64]
 repeat (first|exact Sub.refl _|refine Sub.put ?_ (by omega) _|refine Sub.push ?_ _)
theorem change5 (s:SLoc) (l:List Int) (day:Int) (H:GH) (hlen:l.length=2) (hr:Elems H s.a 1 encI l):C 89 [enV s ⟨5,l⟩,vi day] H (stepV ⟨5,l⟩ day) H:=by
 rcases s with ⟨sa,sf⟩
 refine con_wp tok mix fok89 (F:=g89) (c:=_) rfl (n:=151) rfl (rs:= [.tmp 4]) rfl (anch_step _ _) ?_
 obtain ⟨a,b,rfl⟩:=two_of hlen
 obtain ⟨w,e0,hb,d0⟩:=hr.at 0 (by simp)
 simp only at e0
 subst e0
 obtain ⟨w1,e1,_,d1⟩:=hr.at 1 (by simp)
 cases e1
 have p0:∀h o,GH.read (GH.put h (H.next+1) o) (ea w 0 1 0) 1=h.read (ea w 0 1 0) 1:=fun h o=>read_put _ _ _ _ (by have:(ea w 0 1 0).block=w.block:=rfl; omega)
 have q0:∀o o',((H.push o).push o').read (ea w 0 1 0) 1=H.read (ea w 0 1 0) 1:=fun o o'=>by rw [read_push _ _ _ (by have:(ea w 0 1 0).block=w.block:=rfl; simp; omega),read_push _ _ _ (by exact hb)]
 have p1:∀h o,GH.read (GH.put h (H.next+1) o) (ea w 1 1 0) 1=h.read (ea w 1 1 0) 1:=fun h o=>read_put _ _ _ _ (by have:(ea w 1 1 0).block=w.block:=rfl; omega)
 have q1:∀o o',((H.push o).push o').read (ea w 1 1 0) 1=H.read (ea w 1 1 0) 1:=fun o o'=>by rw [read_push _ _ _ (by have:(ea w 1 1 0).block=w.block:=rfl; simp; omega),read_push _ _ _ (by exact hb)]
 simp (disch:=omega) [d0,p0,q0,d1,p1,q1,stepV,evE,nthI,wrap64]
 repeat (first|exact Sub.refl _|refine Sub.put ?_ (by omega) _|refine Sub.push ?_ _)
theorem change6 (s:SLoc) (l:List Int) (day:Int) (H:GH) (hlen:l.length=3) (hr:Elems H s.a 1 encI l):C 89 [enV s ⟨6,l⟩,vi day] H (stepV ⟨6,l⟩ day) H:=by
 rcases s with ⟨sa,sf⟩
 refine con_wp tok mix fok89 (F:=g89) (c:=_) rfl (n:=151) rfl (rs:= [.tmp 4]) rfl (anch_step _ _) ?_
 obtain ⟨a,b,c,rfl⟩:=three_of hlen
 obtain ⟨w,e0,hb,d0⟩:=hr.at 0 (by simp)
 simp only at e0
 subst e0
 obtain ⟨w1,e1,_,d1⟩:=hr.at 1 (by simp)
 cases e1
 obtain ⟨w2,e2,_,d2⟩:=hr.at 2 (by simp)
 cases e2
 have p0:∀h o,GH.read (GH.put h (H.next+1) o) (ea w 0 1 0) 1=h.read (ea w 0 1 0) 1:=fun h o=>read_put _ _ _ _ (by have:(ea w 0 1 0).block=w.block:=rfl; omega)
 have q0:∀o o',((H.push o).push o').read (ea w 0 1 0) 1=H.read (ea w 0 1 0) 1:=fun o o'=>by rw [read_push _ _ _ (by have:(ea w 0 1 0).block=w.block:=rfl; simp; omega),read_push _ _ _ (by exact hb)]
 have p1:∀h o,GH.read (GH.put h (H.next+1) o) (ea w 1 1 0) 1=h.read (ea w 1 1 0) 1:=fun h o=>read_put _ _ _ _ (by have:(ea w 1 1 0).block=w.block:=rfl; omega)
 have q1:∀o o',((H.push o).push o').read (ea w 1 1 0) 1=H.read (ea w 1 1 0) 1:=fun o o'=>by rw [read_push _ _ _ (by have:(ea w 1 1 0).block=w.block:=rfl; simp; omega),read_push _ _ _ (by exact hb)]
 have p2:∀h o,GH.read (GH.put h (H.next+1) o) (ea w 2 1 0) 1=h.read (ea w 2 1 0) 1:=fun h o=>read_put _ _ _ _ (by have:(ea w 2 1 0).block=w.block:=rfl; omega)
 have q2:∀o o',((H.push o).push o').read (ea w 2 1 0) 1=H.read (ea w 2 1 0) 1:=fun o o'=>by rw [read_push _ _ _ (by have:(ea w 2 1 0).block=w.block:=rfl; simp; omega),read_push _ _ _ (by exact hb)]
 simp (disch:=omega) [d0,p0,q0,d1,p1,q1,d2,p2,q2,stepV,evE,nthI,wrap64]
 repeat (first|exact Sub.refl _|refine Sub.put ?_ (by omega) _|refine Sub.push ?_ _)
theorem change7 (s:SLoc) (l:List Int) (day:Int) (H:GH) (hlen:l.length=2) (hr:Elems H s.a 1 encI l):C 89 [enV s ⟨7,l⟩,vi day] H (stepV ⟨7,l⟩ day) H:=by
 rcases s with ⟨sa,sf⟩
 refine con_wp tok mix fok89 (F:=g89) (c:=_) rfl (n:=151) rfl (rs:= [.tmp 4]) rfl (anch_step _ _) ?_
 obtain ⟨a,b,rfl⟩:=two_of hlen
 obtain ⟨w,e0,hb,d0⟩:=hr.at 0 (by simp)
 simp only at e0
 subst e0
 obtain ⟨w1,e1,_,d1⟩:=hr.at 1 (by simp)
 cases e1
 have p0:∀h o,GH.read (GH.put h (H.next+1) o) (ea w 0 1 0) 1=h.read (ea w 0 1 0) 1:=fun h o=>read_put _ _ _ _ (by have:(ea w 0 1 0).block=w.block:=rfl; omega)
 have q0:∀o o',((H.push o).push o').read (ea w 0 1 0) 1=H.read (ea w 0 1 0) 1:=fun o o'=>by rw [read_push _ _ _ (by have:(ea w 0 1 0).block=w.block:=rfl; simp; omega),read_push _ _ _ (by exact hb)]
 have p1:∀h o,GH.read (GH.put h (H.next+1) o) (ea w 1 1 0) 1=h.read (ea w 1 1 0) 1:=fun h o=>read_put _ _ _ _ (by have:(ea w 1 1 0).block=w.block:=rfl; omega)
 have q1:∀o o',((H.push o).push o').read (ea w 1 1 0) 1=H.read (ea w 1 1 0) 1:=fun o o'=>by rw [read_push _ _ _ (by have:(ea w 1 1 0).block=w.block:=rfl; simp; omega),read_push _ _ _ (by exact hb)]
 simp (disch:=omega) [d0,p0,q0,d1,p1,q1,stepV,evE,nthI,wrap64]
 repeat (first|exact Sub.refl _|refine Sub.put ?_ (by omega) _|refine Sub.push ?_ _)
theorem change8 (s:SLoc) (l:List Int) (day:Int) (H:GH) (hlen:l.length=2) (hr:Elems H s.a 1 encI l):C 89 [enV s ⟨8,l⟩,vi day] H (stepV ⟨8,l⟩ day) H:=by
 rcases s with ⟨sa,sf⟩
 refine con_wp tok mix fok89 (F:=g89) (c:=_) rfl (n:=151) rfl (rs:= [.tmp 4]) rfl (anch_step _ _) ?_
 obtain ⟨a,b,rfl⟩:=two_of hlen
 obtain ⟨w,e0,hb,d0⟩:=hr.at 0 (by simp)
 simp only at e0
 subst e0
 obtain ⟨w1,e1,_,d1⟩:=hr.at 1 (by simp)
 cases e1
 have p0:∀h o,GH.read (GH.put h (H.next+1) o) (ea w 0 1 0) 1=h.read (ea w 0 1 0) 1:=fun h o=>read_put _ _ _ _ (by have:(ea w 0 1 0).block=w.block:=rfl; omega)
 have q0:∀o o',((H.push o).push o').read (ea w 0 1 0) 1=H.read (ea w 0 1 0) 1:=fun o o'=>by rw [read_push _ _ _ (by have:(ea w 0 1 0).block=w.block:=rfl; simp; omega),read_push _ _ _ (by exact hb)]
 have p1:∀h o,GH.read (GH.put h (H.next+1) o) (ea w 1 1 0) 1=h.read (ea w 1 1 0) 1:=fun h o=>read_put _ _ _ _ (by have:(ea w 1 1 0).block=w.block:=rfl; omega)
 have q1:∀o o',((H.push o).push o').read (ea w 1 1 0) 1=H.read (ea w 1 1 0) 1:=fun o o'=>by rw [read_push _ _ _ (by have:(ea w 1 1 0).block=w.block:=rfl; simp; omega),read_push _ _ _ (by exact hb)]
 simp (disch:=omega) [d0,p0,q0,d1,p1,q1,stepV,evE,nthI,wrap64]
 repeat (first|exact Sub.refl _|refine Sub.put ?_ (by omega) _|refine Sub.push ?_ _)
theorem change9 (s:SLoc) (l:List Int) (day:Int) (H:GH) (hlen:l.length=3) (hr:Elems H s.a 1 encI l):C 89 [enV s ⟨9,l⟩,vi day] H (stepV ⟨9,l⟩ day) H:=by
 rcases s with ⟨sa,sf⟩
 refine con_wp tok mix fok89 (F:=g89) (c:=_) rfl (n:=151) rfl (rs:= [.tmp 4]) rfl (anch_step _ _) ?_
 obtain ⟨a,b,c,rfl⟩:=three_of hlen
 obtain ⟨w,e0,hb,d0⟩:=hr.at 0 (by simp)
 simp only at e0
 subst e0
 obtain ⟨w1,e1,_,d1⟩:=hr.at 1 (by simp)
 cases e1
 obtain ⟨w2,e2,_,d2⟩:=hr.at 2 (by simp)
 cases e2
 have p0:∀h o,GH.read (GH.put h (H.next+1) o) (ea w 0 1 0) 1=h.read (ea w 0 1 0) 1:=fun h o=>read_put _ _ _ _ (by have:(ea w 0 1 0).block=w.block:=rfl; omega)
 have q0:∀o o',((H.push o).push o').read (ea w 0 1 0) 1=H.read (ea w 0 1 0) 1:=fun o o'=>by rw [read_push _ _ _ (by have:(ea w 0 1 0).block=w.block:=rfl; simp; omega),read_push _ _ _ (by exact hb)]
 have p1:∀h o,GH.read (GH.put h (H.next+1) o) (ea w 1 1 0) 1=h.read (ea w 1 1 0) 1:=fun h o=>read_put _ _ _ _ (by have:(ea w 1 1 0).block=w.block:=rfl; omega)
 have q1:∀o o',((H.push o).push o').read (ea w 1 1 0) 1=H.read (ea w 1 1 0) 1:=fun o o'=>by rw [read_push _ _ _ (by have:(ea w 1 1 0).block=w.block:=rfl; simp; omega),read_push _ _ _ (by exact hb)]
 have p2:∀h o,GH.read (GH.put h (H.next+1) o) (ea w 2 1 0) 1=h.read (ea w 2 1 0) 1:=fun h o=>read_put _ _ _ _ (by have:(ea w 2 1 0).block=w.block:=rfl; omega)
 have q2:∀o o',((H.push o).push o').read (ea w 2 1 0) 1=H.read (ea w 2 1 0) 1:=fun o o'=>by rw [read_push _ _ _ (by have:(ea w 2 1 0).block=w.block:=rfl; simp; omega),read_push _ _ _ (by exact hb)]
 simp (disch:=omega) [d0,p0,q0,d1,p1,q1,d2,p2,q2,stepV,evE,nthI,wrap64]
 repeat (first|exact Sub.refl _|refine Sub.put ?_ (by omega) _|refine Sub.push ?_ _)
theorem change10 (s:SLoc) (l:List Int) (day:Int) (H:GH) (hlen:l.length=1) (hr:Elems H s.a 1 encI l):C 89 [enV s ⟨10,l⟩,vi day] H (stepV ⟨10,l⟩ day) H:=by
 rcases s with ⟨sa,sf⟩
 refine con_wp tok mix fok89 (F:=g89) (c:=_) rfl (n:=151) rfl (rs:= [.tmp 4]) rfl (anch_step _ _) ?_
 obtain ⟨a,rfl⟩:=List.length_eq_one_iff.1 hlen
 obtain ⟨w,e0,hb,d0⟩:=hr.at 0 (by simp)
 simp only at e0
 subst e0
 have p0:∀h o,GH.read (GH.put h (H.next+1) o) (ea w 0 1 0) 1=h.read (ea w 0 1 0) 1:=fun h o=>read_put _ _ _ _ (by have:(ea w 0 1 0).block=w.block:=rfl; omega)
 have q0:∀o o',((H.push o).push o').read (ea w 0 1 0) 1=H.read (ea w 0 1 0) 1:=fun o o'=>by rw [read_push _ _ _ (by have:(ea w 0 1 0).block=w.block:=rfl; simp; omega),read_push _ _ _ (by exact hb)]
 simp (disch:=omega) [d0,stepV,nthI]
 repeat (first|exact Sub.refl _|refine Sub.put ?_ (by omega) _|refine Sub.push ?_ _)
theorem change11 (s:SLoc) (l:List Int) (day:Int) (H:GH) (hlen:l.length=1) (hr:Elems H s.a 1 encI l):C 89 [enV s ⟨11,l⟩,vi day] H (stepV ⟨11,l⟩ day) H:=by
 rcases s with ⟨sa,sf⟩
 refine con_wp tok mix fok89 (F:=g89) (c:=_) rfl (n:=151) rfl (rs:= [.tmp 4]) rfl (anch_step _ _) ?_
 obtain ⟨a,rfl⟩:=List.length_eq_one_iff.1 hlen
 obtain ⟨w,e0,hb,d0⟩:=hr.at 0 (by simp)
 simp only at e0
 subst e0
 have p0:∀h o,GH.read (GH.put h (H.next+1) o) (ea w 0 1 0) 1=h.read (ea w 0 1 0) 1:=fun h o=>read_put _ _ _ _ (by have:(ea w 0 1 0).block=w.block:=rfl; omega)
 have q0:∀o o',((H.push o).push o').read (ea w 0 1 0) 1=H.read (ea w 0 1 0) 1:=fun o o'=>by rw [read_push _ _ _ (by have:(ea w 0 1 0).block=w.block:=rfl; simp; omega),read_push _ _ _ (by exact hb)]
 simp (disch:=omega) [d0,stepV,nthI]
 repeat (first|exact Sub.refl _|refine Sub.put ?_ (by omega) _|refine Sub.push ?_ _)
theorem change12 (s:SLoc) (l:List Int) (day:Int) (H:GH) (hlen:l.length=3) (hr:Elems H s.a 1 encI l):C 89 [enV s ⟨12,l⟩,vi day] H (stepV ⟨12,l⟩ day) H:=by
 rcases s with ⟨sa,sf⟩
 refine con_wp tok mix fok89 (F:=g89) (c:=_) rfl (n:=151) rfl (rs:= [.tmp 4]) rfl (anch_step _ _) ?_
 obtain ⟨a,b,c,rfl⟩:=three_of hlen
 obtain ⟨w,e0,hb,d0⟩:=hr.at 0 (by simp)
 simp only at e0
 subst e0
 obtain ⟨w1,e1,_,d1⟩:=hr.at 1 (by simp)
 cases e1
 obtain ⟨w2,e2,_,d2⟩:=hr.at 2 (by simp)
 cases e2
 have p0:∀h o,GH.read (GH.put h (H.next+1) o) (ea w 0 1 0) 1=h.read (ea w 0 1 0) 1:=fun h o=>read_put _ _ _ _ (by have:(ea w 0 1 0).block=w.block:=rfl; omega)
 have q0:∀o o',((H.push o).push o').read (ea w 0 1 0) 1=H.read (ea w 0 1 0) 1:=fun o o'=>by rw [read_push _ _ _ (by have:(ea w 0 1 0).block=w.block:=rfl; simp; omega),read_push _ _ _ (by exact hb)]
 have p1:∀h o,GH.read (GH.put h (H.next+1) o) (ea w 1 1 0) 1=h.read (ea w 1 1 0) 1:=fun h o=>read_put _ _ _ _ (by have:(ea w 1 1 0).block=w.block:=rfl; omega)
 have q1:∀o o',((H.push o).push o').read (ea w 1 1 0) 1=H.read (ea w 1 1 0) 1:=fun o o'=>by rw [read_push _ _ _ (by have:(ea w 1 1 0).block=w.block:=rfl; simp; omega),read_push _ _ _ (by exact hb)]
 have p2:∀h o,GH.read (GH.put h (H.next+1) o) (ea w 2 1 0) 1=h.read (ea w 2 1 0) 1:=fun h o=>read_put _ _ _ _ (by have:(ea w 2 1 0).block=w.block:=rfl; omega)
 have q2:∀o o',((H.push o).push o').read (ea w 2 1 0) 1=H.read (ea w 2 1 0) 1:=fun o o'=>by rw [read_push _ _ _ (by have:(ea w 2 1 0).block=w.block:=rfl; simp; omega),read_push _ _ _ (by exact hb)]
 simp (disch:=omega) [d0,d1,d2,stepV,nthI]
 repeat (first|exact Sub.refl _|refine Sub.put ?_ (by omega) _|refine Sub.push ?_ _)
theorem change13 (s:SLoc) (l:List Int) (day:Int) (H:GH) (hlen:l.length=0) (hr:Elems H s.a 1 encI l):C 89 [enV s ⟨13,l⟩,vi day] H (stepV ⟨13,l⟩ day) H:=by
 rcases s with ⟨sa,sf⟩
 refine con_wp tok mix fok89 (F:=g89) (c:=_) rfl (n:=151) rfl (rs:= [.tmp 4]) rfl (anch_step _ _) ?_
 have:l= []:=by simpa using hlen
 subst this
 simp (disch:=omega) [stepV]
 repeat (first|exact Sub.refl _|refine Sub.put ?_ (by omega) _|refine Sub.push ?_ _)
theorem change14 (s:SLoc) (l:List Int) (day:Int) (H:GH) (hlen:l.length=1) (hr:Elems H s.a 1 encI l):C 89 [enV s ⟨14,l⟩,vi day] H (stepV ⟨14,l⟩ day) H:=by
 rcases s with ⟨sa,sf⟩
 refine con_wp tok mix fok89 (F:=g89) (c:=_) rfl (n:=151) rfl (rs:= [.tmp 4]) rfl (anch_step _ _) ?_
 obtain ⟨a,rfl⟩:=List.length_eq_one_iff.1 hlen
 obtain ⟨w,e0,hb,d0⟩:=hr.at 0 (by simp)
 simp only at e0
 subst e0
 have p0:∀h o,GH.read (GH.put h (H.next+1) o) (ea w 0 1 0) 1=h.read (ea w 0 1 0) 1:=fun h o=>read_put _ _ _ _ (by have:(ea w 0 1 0).block=w.block:=rfl; omega)
 have q0:∀o o',((H.push o).push o').read (ea w 0 1 0) 1=H.read (ea w 0 1 0) 1:=fun o o'=>by rw [read_push _ _ _ (by have:(ea w 0 1 0).block=w.block:=rfl; simp; omega),read_push _ _ _ (by exact hb)]
 simp (disch:=omega) [d0,stepV,nthI]
 repeat (first|exact Sub.refl _|refine Sub.put ?_ (by omega) _|refine Sub.push ?_ _)
theorem change_con (s:SLoc) (e:En) (day:Int) (H:GH) (he:isEntryB e=true) (h15:e.kind≠15) (hr:Elems H s.a 1 encI e.nums):C 89 [enV s e,vi day] H (stepV e day) H:=by
 obtain ⟨m,hm,hlen,hbd⟩:=manyE_of he
 obtain ⟨k1,k2⟩:=kind_of he
 rcases e with ⟨k,l⟩
 simp only at hm hlen hbd k1 k2 h15 hr ⊢
 have hk:k=1∨k=2∨k=3∨k=4∨k=5∨k=6∨k=7∨k=8∨k=9∨k=10∨k=11∨k=12∨k=13∨k=14:=by omega
 clear k1 k2 h15
 rcases hk with rfl|rfl|rfl|rfl|rfl|rfl|rfl|rfl|rfl|rfl|rfl|rfl|rfl|rfl
 ·exact change1 s l day H (by simp [manyE,formsL] at hm; omega) hr
 ·exact change2 s l day H (by simp [manyE,formsL] at hm; omega) hr
 ·exact change3 s l day H (by simp [manyE,formsL] at hm; omega) hr
 ·exact change4 s l day H (by simp [manyE,formsL] at hm; omega) hr
 ·exact change5 s l day H (by simp [manyE,formsL] at hm; omega) hr
 ·exact change6 s l day H (by simp [manyE,formsL] at hm; omega) hr
 ·exact change7 s l day H (by simp [manyE,formsL] at hm; omega) hr
 ·exact change8 s l day H (by simp [manyE,formsL] at hm; omega) hr
 ·exact change9 s l day H (by simp [manyE,formsL] at hm; omega) hr
 ·exact change10 s l day H (by simp [manyE,formsL] at hm; omega) hr
 ·exact change11 s l day H (by simp [manyE,formsL] at hm; omega) hr
 ·exact change12 s l day H (by simp [manyE,formsL] at hm; omega) hr
 ·exact change13 s l day H (by simp [manyE,formsL] at hm; omega) hr
 ·exact change14 s l day H (by simp [manyE,formsL] at hm; omega) hr
end Go.Gm.Tryz
end
section
namespace Go.Gm.Tryz
open Go.Proofs
def isGateB (n:Net) (c:Int):Bool:=inI c 0 ((n.chs.length:Int) - 1)&&(n.chs.getD c.toNat default).gate
theorem isGate_con (L:NLoc) (n:Net) (c:Int) (H:GH) (hl:n.chs.length≤1000) (hi:Elems H L.chs.a 4 encCh n.chs):C 92 [netV L n,vi c] H (.bool (isGateB n c)) H:=by
 rcases L with ⟨⟨pa,pf⟩,⟨ca,cf⟩⟩
 refine con_wp tok mix fok92 (F:=g92) (c:=_) rfl (n:=19) rfl (rs:= [.tmp 4]) rfl (anch_closed rfl) ?_
 simp (disch:=omega) [wrap64]
 with_reducible refine (cin_con _ _ _ _).go ?_
 unfold isGateB
 cases hc:inI c 0 ((n.chs.length:Int) - 1)
 ·simp
 ·have hc':0≤c∧c<n.chs.length:=by simp [inI] at hc; omega
  obtain ⟨k,rfl⟩:∃k:Nat,c=(k:Int):=⟨c.toNat,by omega⟩
  have hk:k<n.chs.length:=by omega
  obtain ⟨b,e,hb,hrd⟩:=hi.at k hk
  simp only at e
  subst e
  have q:∀o,(H.push o).read (ea b k 4 3) 1=H.read (ea b k 4 3) 1:=fun o=>read_push _ _ _ (by exact hb)
  have e4:(n.chs.getD k default).gate=(n.chs[k]).gate:=by rw [getD_at hk]
  simp (disch:=omega) [hrd,q]
  simp
theorem kind289_con (a:Int) (H:GH):C 289 [.agg #[vi a]] H (vi 1) H:=by
 refine con_wp tok mix fok289 (F:=g289) (c:=_) rfl (n:=3) rfl (rs:= [.tmp 2]) rfl (anch_closed rfl) ?_
 simp
theorem kind291_con (a:Int) (H:GH):C 291 [.agg #[vi a]] H (vi 10) H:=by
 refine con_wp tok mix fok291 (F:=g291) (c:=_) rfl (n:=3) rfl (rs:= [.tmp 2]) rfl (anch_closed rfl) ?_
 simp
theorem kind292_con (a:Int) (H:GH):C 292 [.agg #[vi a]] H (vi 11) H:=by
 refine con_wp tok mix fok292 (F:=g292) (c:=_) rfl (n:=3) rfl (rs:= [.tmp 2]) rfl (anch_closed rfl) ?_
 simp
theorem kind293_con (a b c:Int) (H:GH):C 293 [.agg #[vi a,vi b,vi c]] H (vi 12) H:=by
 refine con_wp tok mix fok293 (F:=g293) (c:=_) rfl (n:=3) rfl (rs:= [.tmp 2]) rfl (anch_closed rfl) ?_
 simp
theorem kind294_con (H:GH):C 294 [.agg #[]] H (vi 13) H:=by
 refine con_wp tok mix fok294 (F:=g294) (c:=_) rfl (n:=3) rfl (rs:= [.tmp 2]) rfl (anch_closed rfl) ?_
 simp
theorem kind295_con (a:Int) (H:GH):C 295 [.agg #[vi a]] H (vi 14) H:=by
 refine con_wp tok mix fok295 (F:=g295) (c:=_) rfl (n:=3) rfl (rs:= [.tmp 2]) rfl (anch_closed rfl) ?_
 simp
theorem kind290_con (x:Ev) (H:GH):C 290 [evV x] H (vi (IntKind.i64.wrap (2+IntKind.i64.wrap (x.kind - 1)))) H:=by
 refine con_wp tok mix fok290 (F:=g290) (c:=_) rfl (n:=8) rfl (rs:= [.tmp 2]) rfl (anch_closed rfl) ?_
 simp
theorem sure_con (b:Bool) (e:En) (day:Int) (g:Nat) (H:GH) (hg:H.get g=some (.arr { cells:= [stepV e day],ty:=184 })):
  GCall Tryz.prog 90 [.bool b,.pointer (some (ga g 0 0))] H fun x h=>(b=true∧x=.ret (.tuple #[])∧h=H)∨(b=false∧(∃k,x=.pan (.iface 180 (.agg #[vi k])))∧Sub H h):=by
 refine gcall_wp tok mix fok90 (F:=g90) (c:=_) rfl (n:=9) rfl (rs:= []) rfl ?_
 simp
 cases b
 ·simp [hg]
  unfold stepV
  simp only
  repeat' split
  ·simp
   refine (kind289_con _ _).go ?_
   simp
  ·simp
   refine (kind291_con _ _).go ?_
   simp
  ·simp
   refine (kind292_con _ _).go ?_
   simp
  ·simp
   refine (kind293_con _ _ _ _).go ?_
   simp
  ·simp
   refine (kind294_con _).go ?_
   simp
  ·simp
   refine (kind295_con _ _).go ?_
   simp
  ·simp
   refine (kind290_con _ _).go ?_
   simp
 ·simp
end Go.Gm.Tryz
end
section
namespace Go.Gm.Tryz
open Go.Proofs
abbrev Mp:=List (Int×Int×Nat)
def encM (es:Mp):List (Value×Value×Nat):=es.map fun x=>(vi x.1,vi x.2.1,x.2.2)
def Mp.at (es:Mp) (k:Int):Int:=match es with
 | []=>0
 |(k',v,_)::es=>if k=k' then v else Mp.at es k
def Mp.has (es:Mp) (k:Int):Option Nat:=match es with
 | []=>none
 |(k',_,_)::es=>if k=k' then some 0 else (Mp.has es k).map (· +1)
theorem eqKey3 (x y:Int):eqKey T 3 (vi x) (vi y)=some (decide (x=y)):=by
 have h:(T.get 3).map (·.kind)=some (.int .i64):=rfl
 unfold eqKey
 cases h3:T.get 3 with
 |none=>rw [h3] at h; cases h
 |some r=>
  rw [h3] at h
  simp only [Option.map_some,Option.some.injEq] at h
  simp only [h]
  simp only [eqCell]
  by_cases hxy:x=y
  ·subst hxy; simp
  ·simp [hxy]
theorem look_ok (k:Int):∀(es:Mp) (i:Nat),lookKey (eqKey T 3) (vi k) (encM es) i=some (match (Mp.has es k) with|some j=>some (i+j,vi ((Mp.at es k)))|none=>none)
 | [],i=>rfl
 |(k',v,c)::es,i=>by
  simp only [encM,List.map_cons,lookKey,eqKey3,Mp.has,Mp.at]
  by_cases h:k=k'
  ·simp [h]
  ·have:=look_ok k es (i+1)
   simp only [encM] at this
   simp only [h,decide_false,this,if_false]
   cases Mp.has es k<;>simp
   omega
theorem has_lt {k:Int}:∀ {es:Mp} {j:Nat},(Mp.has es k)=some j→j<es.length∧∃c,es[j]?=some (k,(Mp.at es k),c)
 |(k',v,c)::es,j,h=>by
  simp only [Mp.has,Mp.at] at h ⊢
  by_cases hk:k=k'
  ·simp only [hk,if_true,Option.some.injEq] at h ⊢
   subst h
   exact ⟨by simp,c,by simp⟩
  ·simp only [hk,if_false,Option.map_eq_some_iff] at h ⊢
   obtain ⟨j',h',rfl⟩:=h
   obtain ⟨h1,c',h2⟩:=has_lt h'
   exact ⟨by simpa using h1,c',by simpa using h2⟩
theorem at_set {k x:Int} {c:Nat}:∀ {es:Mp} {j:Nat},(Mp.has es k)=some j→∀k',Mp.at (es.set j (k,x,c)) k'=if k'=k then x else (Mp.at es k')
 |(k0,v,c0)::es,j,h,k'=>by
  simp only [Mp.has] at h
  by_cases hk:k=k0
  ·simp only [hk,if_true,Option.some.injEq] at h
   subst h
   simp only [List.set_cons_zero,Mp.at]
   subst hk
   by_cases hk':k'=k<;>simp [hk']
  ·simp only [hk,if_false,Option.map_eq_some_iff] at h
   obtain ⟨j',h',rfl⟩:=h
   simp only [List.set_cons_succ,Mp.at,at_set h' k']
   by_cases h1:k'=k0
   ·subst h1; simp [Ne.symm hk]
   ·simp [h1]
theorem at_app {k x:Int} {c:Nat}:∀ {es:Mp},(Mp.has es k)=none→∀k',Mp.at (es++ [(k,x,c)]) k'=if k'=k then x else (Mp.at es k')
 | [],_,k'=>by simp [Mp.at]
 |(k0,v,c0)::es,h,k'=>by
  simp only [Mp.has] at h
  by_cases hk:k=k0
  ·simp [hk] at h
  ·simp only [hk,if_false,Option.map_eq_none_iff] at h
   simp only [List.cons_append,Mp.at,at_app h k']
   by_cases h1:k'=k0
   ·subst h1; simp [Ne.symm hk]
   ·simp [h1]
theorem okKey3 (x:Int):okKey T 3 (vi x)=true:=rfl
def MapIn (H:GH) (g:Nat) (f:Int→Int):Prop:=∃es c,H.get g=some (.map (encM es) c)∧∀k,Mp.at es k=f k
theorem MapIn.upd {H:GH} {g:Nat} {f:Int→Int} (h:MapIn H g f) (k x:Int) (H0:GH):∃o,muO T 3 (H.get g) g (vi k) (vi x) H0=some (.skip (H0.put g o))∧o.isArr=false∧∀h',MapIn (GH.put h' g o) g fun k'=>if k'=k then x else f k':=by
 obtain ⟨es,c,hg,hf⟩:=h
 rw [hg]
 unfold muO
 simp only [okKey3,if_true,look_ok]
 cases hh:Mp.has es k with
 |none=>
  refine ⟨_,rfl,rfl,fun h'=>⟨es++ [(k,x,c)],c+1,?_,fun k'=>?_⟩⟩
  ·rw [GH.get_put_same]; simp [encM]
  ·rw [at_app hh,hf]
 |some j=>
  obtain ⟨hj,c',hc⟩:=has_lt hh
  have e:(encM es)[j]?=some (vi k,vi (Mp.at es k),c'):=by simp [encM,hc]
  simp only [Nat.zero_add,e]
  refine ⟨_,rfl,rfl,fun h'=>⟨es.set j (k,x,c'),c,?_,fun k'=>?_⟩⟩
  ·rw [GH.get_put_same]; simp [encM]
  ·rw [at_set hh,hf]
theorem MapIn.keep {H H':GH} {g:Nat} {f:Int→Int} (h:MapIn H g f) (hg:H'.get g=H.get g):MapIn H' g f:=by
 obtain ⟨es,c,h1,h2⟩:=h
 exact ⟨es,c,hg.trans h1,h2⟩
theorem MapIn.lt {H:GH} {g:Nat} {f:Int→Int} (h:MapIn H g f):∃es c,H.get g=some (.map es c):=by
 obtain ⟨es,c,h1,_⟩:=h; exact ⟨_,c,h1⟩
end Go.Gm.Tryz
end
section
namespace Go.Gm.Tryz
open Go.Proofs
@[simp,reducible] def stateV (l:ULoc) (s:Suite) (day:Int) (mg:Nat):Value:=.agg (suiteC l s++ [vi day,.map (some mg)]).toArray
theorem cbegin_con (L:ULoc) (s:Suite) (hs:Short s) (H:GH) (hi:SuiteIn H L s):GCall Tryz.prog 88 [suiteV L s] H fun x H'=>∃L' mg,x=.ret (stateV L' s 0 mg)∧Sub H H'∧SuiteIn H' L' s∧SuiteLo H.next L'∧L'.book.events=L.book.events∧L'.line.counts=L.line.counts∧H.next≤mg∧mg<H'.next∧MapIn H' mg (fun _=>0):=by
 refine gcall_wp tok mix fok88 (F:=g88) (c:=_) rfl (n:=25) rfl (rs:= [.cell 2 101]) rfl ?_
 simp
 refine (copied_con L s hs _ (hi.mono (.push (.push (.refl _) _) _))).mono ?_
 rintro x H1 ⟨L',rfl,a1,h1,l1,v1,c1⟩
 have k0:=a1.2 H.next (by simp)
 have k1:=a1.2 (H.next+1) (by simp)
 have n1:=a1.1
 simp (disch:=omega) at k0 k1 n1
 have ne1:¬H.next=H1.next+1:=by omega
 simp (disch:=omega) [k0,ne1]
 have b1:Sub H H1:=(((Sub.refl H).push _).push _).trans a1
 generalize hG:GH.put _ (H1.next+1) _=G
 have hs1:Sub H1 G:=by subst hG; exact ((((Sub.refl H1).push _).push _).put (by omega) _)
 have g0:G.get H.next=some (.arr { cells:=suiteC L s,ty:=43 }):=(hs1.2 _ (by omega)).trans k0
 have g1:=(hs1.2 (H.next+1) (by omega)).trans k1
 have g3:G.get (H1.next+1)=some (.arr { cells:=suiteC L' s++ [vi 0,.map (some H1.next)],ty:=101 }):=by subst hG; simp
 have gm:MapIn G H1.next (fun _=>0):=⟨[],0,by subst hG; simp (disch:=omega) [encM],fun _=>rfl⟩
 have gn:G.next=H1.next+2:=by subst hG; simp
 clear hG
 have hsn:s.net.chs.length≤1000:=by obtain ⟨_,_,_,_,h,_⟩:=hs; exact h
 refine wp_up tok mix (by kernel_rfl) s.net.chs.length (fun i ρ m h=>ρ 1=.pointer (some (ga H.next 0 0))∧ρ 2=.pointer (some (ga (H.next+1) 0 0))∧ρ 3=.pointer (some (ga (H1.next+1) 0 0))∧ρ 12=vi s.net.chs.length∧ρ 13=vi i∧m= []∧Sub H h∧h.next=G.next∧(∀g,g≠H1.next→h.get g=G.get g)∧MapIn h H1.next (fun _=>0)∧SuiteIn h L' s) (i0:=0) (by omega) ?_ ?_
 ·refine ⟨by simp,by simp,by simp,by simp,by simp,rfl,b1.trans hs1,rfl,fun _ _=>rfl,gm,h1.mono hs1⟩
 rintro i ρ m h hin ⟨e1,e2,e3,e12,e13,rfl,q1,q2,q3,q4,q5⟩
 have f0:=(q3 H.next (by omega)).trans g0
 have f1:=(q3 (H.next+1) (by omega)).trans g1
 have f3:=(q3 (H1.next+1) (by omega)).trans g3
 simp only [List.cons_append,List.nil_append] at f3
 simp [e12,e13]
 by_cases hlt:i<s.net.chs.length
 ·simp (disch:=omega) [hlt,e1,e13,f0]
  refine (isGate_con L.net s.net i h hsn (hi.net.chs.mono q1)).go ?_
  cases hg:isGateB s.net i
  ·simp (disch:=omega) [e1,e2,e3,e12,e13,wrap64]
   exact ⟨q1,q2,q3,q4,q5⟩
  ·obtain ⟨o,ho,hoa,hom⟩:=q4.upd i 0 h
   obtain ⟨es,cl,hes⟩:=q4.lt
   simp (disch:=omega) [e1,e2,e3,e12,e13,f3,ho,wrap64]
   refine ⟨q2,fun g hg=>by rw [if_neg hg]; exact q3 g hg,?_,q5.put_map hes rfl _⟩
   have:=hom h
   simpa using this
 ·have:i=s.net.chs.length:=by omega
  subst this
  simp (disch:=omega) [e2,e3,f1,f3]
  have hbk:∀g,blksOf L' g→g≠H.next+1:=by
   intro g hg
   rcases l1.blk v1 c1 hg with h|h
   ·simp at h; omega
   ·have:=hi.blk_lt h; omega
  refine ⟨L',H1.next,by simp,q5.put hbk _,⟨fun b hb=>Nat.le_trans (by first|omega|(simp; done)|(simp; omega)) (l1.rows b hb),fun b hb=>Nat.le_trans (by first|omega|(simp; done)|(simp; omega)) (l1.owners b hb),fun b hb=>Nat.le_trans (by first|omega|(simp; done)|(simp; omega)) (l1.pts b hb),fun b hb=>Nat.le_trans (by first|omega|(simp; done)|(simp; omega)) (l1.chs b hb),fun b hb=>Nat.le_trans (by first|omega|(simp; done)|(simp; omega)) (l1.opn b hb),fun b hb=>Nat.le_trans (by first|omega|(simp; done)|(simp; omega)) (l1.gives b hb),fun b hb=>Nat.le_trans (by first|omega|(simp; done)|(simp; omega)) (l1.nodes b hb),fun b hb=>Nat.le_trans (by first|omega|(simp; done)|(simp; omega)) (l1.outs b hb)⟩,v1,c1,by omega,by omega,q4.keep (GH.get_put_ne _ _ (by omega))⟩
end Go.Gm.Tryz
end
section
namespace Go.Gm.Tryz
open Go.Proofs
def SubX (mg:Nat) (H H':GH):Prop:=H.next≤H'.next∧∀g,g<H.next→g≠mg→H'.get g=H.get g
theorem SubX.of {mg:Nat} {H H':GH} (h:Sub H H'):SubX mg H H':=⟨h.1,fun g hg _=>h.2 g hg⟩
structure StP where
 suite:Suite
 day:Int
 cl:Int→Int
def waitG (st:StP) (n:Int):Option StP:=if 1≤n∧st.day+n≤36500 then some { st with day:=st.day+n } else none
def evG (st:StP) (x:Ev):Option StP:=
 let b:= { st.suite.book with events:=st.suite.book.events++ [x] }
 if (wrongR b).2=5 then some { st with suite:= { st.suite with book:=b } } else none
def AfterP (L:ULoc) (mg:Nat) (H:GH) (r:Option StP) (x:GO) (H':GH):Prop:=match r with
 |some st=>∃L',x=.ret (stateV L' st.suite st.day mg)∧SubX mg H H'∧SuiteIn H' L' st.suite∧MapIn H' mg st.cl∧∀g,blksOf L' g→blksOf L g∨H.next≤g
 |none=>(∃k,x=.pan (.iface 180 (.agg #[vi k])))∧Sub H H'
theorem after_wait (L:ULoc) (st:StP) (mg:Nat) (sl:SLoc) (n:Int) (H:GH) (hi:SuiteIn H L st.suite) (hm:MapIn H mg st.cl) (hmg:mg<H.next) (he:isEntryB ⟨1,[n]⟩=true) (hr:Elems H sl.a 1 encI [n]) (hd:0≤st.day∧st.day≤36500):
  GCall Tryz.prog 38 [stateV L st.suite st.day mg,enV sl ⟨1,[n]⟩] H (AfterP L mg H (waitG st n)):=by
 obtain ⟨_,hk,hlen,hbd⟩:=manyE_of he
 have hn:=hbd n (by simp)
 refine gcall_wp tok mix fok38 (F:=g38) (c:=_) rfl (n:=211) rfl (rs:= [.cell 4 101]) rfl ?_
 simp
 refine (change_con sl ⟨1,[n]⟩ st.day _ he (by simp) (((hr.push _).push _).push _)).go ?_
 have hst:stepV ⟨1,[n]⟩ st.day=.iface 189 (.agg #[vi n]):=rfl
 rw [hst]
 simp (disch:=omega)
 generalize hG:GH.put _ _ _=G
 have hs:Sub H G:=by subst hG; repeat (first|exact Sub.refl _|refine Sub.put ?_ (by omega) _|refine Sub.push ?_ _)
 have k0:G.get H.next=some (.arr { cells:=suiteC L st.suite++ [vi st.day,.map (some mg)],ty:=101 }):=by subst hG; simp (disch:=omega)
 have k2:G.get (H.next+2)=some (.arr { cells:= [.slice none 0 0,vi 0,vi 0,vi 0,vi 0,.slice none 0 0,.slice none 0 0,.slice none 0 0,.slice none 0 0,.slice none 0 0,.slice none 0 0,vi 0,vi 0,vi 0,.slice none 0 0,vi 0,.slice none 0 0,.slice none 0 0,vi 0,.map none],ty:=101 }):=by subst hG; simp (disch:=omega)
 have k3:G.get (H.next+3)=some (.arr { cells:= [.iface 189 (.agg #[vi n])],ty:=184 }):=by subst hG; simp (disch:=omega)
 have k4:G.get (H.next+4)=some (.arr { cells:= [vi n],ty:=189 }):=by subst hG; simp (disch:=omega)
 have gn:G.next=H.next+5:=by subst hG; simp
 simp only [List.cons_append,List.nil_append] at k0
 clear hG
 have hw:waitG st n=if 1≤n∧st.day+n≤36500 then some { st with day:=st.day+n } else none:=rfl
 by_cases h1:1≤n
 ·simp (disch:=omega) [h1,k0,k4,wrap64]
  refine (sure_con _ ⟨1,[n]⟩ st.day (H.next+3) G k3).mono ?_
  rintro x h (⟨hb,rfl,rfl⟩|⟨hb,⟨k,rfl⟩,hsub⟩)
  ·have h2:st.day+n≤36500:=by simpa using hb
   simp (disch:=omega) [k0,k2,k4,wrap64]
   rw [hw,if_pos ⟨h1,h2⟩]
   have hs2:=(hs.put (Nat.le_refl _) (.arr { cells:=suiteC L st.suite++ [vi (st.day+n),.map (some mg)],ty:=101 })).put (g:=H.next+2) (by omega) (.arr { cells:=suiteC L st.suite++ [vi (st.day+n),.map (some mg)],ty:=101 })
   exact ⟨L,by simp,SubX.of hs2,hi.mono hs2,hm.keep (hs2.2 mg hmg),fun g hg=>.inl hg⟩
  ·have h2:¬st.day+n≤36500:=by simpa using hb
   simp
   rw [hw,if_neg (by omega)]
   exact ⟨⟨k,rfl⟩,hs.trans hsub⟩
 ·simp (disch:=omega) [h1]
  refine (sure_con _ ⟨1,[n]⟩ st.day (H.next+3) G k3).mono ?_
  rintro x h (⟨hb,rfl,rfl⟩|⟨hb,⟨k,rfl⟩,hsub⟩)
  ·cases hb
  ·simp
   rw [hw,if_neg (by omega)]
   exact ⟨⟨k,rfl⟩,hs.trans hsub⟩
end Go.Gm.Tryz
end
end
