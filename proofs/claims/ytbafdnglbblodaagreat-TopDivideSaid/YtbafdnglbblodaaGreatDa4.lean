/- Part 4 of the proof: Gc21, Gc22, Gc23, Gc24, Gc25, Gc26, Gc27, Gc28, Gc29, Gc30, Gc31, Gc32, Gc33, Gc34, Gc35, Gc36, Gc37, Gc38, Gc39, GmImport, Gc51, Gd1, Gd2, Gd3, GcP, Gp1, Gd4, GbP, GmTryzF, GmRec, Gp2, Gr1, Gr2, Ca2, Ca3, Ka1, Ka2, Cf1, Cf2, Cf3, GrW, Gr3, Gr4, Gr5, Gr6. -/
import Derived.Test.YtbafdnglbblodaaGreatDa3
import Derived.RecoverIn
import Derived.Tactics
import Derived.RegionIn
import Derived.ControlIn
import Derived.Test.YtbafdnglbblodaaGreatRows
import Derived.LaidLaws
import Derived.Lay
import Derived.MakeChecks
import Derived.KernelRfl
noncomputable section
section
namespace Go.Gm.Tryz
open Go.Proofs
def dieA (s:Stand) (e:Ev):Stand:= { s with lives:=s.lives.set e.person.toNat false }
def oAt (s:Stand) (i:Nat):Int:=s.owners.getD i 0
def gAt (s:Stand) (i:Nat):GSt:=s.grants.getD i default
def ownStep (e:Ev) (s:Stand) (i:Nat):Stand:=if oAt s i=e.person then ownS s i e.other else s
def dieB (s:Stand) (e:Ev):Stand:=(List.range s.owners.length).foldl (ownStep e) s
def notOf (b:Book) (e:Ev) (w:Int):Bool:=decide ((evAt b w).person≠e.person)
def dieC (b:Book) (s:Stand) (e:Ev):Stand:= { s with waits:=s.waits.filter (notOf b e) }
def endStep (b:Book) (e:Ev) (s:Stand) (i:Nat):Stand:=if (gAt s i).is=2∧(gAt s i).person=e.person then endS b s i e.day else s
def dieD (b:Book) (s:Stand) (e:Ev):Stand:=(List.range s.grants.length).foldl (endStep b e) s
def heirStep (b:Book) (e:Ev) (s:Stand) (i:Nat):Stand:=
 if (gAt s i).is=1∧(gAt s i).estate<0∧(gAt s i).person=e.person then { s with grants:=s.grants.set i { gAt s i with is:=2,person:=e.other },last:=s.last.set i (IntKind.i64.wrap (e.day+b.term)) } else s
def dieE (b:Book) (s:Stand) (e:Ev):Stand:=(List.range s.grants.length).foldl (heirStep b e) s
def dieS (b:Book) (s:Stand) (e:Ev):Stand:=dieE b (dieD b (dieC b (dieB (dieA s e) e) e) e) e
theorem range_fold {α:Type} (f:α→Nat→α) (s:α) (i:Nat):(List.range (i+1)).foldl f s=f ((List.range i).foldl f s) i:=by rw [List.range_succ,List.foldl_append]; rfl
theorem ownS_wf {b:Book} {s:Stand} (h:Wf b s) (n:Nat) (p:Int):Wf b (ownS s n p):=by
 refine ⟨h.w,by simpa [ownS] using h.len,by simpa [ownS] using h.last,by simpa [ownS] using h.own,h.ev,?_⟩
 have h1:=h.fe
 simp only [ownS]
 rw [List.countP_map]
 refine Nat.le_trans h1 (Nat.le_of_eq ?_)
 congr 1
 funext x
 simp only [Function.comp]
 split<;>rfl
theorem ownStep_ok {b:Book} {e:Ev} {s:Stand} (h:Wf b s) (i:Nat):Wf b (ownStep e s i)∧(ownStep e s i).owners.length=s.owners.length∧(ownStep e s i).grants.length=s.grants.length∧(ownStep e s i).waits=s.waits:=by
 unfold ownStep
 split
 ·exact ⟨ownS_wf h _ _,by simp [ownS],by simp [ownS],rfl⟩
 ·exact ⟨h,rfl,rfl,rfl⟩
theorem ownFold_ok {b:Book} {e:Ev} {s:Stand} (h:Wf b s) (i:Nat):Wf b ((List.range i).foldl (ownStep e) s)∧((List.range i).foldl (ownStep e) s).owners.length=s.owners.length∧((List.range i).foldl (ownStep e) s).grants.length=s.grants.length∧((List.range i).foldl (ownStep e) s).waits=s.waits:=by
 induction i with
 |zero=>exact ⟨h,rfl,rfl,rfl⟩
 |succ i ih=>
  rw [range_fold]
  obtain ⟨a,b',c,d⟩:=ownStep_ok ih.1 (e:=e) i
  exact ⟨a,b'.trans ih.2.1,c.trans ih.2.2.1,d.trans ih.2.2.2⟩
theorem dieA_wf {b:Book} {s:Stand} (h:Wf b s) (e:Ev):Wf b (dieA s e):=⟨h.w,h.len,h.last,h.own,h.ev,h.fe⟩
theorem dieC_wf {b:Book} {s:Stand} (h:Wf b s) (e:Ev):Wf b (dieC b s e):=by
 refine ⟨fun n hn=>h.w n (List.mem_filter.1 hn).1,?_,h.last,h.own,h.ev,h.fe⟩
 have h1:=h.len
 have:=List.length_filter_le (notOf b e) s.waits
 simp only [dieC]; omega
theorem serveS_len {b:Book}:∀ {n:Nat} {s:Stand},s.grants.length≤(serveS b n s).grants.length:=by
 intro n
 induction n with
 |zero=>intro s; exact Nat.le_refl _
 |succ n ih=>
  intro s
  simp only [serveS]
  cases hws:s.waits with
  |nil=>exact Nat.le_refl _
  |cons w ws=>
   simp only
   split
   ·exact Nat.le_refl _
   ·refine Nat.le_trans ?_ ih
    simp [addG]
theorem endS_len (b:Book) (s:Stand) (g:Nat) (d:Int):s.grants.length≤(endS b s g d).grants.length:=by
 refine Nat.le_trans ?_ (serveS_len (b:=b))
 simp [endG]
theorem endStep_ok {b:Book} {e:Ev} {s:Stand} (h:Wf b s) {i:Nat} (hi:i<s.grants.length):Wf b (endStep b e s i)∧s.grants.length≤(endStep b e s i).grants.length:=by
 unfold endStep
 split
 ·rename_i h2
  have:gAt s i=s.grants[i]:=getD_at hi
  rw [this] at h2
  exact ⟨endS_wf h hi (by rw [h2.1]; decide) _,endS_len ..⟩
 ·exact ⟨h,Nat.le_refl _⟩
section
variable {H:GH} {N:Nat} {l:BLoc} {b:Book} {sg kn:Nat} {s:Stand} {O:Nat→Prop}
theorem die_do (h:StandIn H N l b sg kn s O) (hw:Wf b s) (e:Ev) (n:Nat) (he:0≤e.person∧e.person<s.lives.length):Does 161 H N l b sg kn O e n (dieS b s e):=by
 rcases l with ⟨⟨⟨ra,rf⟩⟩,⟨oa,of'⟩,⟨va',vf'⟩⟩
 refine gcall_wp tok mix fok161 (F:=g161) (c:=_) rfl (n:=168) rfl (rs:= []) rfl ?_
 obtain ⟨h1,f1⟩:=h.sub (Sub.push (.refl H) (.arr { cells:= [vi e.kind,vi e.day,vi e.person,vi e.other,vi e.estate,vi e.grant,vi e.system,vi e.units],ty:=178 }))
 have hle:=hw.len
 have hlo:=hw.own
 have hl1:=fun g ho=>(h1.lt g ho).2
 have hge:(H.push (.arr { cells:= [vi e.kind,vi e.day,vi e.person,vi e.other,vi e.estate,vi e.grant,vi e.system,vi e.units],ty:=178 })).get H.next=some (.arr { cells:= [vi e.kind,vi e.day,vi e.person,vi e.other,vi e.estate,vi e.grant,vi e.system,vi e.units],ty:=178 }):=by simp
 have hOl:∀g,O g→g<H.next:=fun g hg=>(h.lt g hg).2
 have hnx:(H.push (.arr { cells:= [vi e.kind,vi e.day,vi e.person,vi e.other,vi e.estate,vi e.grant,vi e.system,vi e.units],ty:=178 })).next=H.next+1:=by simp
 generalize hH1:H.push _=H1 at*
 obtain ⟨vl,vo,vg,va,vw,vf,h1,hO⟩:=h1
 have hg:=h1.g
 have hsl:=h1.sgl.2
 obtain ⟨al,fl,rfl,hEl⟩:=h1.lives.elems (fun _=>rfl)
 obtain ⟨al,rfl,hal,hrl⟩:=hEl.at e.person.toNat (by omega)
 obtain ⟨ao,fo,rfl,hEo⟩:=h1.owners.elems (fun _=>rfl)
 have hbk:=h1.lives.blk_some
 have hbgs:al.block≠sg:=fun hc=>h1.sg_ne h1.lives (by decide) (by rw [hbk,hc])
 have hOo:O al.block:=(hO _).2 (.inr (.inr (.inl hbk)))
 obtain ⟨H2,hw2,ho2,hn2,hs2⟩:=h1.lives.wr (fun _=>rfl) (i:=e.person.toNat) (k:=0) (by omega) (c:=.bool false) (new:= []) (by simp) (y:=false) (by simp [splice])
 have hg2:=(hs2 sg (Ne.symm hbgs)).trans hg
 have he2:=(hs2 H.next (fun hc=>by have:=hOl _ hOo; omega)).trans hge
 have hS2:=h1.wr_lives (H1:=H2) (by omega) ho2 (fun k hk hne=>hs2 k fun hc=>hne (by rw [hbk,hc]))
 have f2:Frm O O H1 H2:=Frm.wr hl1 hOo hn2 hs2
 have hwA:=dieA_wf hw e
 have hA:({ s with lives:=s.lives.set e.person.toNat false }:Stand)=dieA s e:=rfl
 rw [hA] at hS2
 simp (disch:=omega) [hH1]
 simp (disch:=omega) [hg,hge,hw2,hg2]
 refine wp_up tok mix (by kernel_rfl) s.owners.length (fun i ρ m H3=>ρ 1=.pointer (some (ga sg 0 0))∧ρ 3=.pointer (some (ga H.next 0 0))∧ρ 26=.slice ao s.owners.length fo∧ρ 27=vi s.owners.length∧ρ 28=vi i∧m= []∧Frm O O H1 H3∧
  StIn H3 N ⟨⟨⟨ra,rf⟩⟩,⟨oa,of'⟩,⟨va',vf'⟩⟩ b sg kn ((List.range i).foldl (ownStep e) (dieA s e)) (.slice (some al) s.lives.length fl) (.slice ao s.owners.length fo) vg va vw vf) (i0:=0) (by omega)
  ⟨by simp,by simp,by simp,by simp,by simp,by simp,f2,hS2⟩ ?_
 rintro i ρ m H3 hi ⟨e1,e3,e26,e27,e28,rfl,f3,h3⟩
 have hg3:=h3.g
 have he3:=(f3.keep H.next (by omega) (fun hc=>by have:=hOl _ hc; omega)).trans hge
 have hn3:=f3.next
 obtain ⟨hw3,ho3,hgl3,hww3⟩:=ownFold_ok (e:=e) hwA i
 simp [e27,e28]
 refine wpB_dec (fun hlt2=>?_) (fun hge1=>?_)
 ·have hrf:=range_fold (ownStep e) (dieA s e) i
  generalize hcur:(List.range i).foldl (ownStep e) (dieA s e)=c at*
  have hol:c.owners.length=s.owners.length:=ho3
  have hltI:(i:Int)<s.owners.length:=by omega
  obtain ⟨a2,rfl,hab,hrd⟩:=(h3.owners.elems' (fun _=>rfl)).at i (by omega)
  have hoa:oAt c i=c.owners[i]'(by omega):=getD_at (by omega)
  simp (disch:=omega) [e3,e26,e28,hrd,he3]
  refine wpB_dec (fun h5=>?_) (fun h5=>?_)
  ·simp (disch:=omega) [e1,e3,he3]
   refine (ownI_con h3 hO (by have:=hw3.len; omega) i (by omega) e.other).mono ?_
   rintro x H4 ⟨rfl,f4,h4⟩
   simp (disch:=omega) [e1,e3,e26,e27,e28,hlt2,wrap64]
   refine ⟨f3.trans f4,?_⟩
   rw [hrf]; unfold ownStep; rw [if_pos (by rw [hoa]; exact h5)]; exact h4
  ·simp (disch:=omega) [e1,e3,e26,e27,e28,hlt2,wrap64]
   refine ⟨f3,?_⟩
   rw [hrf]; unfold ownStep; rw [if_neg (by rw [hoa]; exact h5)]; exact h3
 ·have:i=s.owners.length:=by omega
  subst this
  change StIn H3 N _ b sg kn (dieB (dieA s e) e) _ _ _ _ _ _ at h3
  change Wf b (dieB (dieA s e) e) at hw3
  change (dieB (dieA s e) e).waits=s.waits at hww3
  obtain ⟨aw,fw,rfl,hEw⟩:=h3.waits.elems (fun _=>rfl)
  rw [hww3] at h3 hEw hO
  have hgw:=h3.g
  have hsl3:=h3.sgl.2
  simp (disch:=omega) [e1,hgw]
  have hlw:s.waits.length≤100:=by omega
  generalize hB:dieB (dieA s e) e=sB at*
  refine wp_up tok mix (by kernel_rfl) s.waits.length (fun i ρ m H4=>ρ 1=.pointer (some (ga sg 0 0))∧ρ 3=.pointer (some (ga H.next 0 0))∧ρ 48=.slice aw s.waits.length fw∧ρ 49=vi s.waits.length∧ρ 50=vi i∧m= []∧Sub H3 H4∧
   OwnL H4 H3.next (ρ 8) 3 1 encI ((s.waits.take i).filter (notOf b e))) (i0:=0) (by omega)
   ⟨by simp [e1],by simp [e3],by simp,by simp,by simp,by simp,.refl _,by simpa using OwnL.nil⟩ ?_
  rintro i ρ m H4 hi ⟨d1,d3,d48,d49,d50,rfl,hs4,hv4⟩
  have h4:=h3.sub hs4
  have hg4:=h4.g
  have he4:=(hs4.2 H.next (by omega)).trans he3
  have hn4:=hs4.1
  generalize hv8:ρ 8=v8 at hv4
  have hl8:=hv4.len
  have htl:((s.waits.take i).filter (notOf b e)).length≤100:=by
   have:=List.length_filter_le (notOf b e) (s.waits.take i)
   simp at this ⊢; omega
  simp [d49,d50]
  refine wpB_dec (fun hlt2=>?_) (fun hge2=>?_)
  ·have hltI:(i:Int)<s.waits.length:=by omega
   obtain ⟨a2,rfl,hab,hrd⟩:=(h4.waits.elems' (fun _=>rfl)).at i (by rw [hww3]; omega)
   obtain ⟨w,hW⟩:∃w,s.waits[i]=w:=⟨_,rfl⟩
   have hwi:sB.waits[i]'(by rw [hww3]; exact hlt2)=w:=by rw [←hW]; congr 1
   rw [hwi] at hrd
   have hwr:=hw.w w (hW▸List.getElem_mem hlt2)
   obtain ⟨a3,rfl,hbb,hrb⟩:=h4.book.events.at w.toNat (by omega)
   have hev:evAt b w=b.events[w.toNat]'(by omega):=getD_at (by omega)
   have htk:s.waits.take (i+1)=s.waits.take i++ [w]:=by rw [←hW]; exact List.take_succ_eq_append_getElem hlt2
   simp (disch:=omega) [d1,d3,d48,d50,hrd,he4,hg4,hrb]
   refine wpB_bool (fun h5=>?_) (fun h5=>?_)<;>(try simp only [Bool.not_eq_true',Bool.not_eq_false',decide_eq_true_eq,decide_eq_false_iff_not] at h5)
   ·obtain ⟨v8',H5,happ,ho5,hn5,hf5,hb5⟩:=(hv4.push (.arr { cells:= [vi w],ty:=3 })).app (by simp) (by simp) (by decide) w (by simp; omega)
    simp only [encI] at happ
    generalize hF:((s.waits.take i).filter (notOf b e))=F at*
    have d8:8*(1+F.length)≤1000000:=by omega
    have d9:1+F.length≤1000000:=by omega
    obtain ⟨a8,f8,rfl⟩:=ho5.slice
    simp (disch:=omega) [d1,d3,d48,d49,d50,hv8,hl8,d8,d9,happ,hlt2,wrap64]
    simp only [GH.next_push] at hn5
    refine ⟨⟨by omega,fun g hg=>?_⟩,?_⟩
    ·rw [hf5 g (by simp; omega) (fun hc=>by have:=(hv4.blk_lt hc).1; omega),GH.get_push_lt _ _ (by omega),hs4.2 g hg]
    ·rw [htk,List.filter_append,hF]
     have: [w].filter (notOf b e)= [w]:=by simp [notOf,hev,h5]
     rw [this]
     simpa using ho5
   ·simp (disch:=omega) [d1,d3,d48,d49,d50,hlt2,wrap64]
    refine ⟨hs4,?_⟩
    rw [htk,List.filter_append]
    have: [w].filter (notOf b e)= []:=by simp [notOf,hev,h5]
    rw [this,List.append_nil,hv8]; exact hv4
  ·have:i=s.waits.length:=by omega
   subst this
   rw [List.take_length] at hv4
   have hS5:=h3.upd_waits hs4.1 (hv4.weaken (by have:=h3.sgl; omega)) (fun k hk _=>hs4.2 k hk) (fun k hk=>.inr (hv4.blk_lt hk).1)
   have hC:({ sB with waits:=s.waits.filter (notOf b e) }:Stand)=dieC b sB e:=by simp only [dieC,hww3]
   rw [hC] at hS5
   obtain ⟨O5,f5,h5⟩:=StandIn.of h3 hO hS5 (by simp; omega) (fun k hk ho=>by
    rw [hO] at ho
    rw [GH.get_put_ne _ _ (fun hc=>ho (.inl hc)),hs4.2 k hk])
    (fun k hk=>.inl hk) (fun k hk=>.inl hk) (fun k hk=>.inl hk) (fun k hk=>.inl hk) (fun k hk=>.inr (hv4.blk_lt hk).1) (fun k hk=>.inl hk)
   have hwC:=dieC_wf hw3 e
   obtain ⟨a8,f8,rfl⟩:=hv4.slice
   obtain ⟨ag,fg,rfl,hEg⟩:=hS5.grants.elems (fun _=>rfl)
   have hgC:=hS5.g
   have hslC:=hS5.sgl.2
   have hglC:(dieC b sB e).grants.length=sB.grants.length:=rfl
   simp only [bookC,List.cons_append,List.nil_append] at hgC hslC hS5 f5 h5
   simp (disch:=omega) [d1,hg4,hv8]
   generalize hHC:H4.put sg _=HC at f5 h5 ⊢
   generalize hsC:dieC b sB e=sC at*
   have hC100:sC.grants.length≤100:=by have:=hwC.len; omega
   refine wp_up tok mix (by kernel_rfl) sC.grants.length (fun i ρ m H6=>ρ 1=.pointer (some (ga sg 0 0))∧ρ 3=.pointer (some (ga H.next 0 0))∧ρ 80=vi sC.grants.length∧ρ 81=vi i∧m= []∧
    ∃O6,Frm O O6 H1 H6∧StandIn H6 N ⟨⟨⟨ra,rf⟩⟩,⟨oa,of'⟩,⟨va',vf'⟩⟩ b sg kn ((List.range i).foldl (endStep b e) sC) O6∧Wf b ((List.range i).foldl (endStep b e) sC)∧sC.grants.length≤((List.range i).foldl (endStep b e) sC).grants.length) (i0:=0) (by omega)
    ⟨by simp [d1],by simp [d3],by simp,by simp,by simp,O5,f3.trans f5,h5,hwC,Nat.le_refl _⟩ ?_
   rintro i ρ m H6 hi ⟨c1,c3,c80,c81,rfl,O6,f6,h6,hw6,hl6⟩
   have he6:=(f6.keep H.next (by omega) (fun hc=>by have:=hOl _ hc; omega)).trans hge
   simp [c80,c81]
   refine wpB_dec (fun hlt3=>?_) (fun hge3=>?_)
   ·have hrf:=range_fold (endStep b e) sC i
    generalize hcur:(List.range i).foldl (endStep b e) sC=c at*
    have hil:i<c.grants.length:=by omega
    obtain ⟨hwn,hln⟩:=endStep_ok (e:=e) hw6 hil
    rw [←hrf] at hwn hln
    have hga:gAt c i=c.grants[i]:=getD_at hil
    obtain ⟨_,_,vg6,_,_,_,h6',hO6⟩:=h6
    have hg6:=h6'.g
    have hsl6:=h6'.sgl.2
    obtain ⟨a6,q6,rfl,hE6⟩:=h6'.grants.elems (fun _=>rfl)
    obtain ⟨a6,rfl,hab6,hrd6⟩:=hE6.at i hil
    have hilI:(i:Int)<c.grants.length:=by omega
    simp (disch:=omega) [c1,c81,hg6,hrd6]
    generalize hH7:GH.put _ _ _=H7
    have hs7:Sub H6 H7:=by subst hH7; exact (Sub.push (.refl H6) _).put (Nat.le_refl _) _
    have hb7:H7.get H6.next=some (.arr { cells:=encSt c.grants[i],ty:=41 }):=by subst hH7; simp
    have hn6:=f6.next
    have he7:=(hs7.2 H.next (by omega)).trans he6
    have hl7:H6.next<H7.next:=by subst hH7; simp
    clear hH7
    have h6s:StandIn H6 N ⟨⟨⟨ra,rf⟩⟩,⟨oa,of'⟩,⟨va',vf'⟩⟩ b sg kn c O6:=⟨_,_,_,_,_,_,h6',hO6⟩
    obtain ⟨h7,f7⟩:=h6s.sub hs7
    have f7:Frm O O6 H1 H7:=f6.trans f7
    refine contG_bool (fun h8=>?_) (fun h8=>?_)<;>(try simp only [decide_eq_true_eq,decide_eq_false_iff_not] at h8)
    ·simp (disch:=omega) [c3,hb7,he7,h8]
     refine wpB_dec (fun h9=>?_) (fun h9=>?_)
     ·simp (disch:=omega) [c1,c3,he7]
      refine (ends_con h7 hw6 i hil (by rw [h8]; decide) e.day).mono ?_
      rintro x H8 ⟨rfl,O8,f8',h8'⟩
      have hcs:endStep b e c i=endS b c i e.day:=by unfold endStep; rw [if_pos ⟨by rw [hga]; exact h8,by rw [hga]; exact h9⟩]
      rw [hcs] at hrf
      rw [←hrf] at h8'
      simp (disch:=omega) [c1,c3,c80,c81,wrap64]
      exact ⟨hlt3,O8,f7.trans f8',h8',hwn,by omega⟩
     ·have hcs:endStep b e c i=c:=by unfold endStep; rw [if_neg (fun hc=>h9 (by rw [←hga]; exact hc.2))]
      rw [hcs] at hrf
      rw [←hrf] at h7
      simp (disch:=omega) [c1,c3,c80,c81,wrap64]
      exact ⟨hlt3,O6,f7,h7,hwn,by omega⟩
    ·have hcs:endStep b e c i=c:=by unfold endStep; rw [if_neg (fun hc=>h8 (by rw [←hga]; exact hc.1))]
     rw [hcs] at hrf
     rw [←hrf] at h7
     simp (disch:=omega) [c1,c3,c80,c81,wrap64,h8]
     exact ⟨hlt3,O6,f7,h7,hwn,by omega⟩
   ·have:i=sC.grants.length:=by omega
    subst this
    change StandIn H6 N _ b sg kn (dieD b sC e) O6 at h6
    change Wf b (dieD b sC e) at hw6
    generalize hsD:dieD b sC e=sD at*
    have hD100:sD.grants.length≤100:=by have:=hw6.len; omega
    have hO6l:=fun g ho=>(h6.lt g ho).2
    obtain ⟨vl6,vo6,vg6,va6,vw6,vf6,h6',hO6⟩:=h6
    have hg6:=h6'.g
    have hsl6:=h6'.sgl.2
    have hlD:=hw6.last
    obtain ⟨a6,q6,rfl,hE6⟩:=h6'.grants.elems (fun _=>rfl)
    obtain ⟨aa6,qa6,rfl,hEa6⟩:=h6'.last.elems (fun _=>rfl)
    simp [c1,hg6]
    refine wp_up tok mix (by kernel_rfl) sD.grants.length (fun i ρ m H7=>ρ 1=.pointer (some (ga sg 0 0))∧ρ 3=.pointer (some (ga H.next 0 0))∧ρ 112=.slice a6 sD.grants.length q6∧ρ 113=vi sD.grants.length∧ρ 114=vi i∧m= []∧
     Frm O6 O6 H6 H7∧StIn H7 N ⟨⟨⟨ra,rf⟩⟩,⟨oa,of'⟩,⟨va',vf'⟩⟩ b sg kn ((List.range i).foldl (heirStep b e) sD) vl6 vo6 (.slice a6 sD.grants.length q6) (.slice aa6 sD.last.length qa6) vw6 vf6∧((List.range i).foldl (heirStep b e) sD).grants.length=sD.grants.length∧((List.range i).foldl (heirStep b e) sD).last.length=sD.last.length) (i0:=0) (by omega)
     ⟨by simp [c1],by simp [c3],by simp,by simp,by simp,by simp,Frm.refl hO6l,h6',rfl,rfl⟩ ?_
    rintro i ρ m H7 hi ⟨b1,b3,b112,b113,b114,rfl,f7,h7,hgl7,hll7⟩
    have f17:=f6.trans f7
    have he7:=(f17.keep H.next (by omega) (fun hc=>by have:=hOl _ hc; omega)).trans hge
    simp [b113,b114]
    refine wpB_dec (fun hlt3=>?_) (fun hge3=>?_)
    ·have hrf:=range_fold (heirStep b e) sD i
     generalize hcur:(List.range i).foldl (heirStep b e) sD=c at*
     have hil:i<c.grants.length:=by omega
     have hga:gAt c i=c.grants[i]:=getD_at hil
     have hg7:=h7.g
     have hsl7:=h7.sgl.2
     obtain ⟨a7,ha7,hab7,hrd7⟩:=(h7.grants.elems' (fun _=>rfl)).at i hil
     subst ha7
     have hilI:(i:Int)<sD.grants.length:=by omega
     simp (disch:=omega) [b112,b114,hrd7]
     have hO7l:=f7.lt
     have f1h:=f1
     generalize hH8:GH.put _ _ _=H8
     have hs8:Sub H7 H8:=by subst hH8; exact (Sub.push (.refl H7) _).put (Nat.le_refl _) _
     have hb8:H8.get H7.next=some (.arr { cells:=encSt c.grants[i],ty:=41 }):=by subst hH8; simp
     have hn7:=f17.next
     have he8:=(hs8.2 H.next (by omega)).trans he7
     have hl8':H7.next<H8.next:=by subst hH8; simp
     clear hH8
     have h8:=h7.sub hs8
     have f8:Frm O6 O6 H6 H8:=f7.trans (Frm.of_sub hO7l hs8)
     have hskip:¬((gAt c i).is=1∧(gAt c i).estate<0∧(gAt c i).person=e.person)→heirStep b e c i=c:=fun hc=>by unfold heirStep; rw [if_neg hc]
     refine contG_bool (fun k1=>?_) (fun k1=>?_)<;>(try simp only [decide_eq_true_eq,decide_eq_false_iff_not] at k1)
     ·simp (disch:=omega) [hb8,k1]
      refine contG_bool (fun k2=>?_) (fun k2=>?_)<;>(try simp only [decide_eq_true_eq,decide_eq_false_iff_not] at k2)
      ·simp (disch:=omega) [b3,hb8,he8,k1,k2]
       refine wpB_dec (fun k3=>?_) (fun k3=>?_)
       ·have hst:heirStep b e c i= { c with grants:=c.grants.set i { c.grants[i] with is:=2,person:=e.other },last:=c.last.set i (IntKind.i64.wrap (e.day+b.term)) }:=by
         unfold heirStep; rw [if_pos (by rw [hga]; exact ⟨k1,k2,k3⟩),hga]
        have hbk8:=h8.grants.blk_some
        obtain ⟨aa7,haa,_,_⟩:=(h8.last.elems' (fun _=>rfl)).at i (by omega)
        subst haa
        have hbka:=h8.last.blk_some
        have hg8:=h8.g
        obtain ⟨Ha,hwa,hoa,hna,hsa⟩:=h8.grants.wr (fun _=>rfl) (i:=i) (k:=0) hil (c:=vi 2) (new:= []) (by simp) (y:= { c.grants[i] with is:=2 }) (by simp [splice])
        obtain ⟨Hb,hwb,hob,hnb,hsb⟩:=hoa.wr (fun _=>rfl) (i:=i) (k:=1) (by simpa using hil) (c:=vi e.other) (new:= []) (by simp) (y:= { c.grants[i] with is:=2,person:=e.other }) (by simp [splice])
        simp only [List.set_set] at hob
        have hne1:a7.block≠sg:=fun hc=>h8.sg_ne h8.grants (by decide) (by rw [hbk8,hc])
        have hOg:O6 a7.block:=(hO6 _).2 (.inr (.inr (.inr (.inr (.inl hbk8)))))
        have hOa:O6 aa7.block:=(hO6 _).2 (.inr (.inr (.inr (.inr (.inr (.inl hbka))))))
        have hSb:=h8.wr_grants (H1:=Hb) (by omega) hob (fun k hk hne=>by
         have hka:k≠a7.block:=fun hc=>hne (by rw [hbk8,hc])
         rw [hsb k hka,hsa k hka])
        obtain ⟨Hc,hwc,hoc,hnc,hsc⟩:=hSb.last.wr (fun _=>rfl) (i:=i) (k:=0) (by simp; omega) (c:=vi (IntKind.i64.wrap (e.day+b.term))) (new:= []) (by simp) (y:=IntKind.i64.wrap (e.day+b.term)) (by simp [splice])
        have hSc:=hSb.wr_last (H1:=Hc) (by omega) hoc (fun k hk hne=>hsc k fun hc=>hne (by rw [hbka,hc]))
        have f9:Frm O6 O6 H8 Ha:=Frm.wr f8.lt hOg hna hsa
        have f10:Frm O6 O6 Ha Hb:=Frm.wr f9.lt hOg hnb hsb
        have f11:Frm O6 O6 Hb Hc:=Frm.wr f10.lt hOa hnc hsc
        have hnO:¬O6 H.next:=fun hc=>by
         rcases f6.own _ hc with h|h
         ·have:=hOl _ h; omega
         ·omega
        have hea:Ha.get H.next=_:=((Frm.wr f8.lt hOg hna hsa).keep H.next (by omega) hnO).trans he8
        have heb:Hb.get H.next=_:=(f10.keep H.next (by omega) hnO).trans hea
        have hga8:Ha.get sg=_:=(hsa sg (Ne.symm hne1)).trans hg8
        have hgb8:Hb.get sg=_:=(hsb sg (Ne.symm hne1)).trans hga8
        have hilL:(i:Int)<sD.last.length:=by omega
        simp (disch:=omega) [b1,b3,hg8,he8,hwa,hwb,hgb8,heb,hea,hwc,b112,b113,b114,wrap64]
        refine ⟨hlt3,f8.trans (f9.trans (f10.trans f11)),?_,?_,?_⟩
        ·rw [hrf,hst]; exact hSc
        ·rw [hrf,hst]; simpa using hgl7
        ·rw [hrf,hst]; simpa using hll7
       ·rw [hskip (fun hc=>k3 (by rw [←hga]; exact hc.2.2))] at hrf
        simp (disch:=omega) [b1,b3,b112,b113,b114,wrap64]
        exact ⟨hlt3,f8,by rw [hrf]; exact h8,by rw [hrf]; exact hgl7,by rw [hrf]; exact hll7⟩
      ·rw [hskip (fun hc=>k2 (by rw [←hga]; exact hc.2.1))] at hrf
       simp (disch:=omega) [b1,b3,b112,b113,b114,wrap64,k2]
       exact ⟨hlt3,f8,by rw [hrf]; exact h8,by rw [hrf]; exact hgl7,by rw [hrf]; exact hll7⟩
     ·rw [hskip (fun hc=>k1 (by rw [←hga]; exact hc.1))] at hrf
      simp (disch:=omega) [b1,b3,b112,b113,b114,wrap64,k1]
      exact ⟨hlt3,f8,by rw [hrf]; exact h8,by rw [hrf]; exact hgl7,by rw [hrf]; exact hll7⟩
    ·have:i=sD.grants.length:=by omega
     subst this
     simp
     exact ⟨O6,f1.trans (f6.trans f7),by
      have hS:dieS b s e=(List.range sD.grants.length).foldl (heirStep b e) sD:=by unfold dieS; rw [hB,hsC,hsD]; rfl
      rw [hS]; exact ⟨_,_,_,_,_,_,h7,hO6⟩⟩
end
end Go.Gm.Tryz
end
section
namespace Go.Gm.Tryz
open Go.Proofs
def start (b:Book):Stand:=⟨List.replicate b.persons.toNat true,b.owners,[],[],[],[]⟩
theorem begin_con {H:GH} {l:BLoc} {b:Book} (hb:BookIn H l b) (hp:0≤b.persons∧b.persons≤100) (ho:b.owners.length≤100):
  GCall Tryz.prog 92 [bookV l b] H fun x H'=>∃sg kn O,x=.ret (.pointer (some (ga sg 0 0)))∧H.next≤H'.next∧(∀g,g<H.next→H'.get g=H.get g)∧StandIn H' H.next l b sg kn (start b) O:=by
 rcases l with ⟨⟨⟨ra,rf⟩⟩,⟨oa,of'⟩,⟨va',vf'⟩⟩
 refine gcall_wp tok mix fok92 (F:=g92) (c:=_) rfl (n:=26) rfl (rs:= [.tmp 2]) rfl ?_
 simp
 generalize hH2:GH.push (GH.push _ _) _=H2
 have hs2:Sub H H2:=by subst hH2; exact (Sub.push (.refl H) _).push _
 have hb2:H2.get H.next=some (.arr { cells:= [.slice ra b.tbl.rows.length rf,vi b.tbl.draw,vi b.supply,vi b.term,vi b.persons,.slice oa b.owners.length of',.slice va' b.events.length vf'],ty:=28 }):=by
  subst hH2; rw [GH.get_push_lt _ _ (by simp)]; simp
 have hk2:H2.get (H.next+1)=some (.map [] 0):=by subst hH2; simp
 have hn2:H2.next=H.next+2:=by subst hH2; simp
 clear hH2
 refine (cloneI_con b.owners (by omega) oa of' H2 (hb.owners.mono hs2)).mono ?_
 rintro x H3 ⟨v,rfl,hs3,hv3⟩
 have hb3:=(hs3.2 H.next (by omega)).trans hb2
 have hk3:=(hs3.2 (H.next+1) (by omega)).trans hk2
 have hn3:=hs3.1
 obtain ⟨av,fv,rfl⟩:=hv3.slice
 obtain ⟨P,hP⟩:∃P:Nat,b.persons=P:=⟨b.persons.toNat,by omega⟩
 simp (disch:=omega) [hb3]
 generalize hH4:GH.push H3 _=H4
 have hs4:Sub H3 H4:=by subst hH4; exact Sub.push (.refl H3) _
 have hn4:H4.next=H3.next+1:=by subst hH4; simp
 have hS4:StandIn H4 H.next ⟨⟨⟨ra,rf⟩⟩,⟨oa,of'⟩,⟨va',vf'⟩⟩ b H3.next (H.next+1) ⟨[],b.owners,[],[],[],[]⟩ (fun g=>g=H3.next∨g=H.next+1∨blkOf (.slice none 0 0)=some g∨blkOf (.slice av b.owners.length fv)=some g∨blkOf (.slice none 0 0)=some g∨blkOf (.slice none 0 0)=some g∨blkOf (.slice none 0 0)=some g∨blkOf (.slice none 0 0)=some g):=by
  refine ⟨_,_,_,_,_,_,⟨?_,⟨by omega,by omega⟩,?_,?_,?_,?_,⟨[],0,(hs4.2 _ (by omega)).trans hk3,by intro e he; cases he⟩,⟨by omega,by omega⟩,.nil,(hv3.sub hs4).weaken (by omega),.nil,.nil,.nil,.nil,?_,?_,?_⟩,fun g=>Iff.rfl⟩
  ·subst hH4; simp
  ·have hsub:=hs2.trans (hs3.trans hs4)
   exact ⟨hb.t.mono hsub,hb.owners.mono hsub,hb.events.mono hsub⟩
  ·exact fun a ha=>(hb.t.ok a ha).1
  ·exact fun a ha=>(hb.owners.ok a ha).1
  ·exact fun a ha=>(hb.events.ok a ha).1
  ·intro k _ h; simp at h
  ·intro k _ h; simp at h
  ·intro k _ h; simp at h
 clear hH4
 refine wp_up tok mix (by kernel_rfl) P (fun i ρ m H5=>ρ 3=.pointer (some (ga H3.next 0 0))∧ρ 12=vi b.persons∧ρ 13=vi i∧m= []∧Sub H H5∧
  ∃O5,StandIn H5 H.next ⟨⟨⟨ra,rf⟩⟩,⟨oa,of'⟩,⟨va',vf'⟩⟩ b H3.next (H.next+1) ⟨List.replicate i true,b.owners,[],[],[],[]⟩ O5) (i0:=0) (by omega)
  ⟨by simp,by simp,by simp,by simp,hs2.trans (hs3.trans hs4),_,hS4⟩ ?_
 rintro i ρ m H5 hi ⟨e3,e12,e13,rfl,hs5,O5,h5⟩
 rw [hP] at e12
 simp [e12,e13]
 refine wpB_dec (fun hlt=>?_) (fun hge=>?_)
 ·obtain ⟨vl,vo,vg,va,vw,vf,h5',hO⟩:=h5
  have hg5:=h5'.g
  have hsl5:=h5'.sgl.2
  have hlv:=h5'.lives.len
  simp only [List.length_replicate] at hlv
  obtain ⟨vl',H6,happ,ho6,hn6,hf6,hb6⟩:=(h5'.lives.push (.arr { cells:= [.bool true],ty:=4 })).app (by simp) (by simp) (by decide) true (by have:=h5'.sgl; simp; omega)
  simp only [encB] at happ
  have d8:1*(1+i)≤1000000:=by omega
  have d9:1+i≤1000000:=by omega
  have hg6:=(hf6 H3.next (by simp; omega) (h5'.sg_ne h5'.lives (by decide))).trans ((GH.get_push_lt _ _ hsl5).trans hg5)
  simp only [GH.next_push] at hn6
  obtain ⟨al,fl,rfl⟩:=ho6.slice
  simp (disch:=omega) [e3,e12,e13,hg5,hlv,d9,happ,hg6,wrap64,hlt]
  have hS6:=h5'.upd_lives (by omega) ho6 (fun k hk hne=>by rw [hf6 k (by simp; omega) hne,GH.get_push_lt _ _ hk]) (fun k hk=>(hb6 k hk).imp id fun h=>by simp at h; omega)
  simp only [bookC,List.cons_append,List.nil_append,List.length_append,List.length_cons,List.length_nil,Nat.zero_add,List.length_replicate] at hS6 hb6
  obtain ⟨O6,f6,h6⟩:=StandIn.of h5' hO hS6 (by simp; omega) (fun k hk ho=>by
   rw [hO] at ho
   rw [GH.get_put_ne _ _ (fun hc=>ho (.inl hc)),hf6 k (by simp; omega) (fun hc=>ho (.inr (.inr (.inl hc)))),GH.get_push_lt _ _ (by omega)])
   (fun k hk=>(hb6 k hk).imp id fun h=>by simp at h; omega) (fun k hk=>.inl hk) (fun k hk=>.inl hk) (fun k hk=>.inl hk) (fun k hk=>.inl hk) (fun k hk=>.inl hk)
  have hrep:List.replicate i true++ [true]=List.replicate (i+1) true:=by rw [List.replicate_succ']
  rw [hrep] at h6
  refine ⟨hP.symm,⟨Nat.le_trans hs5.1 f6.next,fun g hg=>?_⟩,O6,h6⟩
  rw [f6.keep g (Nat.lt_of_lt_of_le hg hs5.1) (fun hc=>by have:=(h5'.own_lt ((hO g).1 hc)).1; omega),hs5.2 g hg]
 ·have:i=P:=by omega
  subst this
  simp [e3]
  refine ⟨H3.next,rfl,hs5.1,hs5.2,H.next+1,O5,?_⟩
  unfold start
  rw [hP]
  simpa using h5
end Go.Gm.Tryz
end
section
namespace Go.Gm.Tryz
open Go.Proofs
def hapTy (k:Int):Nat:=if k=1 then 176 else if k=2 then 177 else if k=3 then 178 else if k=4 then 179 else if k=5 then 180 else if k=6 then 181 else if k=7 then 182 else 183
theorem happening_con (e:Ev) (H:GH):GCall Tryz.prog 94 [evV e] H fun x H'=>x=.ret (.iface (hapTy e.kind) (evV e))∧Sub H H':=by
 refine gcall_wp tok mix fok94 (F:=g94) (c:=_) rfl (n:=43) rfl (rs:= [.tmp 2]) rfl ?_
 simp
 repeat' (first
  |(refine wpB_dec (fun h=>?_) (fun h=>?_)<;>simp [*,hapTy]))
end Go.Gm.Tryz
end
section
namespace Go.Gm.Tryz
open Go.Proofs
def size (s:Stand):Nat:=s.grants.length+s.waits.length
structure Sh (k j:Nat) (s s':Stand):Prop where
 size:size s'≤size s+k
 own:s'.owners.length≤s.owners.length+j
 liv:s'.lives.length=s.lives.length
theorem Sh.refl (s:Stand):Sh 0 0 s s:=⟨Nat.le_refl _,Nat.le_refl _,rfl⟩
theorem Sh.trans {k j k' j':Nat} {a b c:Stand} (x:Sh k j a b) (y:Sh k' j' b c):Sh (k+k') (j+j') a c:=
 ⟨by have:=x.size; have:=y.size; omega,by have:=x.own; have:=y.own; omega,y.liv.trans x.liv⟩
theorem Sh.t0 {k j:Nat} {a b c:Stand} (x:Sh k j a b) (y:Sh 0 0 b c):Sh k j a c:=x.trans y
theorem Sh.t0' {k j:Nat} {a b c:Stand} (x:Sh 0 0 a b) (y:Sh k j b c):Sh k j a c:=by have:=x.trans y; simpa using this
theorem serveS_sh {b:Book}:∀ {n:Nat} {s:Stand},Sh 0 0 s (serveS b n s):=by
 intro n
 induction n with
 |zero=>intro s; exact .refl _
 |succ n ih=>
  intro s
  simp only [serveS]
  cases hws:s.waits with
  |nil=>exact .refl _
  |cons w ws=>
   simp only
   split
   ·exact .refl _
   ·refine Sh.t0' ?_ ih
    refine ⟨?_,Nat.le_refl _,rfl⟩
    simp [size,addG,hws]; omega
theorem serve_sh (b:Book) (s:Stand):Sh 0 0 s (serve b s):=serveS_sh
theorem endS_sh (b:Book) (s:Stand) (g:Nat) (d:Int):Sh 0 0 s (endS b s g d):=by
 refine Sh.t0' ?_ (serve_sh b _)
 exact ⟨by simp [size,endG],Nat.le_refl _,rfl⟩
theorem passS_sh {b:Book} {d:Int}:∀ {n:Nat} {s:Stand},Sh 0 0 s (passS b d n s):=by
 intro n
 induction n with
 |zero=>intro s; exact .refl _
 |succ n ih=>
  intro s
  simp only [passS]
  split
  ·exact .refl _
  ·exact (endS_sh ..).t0' ih
theorem pass_sh (b:Book) (s:Stand) (d:Int):Sh 0 0 s (pass b s d):=passS_sh
theorem addG_sh (s:Stand) (p e sy u:Int):Sh 1 0 s (addG s p e sy u):=⟨by simp [size,addG]; omega,Nat.le_refl _,rfl⟩
theorem addG_wf {b:Book} {s:Stand} (h:Wf b s) (hs:size s<100) (p e sy u:Int):Wf b (addG s p e sy u):=by
 refine ⟨h.w,?_,?_,h.own,h.ev,?_⟩
 ·simp only [size] at hs; simp [addG]; omega
 ·have:=h.last; simp [addG]; omega
 ·have:=h.fe; simpa [addG] using this
theorem ownS_sh (s:Stand) (n:Nat) (p:Int):Sh 0 0 s (ownS s n p):=⟨by simp [size,ownS],by simp [ownS],rfl⟩
theorem set_fe {l:List GSt} {i:Nat} {y:GSt} (hi:i<l.length) (h:y.is=l[i].is):(l.set i y).countP (fun x=>decide (x.is=3))=l.countP (fun x=>decide (x.is=3)):=by
 have h2:=countP_set (p:=fun x:GSt=>decide (x.is=3)) (y:=y) hi
 rw [h] at h2; omega
theorem divideS_sh (s:Stand) (e:Ev):Sh 1 1 s (divideS s e):=⟨by simp [size,divideS,addG]; omega,by simp [divideS,addG],rfl⟩
theorem divideS_wf {b:Book} {s:Stand} (h:Wf b s) (hs:size s<100) (ho:s.owners.length<100) (e:Ev) (he:e.grant.toNat<s.grants.length):Wf b (divideS s e):=by
 unfold divideS
 refine addG_wf ?_ (by simpa [size] using hs) _ _ _ _
 refine ⟨h.w,by have:=h.len; simpa using this,by have:=h.last; simpa using this,by simp; omega,h.ev,?_⟩
 have hg:s.grants.getD e.grant.toNat default=s.grants[e.grant.toNat]:=getD_at he
 have:=h.fe
 simp only [hg]
 refine Nat.le_trans this (Nat.le_of_eq (set_fe he ?_).symm)
 rfl
theorem renewS_sh (s:Stand) (e:Ev):Sh 0 0 s (renewS s e):=⟨by simp [size,renewS],Nat.le_refl _,rfl⟩
theorem renewS_wf {b:Book} {s:Stand} (h:Wf b s) (e:Ev) (he:e.grant.toNat<s.grants.length) (h2:(s.grants[e.grant.toNat]).is=2):Wf b (renewS s e):=by
 refine ⟨h.w,by have:=h.len; simpa [renewS] using this,by have:=h.last; simpa [renewS] using this,h.own,h.ev,?_⟩
 have h3:=countP_set (p:=fun x:GSt=>decide (x.is=3)) (y:= { s.grants[e.grant.toNat] with is:=1 }) he
 have hg:s.grants.getD e.grant.toNat default=s.grants[e.grant.toNat]:=getD_at he
 have:=h.fe
 simp [h2] at h3
 simp only [renewS,hg]
 omega
theorem joinS_sh (s:Stand) (e:Ev):Sh 0 0 s (joinS s e):=⟨by simp [size,joinS],by simp [joinS],rfl⟩
theorem joinS_wf {b:Book} {s:Stand} (h:Wf b s) (e:Ev):Wf b (joinS s e):=by
 refine ⟨h.w,by simpa [joinS] using h.len,by simpa [joinS] using h.last,by simpa [joinS] using h.own,h.ev,?_⟩
 have h1:=h.fe
 simp only [joinS]
 rw [List.countP_map]
 refine Nat.le_trans h1 (Nat.le_of_eq ?_)
 congr 1
 funext x
 simp only [Function.comp,joinF]
 split<;>rfl
theorem askS_sh (s:Stand) (n:Int):Sh 1 0 s (askS s n):=⟨by simp [size,askS]; omega,Nat.le_refl _,rfl⟩
theorem askS_wf {b:Book} {s:Stand} (h:Wf b s) (hs:size s<100) {n:Nat} (hn:n<b.events.length):Wf b (askS s n):=by
 refine ⟨fun m hm=>?_,by simp only [size] at hs; simp [askS]; omega,h.last,h.own,h.ev,h.fe⟩
 rcases List.mem_append.1 hm with hm|hm
 ·exact h.w m hm
 ·simp at hm; omega
theorem ownFold_sh (e:Ev) (s:Stand) (i:Nat):Sh 0 0 s ((List.range i).foldl (ownStep e) s):=by
 induction i with
 |zero=>exact .refl _
 |succ i ih=>
  rw [range_fold]
  refine ih.t0 ?_
  unfold ownStep
  split
  ·exact ownS_sh ..
  ·exact .refl _
theorem endFold_sh (b:Book) (e:Ev) (s:Stand) (i:Nat):Sh 0 0 s ((List.range i).foldl (endStep b e) s):=by
 induction i with
 |zero=>exact .refl _
 |succ i ih=>
  rw [range_fold]
  refine ih.t0 ?_
  unfold endStep
  split
  ·exact endS_sh ..
  ·exact .refl _
theorem endFold_wf {b:Book} {e:Ev} {s:Stand} (h:Wf b s) {i:Nat} (hi:i≤s.grants.length):Wf b ((List.range i).foldl (endStep b e) s)∧s.grants.length≤((List.range i).foldl (endStep b e) s).grants.length:=by
 induction i with
 |zero=>exact ⟨h,Nat.le_refl _⟩
 |succ i ih=>
  obtain ⟨h1,h2⟩:=ih (by omega)
  rw [range_fold]
  obtain ⟨h3,h4⟩:=endStep_ok (e:=e) h1 (i:=i) (by omega)
  exact ⟨h3,Nat.le_trans h2 h4⟩
theorem heirStep_ok {b:Book} {e:Ev} {s:Stand} (h:Wf b s) {i:Nat} (hi:i<s.grants.length):Wf b (heirStep b e s i)∧Sh 0 0 s (heirStep b e s i)∧(heirStep b e s i).grants.length=s.grants.length:=by
 unfold heirStep
 split
 ·rename_i hc
  refine ⟨⟨h.w,by have:=h.len; simpa using this,by have:=h.last; simpa using this,h.own,h.ev,?_⟩,⟨by simp [size],Nat.le_refl _,rfl⟩,by simp⟩
  have hg:gAt s i=s.grants[i]:=getD_at hi
  rw [hg] at hc ⊢
  have h3:=countP_set (p:=fun x:GSt=>decide (x.is=3)) (y:= { s.grants[i] with is:=2,person:=e.other }) hi
  have:=h.fe
  simp [hc.1] at h3
  rw [←h3] at this
  exact this
 ·exact ⟨h,.refl _,rfl⟩
theorem heirFold_ok {b:Book} {e:Ev} {s:Stand} (h:Wf b s) {i:Nat} (hi:i≤s.grants.length):Wf b ((List.range i).foldl (heirStep b e) s)∧Sh 0 0 s ((List.range i).foldl (heirStep b e) s)∧((List.range i).foldl (heirStep b e) s).grants.length=s.grants.length:=by
 induction i with
 |zero=>exact ⟨h,.refl _,rfl⟩
 |succ i ih=>
  obtain ⟨h1,h2,h2'⟩:=ih (by omega)
  rw [range_fold]
  obtain ⟨h3,h4,h5⟩:=heirStep_ok (e:=e) h1 (i:=i) (by omega)
  exact ⟨h3,h2.t0 h4,h5.trans h2'⟩
theorem dieS_ok {b:Book} {s:Stand} (h:Wf b s) (e:Ev):Wf b (dieS b s e)∧Sh 0 0 s (dieS b s e):=by
 unfold dieS
 have h1:=dieA_wf h e
 have s1:Sh 0 0 s (dieA s e):=⟨Nat.le_refl _,Nat.le_refl _,by simp [dieA]⟩
 have h2:Wf b (dieB (dieA s e) e):=(ownFold_ok (e:=e) h1 _).1
 have s2:Sh 0 0 s (dieB (dieA s e) e):=s1.t0 (ownFold_sh e _ _)
 have h3:Wf b (dieC b (dieB (dieA s e) e) e):=dieC_wf h2 e
 have s3:Sh 0 0 s (dieC b (dieB (dieA s e) e) e):=s2.t0 ⟨by
  have:=List.length_filter_le (notOf b e) (dieB (dieA s e) e).waits
  simp only [size,dieC]; omega,Nat.le_refl _,rfl⟩
 have h4:Wf b (dieD b (dieC b (dieB (dieA s e) e) e) e):=(endFold_wf (e:=e) h3 (Nat.le_refl _)).1
 have s4:Sh 0 0 s (dieD b (dieC b (dieB (dieA s e) e) e) e):=s3.t0 (endFold_sh ..)
 have h5:=heirFold_ok (e:=e) h4 (Nat.le_refl _)
 exact ⟨h5.1,s4.t0 h5.2.1⟩
end Go.Gm.Tryz
end
section
namespace Go.Gm.Tryz
open Go.Proofs
def goesB (b:Book) (s:Stand) (e:Ev):Bool:=
 if e.kind=1 then s.lives.getD e.person.toNat false&&fitsB b s e
 else if e.kind=2 then existsB s e.estate&&fitsB b s e
 else if e.kind=3 then decide (e.person≠e.other)&&(s.lives.getD e.person.toNat false&&s.lives.getD e.other.toNat false)
 else if e.kind=4 then existsB s e.estate&&(s.lives.getD e.person.toNat false&&decide (s.owners.getD e.estate.toNat 0≠e.person))
 else if e.kind=5 then divB b s e
 else if e.kind=6 then decide (e.estate≠e.other)&&(existsB s e.estate&&(existsB s e.other&&decide (s.owners.getD e.estate.toNat 0=s.owners.getD e.other.toNat 0)))
 else if e.kind=7 then decide (e.grant<s.grants.length)&&(decide ((s.grants.getD e.grant.toNat default).is=2)&&decide ((s.grants.getD e.grant.toNat default).person=e.person))
 else s.lives.getD e.person.toNat false&&decide (0≤waterI b.tbl e.system e.units)
def doS (b:Book) (s:Stand) (e:Ev) (n:Nat):Stand:=
 if e.kind=1 then giveS s e
 else if e.kind=2 then attachS s e
 else if e.kind=3 then dieS b s e
 else if e.kind=4 then ownS s e.estate.toNat e.person
 else if e.kind=5 then divideS s e
 else if e.kind=6 then joinS s e
 else if e.kind=7 then renewS s e
 else askS s n
def upFrom (b:Book) (day:Int):List Ev→Nat→Stand→Nat⊕Stand
 | [],_,s=>.inr (pass b s day)
 |e::es,n,s=>if e.day>day then .inr (pass b s day) else
  if goesB b (pass b s e.day) e then upFrom b day es (n+1) (serve b (doS b (pass b s e.day) e n)) else .inl n
def upS (b:Book) (day:Int):Nat⊕Stand:=upFrom b day b.events 0 (start b)
structure EvOk (b:Book) (s:Stand) (e:Ev):Prop where
 kind:1≤e.kind∧e.kind≤8
 person:e.kind≠2→e.kind≠6→0≤e.person∧e.person<s.lives.length
 other:e.kind=3→0≤e.other∧e.other<s.lives.length
 estate:0≤e.estate
 grant:0≤e.grant
 other0:0≤e.other
theorem isPerson_ok {b:Book} {n:Int} (h:isPersonI b n=true) (hb:1≤b.persons∧b.persons≤8):0≤n∧n<b.persons.toNat:=by
 simp (disch:=omega) only [isPersonI,inI,wrap64,decide_eq_true_eq] at h
 omega
theorem event_ok {b:Book} {s:Stand} {e:Ev} (hb:1≤b.persons∧b.persons≤8) (hl:s.lives.length=b.persons.toNat) (h:isEventB b e=true):EvOk b s e:=by
 unfold isEventB at h
 simp only [Bool.and_eq_true] at h
 obtain ⟨_,h⟩:=h
 have hp:∀ {n:Int},isPersonI b n=true→0≤n∧n<s.lives.length:=fun h=>by rw [hl]; exact isPerson_ok h hb
 by_cases k1:e.kind=1∨e.kind=8
 ·simp [k1,emptyB] at h
  have:=hp h.1.1
  exact ⟨by omega,fun _ _=>this,by omega,by omega,by omega,by omega⟩
 by_cases k2:e.kind=2
 ·simp [k2,emptyB,isEstateI,inI] at h
  exact ⟨by omega,by omega,by omega,by omega,by omega,by omega⟩
 by_cases k3:e.kind=3
 ·simp [k3,emptyB] at h
  have:=hp h.1.1
  have h2:=hp h.1.2
  exact ⟨by omega,fun _ _=>this,fun _=>h2,by omega,by omega,by omega⟩
 by_cases k4:e.kind=4
 ·simp [k4,emptyB,isEstateI,inI] at h
  have:=hp h.1.2
  exact ⟨by omega,fun _ _=>this,by omega,by omega,by omega,by omega⟩
 by_cases k5:e.kind=5
 ·simp [k5,emptyB,isGrantI,inI] at h
  have:=hp h.1.2
  exact ⟨by omega,fun _ _=>this,by omega,by omega,by omega,by omega⟩
 by_cases k6:e.kind=6
 ·simp [k6,emptyB,isEstateI,inI] at h
  exact ⟨by omega,by omega,by omega,by omega,by omega,by omega⟩
 by_cases k7:e.kind=7
 ·simp [k7,emptyB,isGrantI,inI] at h
  have:=hp h.1.2
  exact ⟨by omega,fun _ _=>this,by omega,by omega,by omega,by omega⟩
 simp [k1,k2,k3,k4,k5,k6,k7] at h
end Go.Gm.Tryz
end
section
namespace Go.Gm.Tryz
open Go.Proofs
def goesF (k:Int):FuncId:=if k=1 then 156 else if k=2 then 159 else if k=3 then 162 else if k=4 then 165 else if k=5 then 167 else if k=6 then 169 else if k=7 then 171 else 173
def doF (k:Int):FuncId:=if k=1 then 155 else if k=2 then 158 else if k=3 then 161 else if k=4 then 164 else if k=5 then 166 else if k=6 then 168 else if k=7 then 170 else 172
theorem hap_cases (k:Int):(k=1∨k=2∨k=3∨k=4∨k=5∨k=6∨k=7∨(k≠1∧k≠2∧k≠3∧k≠4∧k≠5∧k≠6∧k≠7)):=by omega
theorem iv_goes (k:Int) (v:Value) (l:List Value) (H:GH):ivR (T.get (hapTy k)) "quinaria/grant.goes" v l H=some (.enter (goesF k) (v::l) H):=by
 rcases hap_cases k with h|h|h|h|h|h|h|h<;>simp [hapTy,goesF,h]
theorem iv_do (k:Int) (v:Value) (l:List Value) (H:GH):ivR (T.get (hapTy k)) "quinaria/grant.do" v l H=some (.enter (doF k) (v::l) H):=by
 rcases hap_cases k with h|h|h|h|h|h|h|h<;>simp [hapTy,doF,h]
section
variable {H:GH} {N:Nat} {l:BLoc} {b:Book} {sg kn:Nat} {s:Stand} {O:Nat→Prop}
theorem goes_con (h:StandIn H N l b sg kn s O) (hw:Wf b s) {e:Ev} (he:EvOk b s e):Goes (goesF e.kind) H N l b sg kn s O e (goesB b s e):=by
 have hk:=he.kind
 unfold goesB goesF
 by_cases k1:e.kind=1
 ·rw [if_pos k1,if_pos k1]; exact give_goes h hw e (he.person (by omega) (by omega))
 rw [if_neg k1,if_neg k1]
 by_cases k2:e.kind=2
 ·rw [if_pos k2,if_pos k2]; exact attach_goes h hw e he.estate
 rw [if_neg k2,if_neg k2]
 by_cases k3:e.kind=3
 ·rw [if_pos k3,if_pos k3]; exact die_goes h hw e (he.person (by omega) (by omega)) (he.other k3)
 rw [if_neg k3,if_neg k3]
 by_cases k4:e.kind=4
 ·rw [if_pos k4,if_pos k4]; exact sell_goes h hw e (he.person (by omega) (by omega)) he.estate
 rw [if_neg k4,if_neg k4]
 by_cases k5:e.kind=5
 ·rw [if_pos k5,if_pos k5]; exact divide_goes h hw e (he.person (by omega) (by omega)) he.grant
 rw [if_neg k5,if_neg k5]
 by_cases k6:e.kind=6
 ·rw [if_pos k6,if_pos k6]; exact join_goes h hw e he.other0 he.estate
 rw [if_neg k6,if_neg k6]
 by_cases k7:e.kind=7
 ·rw [if_pos k7,if_pos k7]; exact renew_goes h hw e he.grant
 rw [if_neg k7,if_neg k7]
 exact ask_goes h hw e (he.person (by omega) (by omega))
theorem do_con (h:StandIn H N l b sg kn s O) (hw:Wf b s) {e:Ev} (he:EvOk b s e) (hg:goesB b s e=true) (n:Nat) (hn:n<b.events.length) (hs:size s<100) (ho:s.owners.length<100):
  Does (doF e.kind) H N l b sg kn O e n (doS b s e n)∧Wf b (doS b s e n)∧Sh 1 1 s (doS b s e n):=by
 have hk:=he.kind
 have up:∀ {k j:Nat} {s':Stand},k≤1→j≤1→Sh k j s s'→Sh 1 1 s s':=fun hk hj x=>⟨by have:=x.size; omega,by have:=x.own; omega,x.liv⟩
 unfold goesB at hg
 unfold doS doF
 by_cases k1:e.kind=1
 ·rw [if_pos k1,if_pos k1]; exact ⟨give_do h hw e n,addG_wf hw hs _ _ _ _,up (by omega) (by omega) (addG_sh ..)⟩
 rw [if_neg k1] at hg
 rw [if_neg k1,if_neg k1]
 by_cases k2:e.kind=2
 ·rw [if_pos k2] at hg
  simp only [existsB,Bool.and_eq_true,decide_eq_true_eq] at hg
  rw [if_pos k2,if_pos k2]; exact ⟨attach_do h hw e n ⟨he.estate,hg.1.1⟩,addG_wf hw hs _ _ _ _,up (by omega) (by omega) (addG_sh ..)⟩
 rw [if_neg k2] at hg
 rw [if_neg k2,if_neg k2]
 by_cases k3:e.kind=3
 ·rw [if_pos k3,if_pos k3]; have:=dieS_ok hw e; exact ⟨die_do h hw e n (he.person (by omega) (by omega)),this.1,up (by omega) (by omega) this.2⟩
 rw [if_neg k3] at hg
 rw [if_neg k3,if_neg k3]
 by_cases k4:e.kind=4
 ·rw [if_pos k4] at hg
  simp only [existsB,Bool.and_eq_true,decide_eq_true_eq] at hg
  rw [if_pos k4,if_pos k4]; exact ⟨sell_do h hw e n ⟨he.estate,hg.1.1⟩,ownS_wf hw _ _,up (by omega) (by omega) (ownS_sh ..)⟩
 rw [if_neg k4] at hg
 rw [if_neg k4,if_neg k4]
 by_cases k5:e.kind=5
 ·rw [if_pos k5] at hg
  simp only [divB,Bool.and_eq_true,decide_eq_true_eq] at hg
  have hgr:=he.grant
  rw [if_pos k5,if_pos k5]; exact ⟨divide_do h hw e n ⟨he.grant,hg.1⟩,divideS_wf hw hs ho e (by omega),up (by omega) (by omega) (divideS_sh ..)⟩
 rw [if_neg k5] at hg
 rw [if_neg k5,if_neg k5]
 by_cases k6:e.kind=6
 ·rw [if_pos k6] at hg
  simp only [existsB,Bool.and_eq_true,decide_eq_true_eq] at hg
  rw [if_pos k6,if_pos k6]; exact ⟨join_do h hw e n ⟨he.other0,hg.2.2.1.1⟩,joinS_wf hw e,up (by omega) (by omega) (joinS_sh ..)⟩
 rw [if_neg k6] at hg
 rw [if_neg k6,if_neg k6]
 by_cases k7:e.kind=7
 ·rw [if_pos k7] at hg
  simp only [Bool.and_eq_true,decide_eq_true_eq] at hg
  have hgr:=he.grant
  have hl:e.grant.toNat<s.grants.length:=by omega
  have h2:=hg.2.1
  rw [getD_at hl] at h2
  rw [if_pos k7,if_pos k7]; exact ⟨renew_do h hw e n ⟨he.grant,hg.1⟩,renewS_wf hw e hl h2,up (by omega) (by omega) (renewS_sh ..)⟩
 rw [if_neg k7,if_neg k7]
 exact ⟨ask_do h hw e n,askS_wf hw hs hn,up (by omega) (by omega) (askS_sh ..)⟩
end
end Go.Gm.Tryz
end
section
namespace Go.Gm.Tryz
open Go.Proofs
structure BookOk (b:Book):Prop where
 persons:1≤b.persons∧b.persons≤8
 owners:b.owners.length≤6
 events:b.events.length≤12
 ev:∀(i:Nat) (h:i<b.events.length),isEventB b b.events[i]=true
theorem book_ok {b:Book} (h:isBookB b=true):BookOk b:=by
 simp only [isBookB,Bool.and_eq_true,inI,decide_eq_true_eq,List.all_eq_true,List.mem_range,badAt,Bool.not_eq_true',Bool.or_eq_false_iff,Bool.not_eq_false'] at h
 refine ⟨h.1.1.1.1.2,h.1.1.1.2,h.1.1.2,fun i hi=>?_⟩
 have:=(h.1.2 i hi).1
 rwa [getD_at hi] at this
theorem start_wf {b:Book} (h:BookOk b):Wf b (start b):=by
 have h1:=h.owners
 have h2:=h.events
 exact ⟨fun n hn=>by simp [start] at hn,by simp [start],rfl,by simp [start]; omega,by omega,by simp [start]⟩
theorem up_con {H:GH} {l:BLoc} {b:Book} (hb:BookIn H l b) (hB:BookOk b) (day:Int):
  GCall Tryz.prog 54 [bookV l b,vi day] H fun x H'=>H.next≤H'.next∧(∀g,g<H.next→H'.get g=H.get g)∧match upS b day with
   | .inr s=>∃N sg kn O,H.next≤N∧x=.ret (.pointer (some (ga sg 0 0)))∧StandIn H' N l b sg kn s O∧Wf b s
   | .inl n=>x=.pan (.iface 142 (.agg #[vi n])):=by
 rcases l with ⟨⟨⟨ra,rf⟩⟩,⟨oa,of'⟩,⟨va',vf'⟩⟩
 have hp:=hB.persons
 have ho:=hB.owners
 have hv:=hB.events
 refine gcall_wp tok mix fok54 (F:=g54) (c:=_) rfl (n:=47) rfl (rs:= [.tmp 4]) rfl ?_
 simp
 generalize hH1:H.push _=H1
 have hs1:Sub H H1:=by subst hH1; exact Sub.push (.refl H) _
 have hb1:H1.get H.next=some (.arr { cells:= [.slice ra b.tbl.rows.length rf,vi b.tbl.draw,vi b.supply,vi b.term,vi b.persons,.slice oa b.owners.length of',.slice va' b.events.length vf'],ty:=28 }):=by subst hH1; simp
 have hn1:H1.next=H.next+1:=by subst hH1; simp
 clear hH1
 have hbi:BookIn H1 ⟨⟨⟨ra,rf⟩⟩,⟨oa,of'⟩,⟨va',vf'⟩⟩ b:=⟨hb.t.mono hs1,hb.owners.mono hs1,hb.events.mono hs1⟩
 refine (begin_con hbi (by omega) (by omega)).mono ?_
 rintro x H2 ⟨sg,kn,O2,rfl,hn2,hk2,h2⟩
 have hs2:Sub H1 H2:=⟨hn2,hk2⟩
 have hb2:=(hk2 H.next (by omega)).trans hb1
 simp (disch:=omega) [hb2]
 refine wp_up tok mix (by kernel_rfl) b.events.length (fun i ρ m H3=>ρ 1=vi day∧ρ 5=.pointer (some (ga sg 0 0))∧ρ 12=.slice va' b.events.length vf'∧ρ 13=vi b.events.length∧ρ 14=vi i∧m= []∧
  ∃s O3,Frm O2 O3 H2 H3∧StandIn H3 H1.next ⟨⟨⟨ra,rf⟩⟩,⟨oa,of'⟩,⟨va',vf'⟩⟩ b sg kn s O3∧Wf b s∧size s≤i∧s.owners.length≤6+i∧s.lives.length=b.persons.toNat∧upFrom b day (b.events.drop i) i s=upS b day) (i0:=0) (by omega)
  ⟨by simp,by simp,by simp,by simp,by simp,by simp,start b,O2,Frm.refl (fun g hg=>(h2.lt g hg).2),h2,start_wf hB,by simp [size,start],by simp [start]; omega,by simp [start],rfl⟩ ?_
 rintro i ρ m H3 hi ⟨e1,e5,e12,e13,e14,rfl,s,O3,f3,h3,hw3,hz,hoi,hl,hup⟩
 have hkeep:∀ {O4:Nat→Prop} {H4:GH},Frm O2 O4 H2 H4→H.next≤H4.next∧∀g,g<H.next→H4.get g=H.get g:=fun {O4 H4} f=>
  ⟨Nat.le_trans hs1.1 (Nat.le_trans hs2.1 f.next),fun g hg=>by rw [f.keep g (by omega) (fun hc=>by have:=(h2.lt g hc).1; omega),hs2.2 g (by omega),hs1.2 g hg]⟩
 simp [e13,e14]
 refine wpB_dec (fun hlt=>?_) (fun hge=>?_)
 ·obtain ⟨_,_,_,_,_,_,h3'⟩:=h3.st
  obtain ⟨a,rfl,hab,hrd⟩:=h3'.book.events.at i hlt
  have hltI:(i:Int)<b.events.length:=by omega
  rw [List.drop_eq_getElem_cons hlt,upFrom] at hup
  have hev:=event_ok (s:=pass b s b.events[i].day) hB.persons ((pass_sh b s b.events[i].day).liv.trans hl) (hB.ev i hlt)
  obtain ⟨e,hE⟩:∃e,b.events[i]=e:=⟨_,rfl⟩
  rw [hE] at hup hev hrd
  simp (disch:=omega) [e1,e12,e14,hrd]
  generalize hH4:GH.put _ _ _=H4
  have hs4:Sub H3 H4:=by subst hH4; exact (Sub.push (.refl H3) _).put (Nat.le_refl _) _
  have hb4:H4.get H3.next=some (.arr { cells:=encEv e,ty:=56 }):=by subst hH4; simp
  have hn4:H3.next<H4.next:=by subst hH4; simp
  clear hH4
  obtain ⟨h4,f4⟩:=h3.sub hs4
  have hO3:∀g,O3 g→g<H3.next:=fun g hg=>(h3.lt g hg).2
  refine wpB_dec (fun hd=>?_) (fun hd=>?_)
  ·rw [if_pos hd] at hup
   simp [e1,e5]
   refine (pass_con h4 hw3 day).mono ?_
   rintro x H5 ⟨rfl,O5,f5,h5⟩
   have:=hkeep (f3.trans (f4.trans f5))
   simp [e5,←hup]
   exact ⟨this.1,this.2,H1.next,by omega,sg,rfl,⟨_,_,h5⟩,pass_wf hw3⟩
  ·rw [if_neg hd] at hup
   simp (disch:=omega) [e5,hb4]
   refine (pass_con h4 hw3 e.day).mono ?_
   rintro x H5 ⟨rfl,O5,f5,h5⟩
   have hb5:=(f5.keep H3.next hn4 (fun hc=>by have:=hO3 _ hc; omega)).trans hb4
   have hn5:=f5.next
   have hw5:Wf b (pass b s e.day):=pass_wf hw3
   have hsh5:=pass_sh b s e.day
   simp (disch:=omega) [hb5]
   refine (happening_con e H5).mono ?_
   rintro x H6 ⟨rfl,hs6⟩
   obtain ⟨h6,f6⟩:=h5.sub hs6
   simp [e5,iv_goes]
   refine (goes_con h6 hw5 hev).mono ?_
   rintro x H7 ⟨rfl,f7,h7⟩
   have f27:=f3.trans (f4.trans (f5.trans (f6.trans f7)))
   simp
   cases hgo:goesB b (pass b s e.day) e with
   |false=>
    rw [if_neg (by rw [hgo]; decide)] at hup
    have:=hkeep f27
    simp [←hup]
    exact ⟨this.1,this.2⟩
   |true=>
    rw [if_pos hgo] at hup
    have z5:=hsh5.size
    have o5:=hsh5.own
    obtain ⟨hdo,hwd,hsd⟩:=do_con h7 hw5 hev hgo i (by omega) (by omega) (by omega)
    simp [e5,iv_do]
    refine hdo.mono ?_
    rintro x H8 ⟨rfl,O8,f8,h8⟩
    simp [e5]
    refine (serve_con h8 hwd).mono ?_
    rintro x H9 ⟨rfl,O9,f9,h9⟩
    have z9:=(hsd.t0 (serve_sh b _)).size
    have o9:=(hsd.t0 (serve_sh b _)).own
    have l9:=(hsh5.t0' (hsd.t0 (serve_sh b _))).liv
    simp (disch:=omega) [e1,e5,e12,e13,e14,wrap64]
    exact ⟨hlt,serve b (doS b (pass b s e.day) e i),O9,f27.trans (f8.trans f9),h9,serve_wf hwd,by omega,by omega,l9.trans hl,hup⟩
 ·have:i=b.events.length:=by omega
  subst this
  rw [List.drop_length,upFrom] at hup
  simp [e1,e5]
  refine (pass_con h3 hw3 day).mono ?_
  rintro x H5 ⟨rfl,O5,f5,h5⟩
  have:=hkeep (f3.trans f5)
  simp [e5,←hup]
  exact ⟨this.1,this.2,H1.next,by omega,sg,rfl,⟨_,_,h5⟩,pass_wf hw3⟩
end Go.Gm.Tryz
end
section
namespace Go.Gm.Tryz
open Go.Proofs
theorem eql_iface (t:TypeId) (v:Value):gbin T .eql 20 (.iface t v) .nilIface=some (.bool false):=by
 have:gequal T 20 (.iface t v) .nilIface=some false:=nrfl rfl
 simp [gbin,this]
theorem rest136:∃(id:Nat) (os:Array Oper) (c:Code),g91.fn.body=some (.seq (.region id os false) c)∧codeOk T g91.plans c=true∧
  (∀(Q:Exit→Act→List Frame→World→Prop) (a:Act) (c₀ :Frame) (cs:List Frame) (w:World) (pv:Value),c₀.mode=.panicking [{ v:=pv,recovered:=false }]→
   Q .normal (a.put (some 6) pv) ({ c₀ with mode:=.panicking [{ v:=pv,recovered:=true }] }::cs) w→wpOpsSIn Fence.wide 0 Tryz.prog os Q (List.range os.size) a (c₀ ::cs) w)∧
  (∀(ρ:Rho) (H:GH) (Q:VQ) (n:Int) (g2 g3:Nat),ρ 0=.pointer (some (ga g2 0 0))→ρ 1=.pointer (some (ga g3 0 0))→g2≠g3→g2<H.next→g3<H.next→
   H.get g2=some (.arr { cells:= [vi 0],ty:=3 })→H.get g3=some (.arr { cells:= [vi 0],ty:=33 })→ρ 6=.iface 142 (.agg #[vi n])→
   (∀ρ' H',H.next≤H'.next→(∀g,g<H.next→g≠g2→g≠g3→H'.get g=H.get g)→H'.get g2=some (.arr { cells:= [vi n],ty:=3 })→H'.get g3=some (.arr { cells:= [vi 7],ty:=33 })→Q .normal ρ' [] H')→
   wpC ⟨Tryz.prog,T,g91.plans,17,none⟩ c Q ρ [] H):=by
 refine ⟨_,_,_,rfl,by kernel_rfl,?_,?_⟩
 ·intro Q a c₀ cs w pv hu hq
  simp [wpOpsSIn,go_sem,recoverD,hu]
  first|exact hq|exact ⟨fun _ _=>trivial,hq⟩
 intro ρ H Q n g2 g3 e0 e1 hne l2 l3 h2 h3 e6 hq
 simp (disch:=omega) [e0,e1,e6,h2,h3,eql_iface]
 refine hq _ _ (by simp) (fun g hg k2 k3=>?_) ?_ ?_
 ·rw [GH.get_put_ne _ _ k3,GH.get_put_ne _ _ k2,GH.get_put_ne _ _ (by omega),GH.get_push_lt _ _ hg]
 ·simp (disch:=omega)
 ·simp (disch:=omega)
theorem fa_rho0 (a b:Nat) (args:List Value) (ha:args.length=a):fa (a+b) (rho0 args) []= { tmps:=args++List.replicate b undef }:=by
 unfold fa rho0
 simp only [GA.mk.injEq,and_true]
 apply List.ext_getElem?
 intro j
 subst ha
 by_cases h1:j<args.length
 ·rw [List.getElem?_append_left h1]
  have:j<args.length+b:=by omega
  simp [this,h1]
 ·rw [List.getElem?_append_right (by omega)]
  by_cases h2:j<args.length+b
  ·have h3:j - args.length<b:=by omega
   simp [h2,h1,h3]
  ·have h3:¬j - args.length<b:=by omega
   simp [h2,h3]
theorem catch136 {β:Bm} {H:GH} {w:World} {n:Int} {g2 g3:Nat} {p2 p3 pv:Value} (hR:Rel β H w) (v2:VR β (.pointer (some (ga g2 0 0))) p2) (v3:VR β (.pointer (some (ga g3 0 0))) p3)
  (vp:VR β (.iface 142 (.agg #[vi n])) pv) (hne:g2≠g3) (l2:g2<H.next) (l3:g3<H.next) (h2:H.get g2=some (.arr { cells:= [vi 0],ty:=3 })) (h3:H.get g3=some (.arr { cells:= [vi 0],ty:=33 })):
  CallsDIn Fence.wide 0 Tryz.prog 91 #[p2,p3] (.panicking [{ v:=pv,recovered:=false }]) w fun e u' w'=>e=.returned (.tuple #[])∧u'=.panicking [{ v:=pv,recovered:=true }]∧
   ∃β' H',Rel β' H' w'∧Ext β H w β' H' w'∧H.next≤H'.next∧(∀g,g<H.next→g≠g2→g≠g3→H'.get g=H.get g)∧H'.get g2=some (.arr { cells:= [vi n],ty:=3 })∧H'.get g3=some (.arr { cells:= [vi 7],ty:=33 }):=by
 obtain ⟨id,os,c,hb,hok,hA,hB⟩:=rest136
 refine callsDIn_of_wpSIn fok91.fn hb trivial fun c₀ cs hu=>?_
 apply wpSIn_seq
 apply wpSIn_region
 refine hA _ _ c₀ cs w pv hu ?_
 show c.wpSIn _ _ _ _ _ _ _
 refine wpSIn_of_wpIn rfl ?_
 have hw:=wpC_sound (X:=⟨Tryz.prog,T,g91.plans,17,none⟩) tok mix c hok (hB (upd (rho0 [.pointer (some (ga g2 0 0)),.pointer (some (ga g3 0 0))]) 6 (.iface 142 (.agg #[vi n]))) H
  (fun x _ m H'=>x=.normal∧m= []∧H.next≤H'.next∧(∀g,g<H.next→g≠g2→g≠g3→H'.get g=H.get g)∧H'.get g2=some (.arr { cells:= [vi n],ty:=3 })∧H'.get g3=some (.arr { cells:= [vi 7],ty:=33 })) n g2 g3 (by simp) (by simp) hne l2 l3 h2 h3 (by simp) (fun ρ' H' a b c d=>⟨rfl,rfl,a,b,c,d⟩))
 have hn:g91.fn.ntmps=17:=rfl
 have u:=VR.undef β
 have hA2:ActR β (fa 17 (upd (rho0 [.pointer (some (ga g2 0 0)),.pointer (some (ga g3 0 0))]) 6 (.iface 142 (.agg #[vi n]))) []) (({ tmps:= #[p2,p3]++Array.replicate (g91.fn.ntmps - #[p2,p3].size) undef,defers:= [] }:Act).put (some 6) pv):=by
  have h0:ActR β (fa 17 (rho0 [.pointer (some (ga g2 0 0)),.pointer (some (ga g3 0 0))]) []) ({ tmps:= #[p2,p3]++Array.replicate (g91.fn.ntmps - #[p2,p3].size) undef,defers:= [] }:Act):=by
   rw [hn,fa_rho0 2 15 _ rfl]
   refine ⟨?_,.nil⟩
   simp only [Array.toList_append,Array.toList_replicate]
   exact (VRs.cons v2 (.cons v3 .nil)).append (VRs.replicate _ u)
  have h1:=h0.put (some 6) vp
  rw [fa_put] at h1
  exact h1
 refine wpIn_mono (hw β w _ none hR hA2 .none) fun e r w' hp=>?_
 obtain ⟨x,a',β',H',⟨ρ',m,rfl,rfl,rfl,k1,k2,k3,k4⟩,hR',hE,hA',he⟩:=hp
 cases he
 have hd:r.defers= []:=by
  have:=hA'.marks
  generalize r.defers=ds at this
  cases this; rfl
 refine ⟨hd,_,rfl,.tuple #[],?_,rfl,rfl,β',H',hR',hE,k1,k2,k3,k4⟩
 simp [results,g91]
end Go.Gm.Tryz
end
section
namespace Go.Gm.Tryz
open Go.Proofs
theorem idle136':∃(id:Nat) (os:Array Oper) (c:Code),g91.fn.body=some (.seq (.region id os false) c)∧
  (∀(Q:Exit→Act→List Frame→World→Prop) (a:Act) (c₀ :Frame) (cs:List Frame) (w:World),c₀.mode=.returning→
   Q .normal (a.put (some 6) .nilIface) (c₀ ::cs) w→wpOpsSIn Fence.wide 0 Tryz.prog os Q (List.range os.size) a (c₀ ::cs) w)∧
  (∀(Q:Exit→Act→World→Prop) (t:Array Value) (w:World),17=t.size→t[6]?=some .nilIface→(∀a',a'.defers= []→Q .normal a' w)→c.wpIn Fence.wide 0 Tryz.prog Q { tmps:=t,defers:= [] } w):=by
 refine ⟨_,_,_,rfl,?_,?_⟩
 ·intro Q a c₀ cs w hu hq
  simp [wpOpsSIn,go_sem,recoverD,hu]
  exact hq
 ·intro Q t w ht h6 hq
  refine wpIn_block ?_
  refine wpIn_seq ?_
  refine wpIn_region ?_
  simp [wpOpsIn,go_sem,h6]
  refine wpIn_cond_true (by simp [Act.eval]; omega) ?_
  refine wpIn_region ?_
  simp [wpOpsIn,go_sem]
  exact hq _ rfl
theorem idle136 {w:World} {p2 p3:Value}:
  CallsDIn Fence.wide 0 Tryz.prog 91 #[p2,p3] .returning w fun e u' w'=>e=.returned (.tuple #[])∧u'=.returning∧w'=w:=by
 obtain ⟨id,os,c,hb,hA,hB⟩:=idle136'
 refine callsDIn_of_wpSIn fok91.fn hb trivial fun c₀ cs hu=>?_
 apply wpSIn_seq
 apply wpSIn_region
 refine hA _ _ c₀ cs w hu ?_
 show c.wpSIn _ _ _ _ _ _ _
 refine wpSIn_of_wpIn rfl ?_
 have hn:g91.fn.ntmps=17:=rfl
 refine hB _ _ w ?_ ?_ fun a' hd=>?_
 ·rw [hn]; simp
 ·rw [hn]; simp
 ·refine ⟨hd,.returning,?_,.tuple #[],?_,rfl,rfl,rfl⟩
  ·cases c₀; simp_all
  ·simp [results,g91]
end Go.Gm.Tryz
end
section
namespace Go.Gm.Tryz
open Go.Proofs
theorem attempt_parts:∃(c0:Code) (i1 i2 i3:Nat) (o1 o2 o3:Array Oper),Tryz.f52.body=some (.seq c0 (.seq (.region i1 o1 false) (.seq (.region i2 o2 false) (.seq (.region i3 o3 false) .ret))))∧codeOk T [] c0=true∧
  (∀(H:GH) (ρ:Rho) (Q:VQ),Q .normal (upd (upd ρ 2 (.pointer (some (ga H.next 0 0)))) 3 (.pointer (some (ga (H.next+1) 0 0)))) [] ((H.push (.arr { cells:= [vi 0],ty:=3 })).push (.arr { cells:= [vi 0],ty:=33 }))→wpC ⟨Tryz.prog,T,[],7,none⟩ c0 Q ρ [] H)∧
  (∀(Q:Exit→Act→World→Prop) (t:Array Value) (w:World) (p2 p3:Value),7=t.size→t[2]?=some p2→t[3]?=some p3→(∀a',a'.defers= [{ target:=.fn (.func 91) #[p2,p3],args:= #[] }]→a'.tmps.size=7→a'.tmps[0]?=t[0]?→a'.tmps[2]?=some p2→a'.tmps[3]?=some p3→Q .normal a' w)→(Code.region i1 o1 false).wpIn Fence.wide 0 Tryz.prog Q { tmps:=t,defers:= [] } w)∧
  (∀(Q:Exit→Act→World→Prop) (a:Act) (w:World) (f:FuncId) (first cap:Array Value),7=a.tmps.size→a.tmps[0]?=some (.func (.func f) first cap)→Ent Tryz.prog f→
   CallsIn Fence.wide 0 Tryz.prog f (first++cap) w (fun e w'=>match e with
    | .returned _v=>∀a':Act,a'.defers=a.defers→a'.tmps.size=7→a'.tmps[2]?=a.tmps[2]?→a'.tmps[3]?=a.tmps[3]?→Q .normal a' w'
    | .panicked ch=>∀a':Act,a'.defers=a.defers→a'.tmps.size=7→a'.tmps[2]?=a.tmps[2]?→a'.tmps[3]?=a.tmps[3]?→Q (.panic ch) a' w'
    | .outgrown=>LetsOut Q)→(Code.region i2 o2 false).wpIn Fence.wide 0 Tryz.prog Q a w):=by
 refine ⟨_,_,_,_,_,_,_,rfl,by kernel_rfl,?_,?_,?_⟩
 ·intro H ρ Q hq
  simp
  exact hq
 ·intro Q t w p2 p3 ht h2 h3 hq
  refine wpIn_region ?_
  have hmf:∀(fn:Fn) (first cap:Array Value) (w:World),(Instr.makeFunc fn first cap).run Tryz.prog w=.ok (.func fn first cap) w:=fun _ _ _ _=>rfl
  have h4:4<t.size:=by omega
  simp [wpOpsIn,go_sem,h2,h3,hmf,Oper.uponIn,h4]
  exact hq _ rfl (by simp; omega) (by simp) (by simp [h2]) (by simp [h3])
 ·intro Q a w f first cap ht h0 hent hc
  refine wpIn_region ?_
  have h5:5<a.tmps.size:=by omega
  simp [wpOpsIn,go_sem,h0,Oper.uponIn,h5]
  refine ⟨trivial,?_⟩
  rw [hent]
  refine ⟨rfl,hc.mono ?_⟩
  intro e w' h
  cases e with
  |returned v=>exact h _ rfl (by simp; omega) (by simp) (by simp)
  |panicked ch=>exact h _ rfl (by simp; omega) (by simp) (by simp)
  |outgrown=>exact h
end Go.Gm.Tryz
end
section
namespace Go.Gm.Tryz
open Go.Proofs
theorem st_skip {o:Oper} {t k:Nat} (ho:o.op=.store t (.tmp k) (.const (vi 0))) {r:TRow} (hr:T.get t=some r) (hsz:r.size=1) {a:Act} {p:Value} (hk:a.tmps[k]?=some p) {g:Nat} {β:Bm} {H:GH} {w:World}
  (v:VR β (.pointer (some (ga g 0 0))) p) (hg:H.get g=some (.arr { cells:= [vi 0],ty:=t })) (hR:Rel β H w):Skips Tryz.prog β H w (execOp a.eval o) (H.put g (.arr { cells:= [vi 0],ty:=t })):=
 s_store (ρ:=fun x=>match x with| .const c=>c|_=>.pointer (some (ga g 0 0))) tok hR t (.tmp k) (.const (vi 0)) ho hr (a:=ga g 0 0) rfl (by
  have e2:a.eval (.tmp k)=p:=by simp [Act.eval,hk]
  rw [e2]; exact v) (.int _ _) (by rw [hsz]; rfl) rfl (by simp [hg])
theorem up_skip {o:Oper} {a:Act} {next:Act→World→Prop} {Q:Exit→Act→World→Prop} {β:Bm} {H H':GH} {w:World} (h:Skips Tryz.prog β H w (execOp a.eval o) H')
  (k:∀w' β',Rel β' H' w'→Ext β H w β' H' w'→next (a.put o.dst undef) w'):Oper.wpIn Fence.wide 0 Tryz.prog o a w next Q:=by
 obtain ⟨β',w',hr,hR,hE⟩:=h
 refine ⟨fun _ _=>trivial,?_⟩
 rw [show Fence.wide.round=none from rfl,Oper.semAt_none,hr]
 exact k w' β' hR hE
theorem attempt_ret:∃(c0:Code) (i1 i2 i3:Nat) (o1 o2 o3:Array Oper),Tryz.f52.body=some (.seq c0 (.seq (.region i1 o1 false) (.seq (.region i2 o2 false) (.seq (.region i3 o3 false) .ret))))∧
  (∀(Q:Exit→Act→World→Prop) (a:Act) (w:World) (β:Bm) (H:GH) (g2 g3:Nat) (p2 p3:Value),7=a.tmps.size→a.tmps[2]?=some p2→a.tmps[3]?=some p3→VR β (.pointer (some (ga g2 0 0))) p2→VR β (.pointer (some (ga g3 0 0))) p3→g2≠g3→
   H.get g2=some (.arr { cells:= [vi 0],ty:=3 })→H.get g3=some (.arr { cells:= [vi 0],ty:=33 })→Rel β H w→
   (∀w' β',Rel β' ((H.put g2 (.arr { cells:= [vi 0],ty:=3 })).put g3 (.arr { cells:= [vi 0],ty:=33 })) w'→Ext β H w β' ((H.put g2 (.arr { cells:= [vi 0],ty:=3 })).put g3 (.arr { cells:= [vi 0],ty:=33 })) w'→Q .normal a w')→
   (Code.region i3 o3 false).wpIn Fence.wide 0 Tryz.prog Q a w):=by
 refine ⟨_,_,_,_,_,_,_,rfl,?_⟩
 intro Q a w β H g2 g3 p2 p3 ht h2 h3 v2 v3 hne hg2 hg3 hR hq
 refine wpIn_region ?_
 simp only [wpOpsIn,List.size_toArray,List.length_cons,List.length_nil,Nat.zero_add,List.range_succ,List.range_zero,List.nil_append,List.cons_append]
 simp only [List.getElem?_toArray,List.getElem?_cons_zero,List.getElem?_cons_succ,Region.wanted,if_true,Oper.wpIn]
 refine up_skip (st_skip rfl (by simp; rfl) rfl h2 v2 hg2 hR) fun w1 β1 hR1 hE1=>?_
 refine up_skip (st_skip rfl (by simp; rfl) rfl h3 (v3.mono hE1.le) ((GH.get_put_ne _ _ (Ne.symm hne)).trans hg3) hR1) fun w2 β2 hR2 hE2=>?_
 exact hq w2 β2 hR2 (hE1.trans hR hE2)
end Go.Gm.Tryz
end
section
namespace Go.Gm.Tryz
open Go.Proofs
abbrev box3:GObj:=.arr { cells:= [vi 0],ty:=3 }
abbrev box31:GObj:=.arr { cells:= [vi 0],ty:=33 }
structure But (g2 g3:Nat) (H H':GH):Prop where
 next:H.next≤H'.next
 keep:∀g,g<H.next→g≠g2→g≠g3→H'.get g=H.get g
def TryK (H:GH) (R:GO→GH→Prop) (x:GO) (H1:GH):Prop:=
 H.next+2≤H1.next∧H1.get H.next=some box3∧H1.get (H.next+1)=some box31∧match x with
  | .ret _=>∀H2,But H.next (H.next+1) H1 H2→R (.ret (.tuple #[vi 0,vi 0])) H2
  | .pan v=>∃n,v=.iface 142 (.agg #[vi n])∧∀H2,But H.next (H.next+1) H1 H2→R (.ret (.tuple #[vi n,vi 7])) H2
def TryX (H:GH) (R:GO→GH→Prop) (x:GO) (H1:GH):Prop:=
 H.next+2≤H1.next∧H1.get H.next=some box3∧H1.get (H.next+1)=some box31∧match x with
  | .ret _=>R (.ret (.tuple #[vi 0,vi 0])) ((H1.put H.next box3).put (H.next+1) box31)
  | .pan v=>∃n,v=.iface 142 (.agg #[vi n])∧∀H2,But H.next (H.next+1) H1 H2→R (.ret (.tuple #[vi n,vi 7])) H2
theorem TryK.x {H:GH} {R:GO→GH→Prop} {x:GO} {H1:GH} (h:TryK H R x H1):TryX H R x H1:=by
 obtain ⟨a,b,c,d⟩:=h
 refine ⟨a,b,c,?_⟩
 cases x with
 |ret v=>exact d _ ⟨by simp,fun g hg k1 k2=>by rw [GH.get_put_ne _ _ k2,GH.get_put_ne _ _ k1]⟩
 |pan v=>exact d
theorem res83 {t:Array Value} {p2 p3:Value} (h2:t[2]?=some p2) (h3:t[3]?=some p3):results Tryz.f52 t=results Tryz.f52 #[undef,undef,p2,p3,undef,undef,undef]:=by
 have hr:Tryz.f52.results= #[.cell 2 3,.cell 3 33]:=rfl
 simp [results,h2,h3]
theorem res83_ok {t:Array Value} {p2 p3:Value} (h2:t[2]?=some p2) (h3:t[3]?=some p3) {β:Bm} {H:GH} {w:World} {g2 g3:Nat} {a b:Int} (hR:Rel β H w) (v2:VR β (.pointer (some (ga g2 0 0))) p2) (v3:VR β (.pointer (some (ga g3 0 0))) p3)
  (k2:H.get g2=some (.arr { cells:= [vi a],ty:=3 })) (k3:H.get g3=some (.arr { cells:= [vi b],ty:=33 })):∃v',(results Tryz.f52 t).run Tryz.prog w=.ok v' w∧VR β (.tuple #[vi a,vi b]) v':=by
 rw [res83 h2 h3]
 have u:=VR.undef β
 refine results_ok (P:=Tryz.prog) (vs:= [vi a,vi b]) tok hR (tm:= [undef,undef,.pointer (some (ga g2 0 0)),.pointer (some (ga g3 0 0)),undef,undef,undef]) (.cons u (.cons u (.cons v2 (.cons v3 (.cons u (.cons u (.cons u .nil))))))) ?_
 have hr:Tryz.f52.results.toList= [.cell 2 3,.cell 3 33]:=rfl
 rw [hr]
 simp [readResults,readResult,k2,k3]
theorem attempt_conX {f:FuncId} {first cap:Array Value} {H:GH} {R:GO→GH→Prop} (hf:GCall Tryz.prog f (first.toList++cap.toList) ((H.push box3).push box31) (TryX H R)):
  GCall Tryz.prog 52 [.func (.func f) first cap] H R:=by
 have hname:(Tryz.f52.name== "runtime.NumGoroutine")=false:=by kernel_rfl
 have hfn:Tryz.prog.funcs[52]?=some Tryz.f52:=Tryz.func52
 obtain ⟨c0,i1,i2,i3,o1,o2,o3,hb,hok,hA,hB,hC⟩:=attempt_parts
 obtain ⟨c0',i1',i2',i3',o1',o2',o3',hb',hD⟩:=attempt_ret
 rw [hb] at hb'
 cases hb'
 refine ⟨fun xs w=>?_,fun β w args' hR hV=>?_⟩
 ·have h1:Tryz.f52.name≠ "runtime.NumGoroutine":=by simpa using hname
  simp [callFunc,hfn,h1,hb]
 refine callsIn_of_wp_marks hfn hb trivial ?_
 refine wpIn_seq ?_
 obtain ⟨v',rfl,hv⟩:∃v',args'= [v']∧VR β (.func (.func f) first cap) v':=by
  cases hV with
  |cons h t=>cases t; exact ⟨_,rfl,h⟩
 have hn:Tryz.f52.ntmps=7:=rfl
 have h0:ActR β (fa 7 (rho0 [.func (.func f) first cap]) []) ({ tmps:= [v'].toArray++Array.replicate (Tryz.f52.ntmps - [v'].toArray.size) undef,defers:= [] }:Act):=by
  rw [hn,fa_rho0 1 6 _ rfl]
  refine ⟨?_,.nil⟩
  simp only [Array.toList_append,Array.toList_replicate]
  exact (VRs.cons hv .nil).append (VRs.replicate _ (VR.undef β))
 have hw:=wpC_sound (X:=⟨Tryz.prog,T,[],7,none⟩) tok mix c0 hok (hA H (rho0 [.func (.func f) first cap]) (fun x ρ m H'=>x=.normal∧m= []∧H'=(H.push box3).push box31∧ρ=upd (upd (rho0 [.func (.func f) first cap]) 2 (.pointer (some (ga H.next 0 0)))) 3 (.pointer (some (ga (H.next+1) 0 0)))) ⟨rfl,rfl,rfl,rfl⟩)
 refine wpIn_mono (hw β w _ none hR h0 .none) fun e r w1 hp=>?_
 obtain ⟨x,a',β1,H1,⟨ρ,m,rfl,rfl,rfl,rfl,rfl⟩,hR1,hE1,hA1,he⟩:=hp
 cases he
 have hsz:7=r.tmps.size:=by have:=hA1.tmps.length; simpa [fa] using this
 obtain ⟨f0,q0,vf⟩:=hA1.tmps.get? (i:=0) (v:=.func (.func f) first cap) (by simp [fa])
 obtain ⟨p2,q2,v2⟩:=hA1.tmps.get? (i:=2) (v:=.pointer (some (ga H.next 0 0))) (by simp [fa])
 obtain ⟨p3,q3,v3⟩:=hA1.tmps.get? (i:=3) (v:=.pointer (some (ga (H.next+1) 0 0))) (by simp [fa])
 simp only [Array.getElem?_toList] at q0 q2 q3
 have hd:r.defers= []:=by
  have:=hA1.marks
  generalize r.defers=ds at this
  cases this; rfl
 obtain ⟨rt,rd⟩:=r
 simp only at hd hsz q0 q2 q3
 subst hd
 show Code.wpIn _ _ _ _ _ _ _
 refine wpIn_seq ?_
 refine hB _ rt w1 p2 p3 hsz q2 q3 fun a1 k1 k2 k3 k4 k5=>?_
 show Code.wpIn _ _ _ _ _ _ _
 refine wpIn_seq ?_
 obtain ⟨first',cap',rfl,hargs⟩:∃first' cap',f0=.func (.func f) first' cap'∧VRs β1 (first.toList++cap.toList) (first'.toList++cap'.toList):=by
  cases vf with
  |func hfn s1 x1 s2 x2=>
   cases hfn
   refine ⟨_,_,rfl,VRs.append (.of_getD (by simpa using s1) fun i hi=>?_) (.of_getD (by simpa using s2) fun i hi=>?_)⟩
   ·simpa using x1 i (by simpa using hi)
   ·simpa using x2 i (by simpa using hi)
 have hcall:=hf.2 β1 w1 _ hR1 hargs
 have harr:(first'.toList++cap'.toList).toArray=first'++cap':=by simp
 rw [harr] at hcall
 refine hC _ a1 w1 f first' cap' k2.symm (k3.trans q0) hf.1 (hcall.mono ?_)
 rintro e w2 ⟨x,β2,H2,hK,hR2,hE2,hEnd⟩
 obtain ⟨hK1,hK2,hK3,hK4⟩:=hK
 have v2':=v2.mono hE2.le
 have v3':=v3.mono hE2.le
 have hent:Ent Tryz.prog 91:=fun xs w=>by
  have h1:Tryz.f91.name≠ "runtime.NumGoroutine":=by
   have:(Tryz.f91.name== "runtime.NumGoroutine")=false:=by kernel_rfl
   simpa using this
  obtain ⟨_,_,_,hb6,_⟩:=rest136
  have hb6':Tryz.f91.body=_:=hb6
  simp [callFunc,show Tryz.prog.funcs[91]?=some Tryz.f91 from Tryz.func91,h1,hb6']
 have hE02:=hE1.trans hR hE2
 cases hEnd with
 |ret hv2=>
  intro a3 d1 d2 d3 d4
  show Code.wpIn _ _ _ _ _ _ _
  refine wpIn_seq ?_
  refine hD _ a3 w2 β2 H2 H.next (H.next+1) p2 p3 d2.symm (d3.trans k4) (d4.trans k5) v2' v3' (by omega) hK2 hK3 hR2 fun w3 β3 hR3 hE3=>?_
  show Code.wpIn _ _ _ _ _ _ _
  refine wpIn_ret ?_
  show LeavesInM _ _ _ _ _ _ a3.defers _ _
  rw [d1,k1]
  refine ⟨by simp,.inr ⟨fun _=>by simp_all [Fence.wide],_,_,91,#[p2,p3],rfl,?_,fun _ _=>trivial,idle136.mono ?_⟩⟩
  ·have:=hent #[p2,p3] w3
   first|(simp [invoke]; done)|simpa [invoke] using this
  ·rintro e u' w' ⟨rfl,rfl,rfl⟩
   obtain ⟨v3r,hrun,hvr⟩:=res83_ok (t:=a3.tmps) (d3.trans k4) (d4.trans k5) hR3 (v2'.mono hE3.le) (v3'.mono hE3.le) (a:=0) (b:=0) (g2:=H.next) (g3:=H.next+1) (by rw [GH.get_put_ne _ _ (by omega)]; simp) (by simp)
   exact ⟨v3r,hrun,_,β3,_,hK4,hR3,hE02.trans hR hE3,.ret hvr⟩
 |pan hv2=>
  intro a3 d1 d2 d3 d4
  show LeavesInM _ _ _ _ _ _ a3.defers _ _
  rw [d1,k1]
  obtain ⟨n,rfl,hK5⟩:=hK4
  refine ⟨by simp,.inr ⟨fun _=>by simp_all [Fence.wide],_,_,91,#[p2,p3],rfl,?_,fun _ _=>trivial,(catch136 hR2 v2' v3' hv2 (by omega) (by omega) (by omega) hK2 hK3).mono ?_⟩⟩
  ·have:=hent #[p2,p3] w2
   first|(simp [invoke]; done)|simpa [invoke] using this
  ·rintro e u' w' ⟨rfl,rfl,β3,H3,hR3,hE3,m1,m2,m3,m4⟩
   obtain ⟨v3r,hrun,hvr⟩:=res83_ok (t:=a3.tmps) (d3.trans k4) (d4.trans k5) hR3 (v2'.mono hE3.le) (v3'.mono hE3.le) (a:=n) (b:=7) (g2:=H.next) (g3:=H.next+1) m3 m4
   exact ⟨v3r,hrun,_,β3,_,hK5 _ ⟨m1,m2⟩,hR3,hE02.trans hR hE3,.ret hvr⟩
theorem attempt_con {f:FuncId} {first cap:Array Value} {H:GH} {R:GO→GH→Prop} (hf:GCall Tryz.prog f (first.toList++cap.toList) ((H.push box3).push box31) (TryK H R)):
  GCall Tryz.prog 52 [.func (.func f) first cap] H R:=attempt_conX (hf.mono fun _ _ h=>h.x)
end Go.Gm.Tryz
end
section
namespace Go.Gm.Tryz
open Go.Proofs
def rightS (b:Book) (day:Int):Nat⊕Stand:=match upS b 36500 with| .inl n=>.inl n| .inr _=>upS b day
structure LocBut (l:BLoc) (g:Nat):Prop where
 t:∀a,l.t.rows.a=some a→a.block≠g
 o:∀a,l.owners.a=some a→a.block≠g
 e:∀a,l.events.a=some a→a.block≠g
theorem StandIn.put_low {H:GH} {N:Nat} {l:BLoc} {b:Book} {sg kn:Nat} {s:Stand} {O:Nat→Prop} (h:StandIn H N l b sg kn s O) {g:Nat} (hg:g<N) (o:GObj) (hl:LocBut l g):StandIn (H.put g o) N l b sg kn s O:=by
 obtain ⟨vl,vo,vg,va,vw,vf,h,hO⟩:=h
 have hk:∀k,N≤k→(H.put g o).get k=H.get k:=fun k hk=>GH.get_put_ne _ _ (by omega)
 have ho:∀ {α:Type} {v:Value} {ty sz:Nat} {e:α→List Value} {x:List α},OwnL H N v ty sz e x→OwnL (H.put g o) N v ty sz e x:=fun w=>w.frame (Nat.le_refl _) fun k hk'=>hk k (w.blk_lt hk').1
 refine ⟨vl,vo,vg,va,vw,vf,⟨(hk sg h.sgl.1).trans h.g,h.sgl,⟨h.book.t.put o hl.t,h.book.owners.put o hl.o,h.book.events.put o hl.e⟩,h.bt,h.bo,h.be,?_,h.kl,ho h.lives,ho h.owners,ho h.grants,ho h.last,ho h.waits,ho h.fell,h.oa,h.ow,h.aw⟩,hO⟩
 obtain ⟨es,c,h1,h2⟩:=h.kno
 exact ⟨es,c,(hk kn h.kl.1).trans h1,h2⟩
theorem right1_con {H:GH} {l:BLoc} {b:Book} (hb:BookIn H l b) (hB:BookOk b) (day:Int) {g0 g1 g2:Nat} (hlb:LocBut l g2) (l0:g0<H.next) (l1:g1<H.next) (l2:g2<H.next)
  (k0:H.get g0=some (.arr { cells:=bookC l b,ty:=28 })) (k1:H.get g1=some (.arr { cells:= [vi day],ty:=3 })) (k2:H.get g2=some (.arr { cells:= [.pointer none],ty:=72 })):
  GCall Tryz.prog 53 [.pointer (some (ga g0 0 0)),.pointer (some (ga g1 0 0)),.pointer (some (ga g2 0 0))] H fun x H'=>H.next≤H'.next∧(∀g,g<H.next→g≠g2→H'.get g=H.get g)∧match rightS b day with
   | .inr s=>∃N sg kn O,H.next≤N∧x=.ret (.tuple #[])∧H'.get g2=some (.arr { cells:= [.pointer (some (ga sg 0 0))],ty:=72 })∧StandIn H' N l b sg kn s O∧Wf b s
   | .inl n=>x=.pan (.iface 142 (.agg #[vi n]))∧H'.get g2=H.get g2:=by
 rcases l with ⟨⟨⟨ra,rf⟩⟩,⟨oa,of'⟩,⟨va',vf'⟩⟩
 simp only [bookC] at k0
 refine gcall_wp tok mix fok53 (F:=g53) (c:=_) rfl (n:=8) rfl (rs:= []) rfl ?_
 simp (disch:=omega) [k0,k2]
 refine (up_con hb hB 36500).mono ?_
 rintro x H1 ⟨n1,s1,hu⟩
 unfold rightS
 cases hup:upS b 36500 with
 |inl n=>
  rw [hup] at hu
  subst hu
  simp
  exact ⟨n1,fun g hg _=>s1 g hg,(s1 _ l2).trans k2⟩
 |inr s0=>
  rw [hup] at hu
  obtain ⟨_,sg0,_,_,_,rfl,_,_⟩:=hu
  simp (disch:=omega) [s1 g0 l0,s1 g1 l1,k0,k1]
  have hs1:Sub H H1:=⟨n1,s1⟩
  have hbi:BookIn H1 ⟨⟨⟨ra,rf⟩⟩,⟨oa,of'⟩,⟨va',vf'⟩⟩ b:=⟨hb.t.mono hs1,hb.owners.mono hs1,hb.events.mono hs1⟩
  refine (up_con hbi hB day).mono ?_
  rintro x H2 ⟨n2,s2,hu⟩
  cases hup2:upS b day with
  |inl n=>
   rw [hup2] at hu
   subst hu
   simp
   exact ⟨by omega,fun g hg _=>(s2 g (by omega)).trans (s1 g hg),(s2 _ (by omega)).trans ((s1 _ l2).trans k2)⟩
  |inr s0=>
   rw [hup2] at hu
   obtain ⟨N,sg,kn,O,hN,rfl,hS,hW⟩:=hu
   have hg2:H2.get g2=_:=(s2 _ (by omega)).trans ((s1 _ l2).trans k2)
   simp (disch:=omega) [hg2]
   refine ⟨by omega,fun g hg hne=>?_,N,by omega,sg,rfl,⟨kn,O,hS.put_low (by omega) _ hlb⟩,hW⟩
   rw [if_neg hne,s2 g (by omega),s1 g hg]
end Go.Gm.Tryz
end
section
namespace Go.Gm.Tryz
open Go.Proofs
theorem StandIn.but {H H':GH} {N:Nat} {l:BLoc} {b:Book} {sg kn:Nat} {s:Stand} {O:Nat→Prop} (h:StandIn H N l b sg kn s O) {g2 g3:Nat} (l2:g2<N) (l3:g3<N) (k:But g2 g3 H H') (hl2:LocBut l g2) (hl3:LocBut l g3):StandIn H' N l b sg kn s O:=by
 obtain ⟨vl,vo,vg,va,vw,vf,h,hO⟩:=h
 have hk:∀k,N≤k→k<H.next→H'.get k=H.get k:=fun j hj hn=>k.keep j hn (by omega) (by omega)
 have ho:∀ {α:Type} {v:Value} {ty sz:Nat} {e:α→List Value} {x:List α},OwnL H N v ty sz e x→OwnL H' N v ty sz e x:=fun w=>w.frame k.next fun j hj=>hk j (w.blk_lt hj).1 (w.blk_lt hj).2
 have he:∀ {α:Type} {a:Option Addr} {sz:Nat} {e:α→List Value} {x:List α},Elems H a sz e x→(∀c,a=some c→c.block≠g2)→(∀c,a=some c→c.block≠g3)→Elems H' a sz e x:=fun w x2 x3=>by
  refine ⟨w.len,fun c hc=>?_,w.nil⟩
  obtain ⟨y1,y2⟩:=w.ok c hc
  refine ⟨Nat.lt_of_lt_of_le y1 k.next,?_⟩
  rw [←y2]
  simp only [GH.read]
  rw [k.keep _ y1 (x2 c hc) (x3 c hc)]
 refine ⟨vl,vo,vg,va,vw,vf,⟨(hk sg h.sgl.1 h.sgl.2).trans h.g,⟨h.sgl.1,Nat.lt_of_lt_of_le h.sgl.2 k.next⟩,⟨he h.book.t hl2.t hl3.t,he h.book.owners hl2.o hl3.o,he h.book.events hl2.e hl3.e⟩,h.bt,h.bo,h.be,?_,⟨h.kl.1,Nat.lt_of_lt_of_le h.kl.2 k.next⟩,ho h.lives,ho h.owners,ho h.grants,ho h.last,ho h.waits,ho h.fell,h.oa,h.ow,h.aw⟩,hO⟩
 obtain ⟨es,c,h1,h2⟩:=h.kno
 exact ⟨es,c,(hk kn h.kl.1 h.kl.2).trans h1,h2⟩
theorem bookBut {H:GH} {l:BLoc} {b:Book} (h:BookIn H l b) {g:Nat} (hg:H.next≤g):LocBut l g:=
 ⟨fun a ha hc=>by have:=(h.t.ok a ha).1; omega,fun a ha hc=>by have:=(h.owners.ok a ha).1; omega,fun a ha hc=>by have:=(h.events.ok a ha).1; omega⟩
def rightOk (b:Book) (day:Int) (ok:Bool):Bool:=isBookB b&&(isDayI day&&ok)
theorem right_con {H:GH} {l:BLoc} {b:Book} (hb:BookIn H l b) (day:Int) (ok:Bool):
  GCall Tryz.prog 25 [bookV l b,vi day,.bool ok] H fun x H'=>H.next≤H'.next∧(∀g,g<H.next→H'.get g=H.get g)∧
   if rightOk b day ok then match rightS b day with
    | .inr s=>∃N sg kn O,H.next≤N∧x=.ret (.tuple #[.pointer (some (ga sg 0 0)),vi 0])∧StandIn H' N l b sg kn s O∧Wf b s
    | .inl _n=>x=.ret (.tuple #[.pointer none,vi 7])
   else x=.ret (.tuple #[.pointer none,vi 2]):=by
 rcases l with ⟨⟨⟨ra,rf⟩⟩,⟨oa,of'⟩,⟨va',vf'⟩⟩
 refine gcall_wp tok mix fok25 (F:=g25) (c:=_) rfl (n:=30) rfl (rs:= [.tmp 6,.tmp 7]) rfl ?_
 simp
 generalize hH2:GH.push (GH.push _ _) _=H2
 have hs2:Sub H H2:=by subst hH2; exact (Sub.push (.refl H) _).push _
 have k0:H2.get H.next=some (.arr { cells:= [.slice ra b.tbl.rows.length rf,vi b.tbl.draw,vi b.supply,vi b.term,vi b.persons,.slice oa b.owners.length of',.slice va' b.events.length vf'],ty:=28 }):=by
  subst hH2; rw [GH.get_push_lt _ _ (by simp)]; simp
 have k1:H2.get (H.next+1)=some (.arr { cells:= [vi day],ty:=3 }):=by subst hH2; simp
 have hn2:H2.next=H.next+2:=by subst hH2; simp
 clear hH2
 have hbi:BookIn H2 ⟨⟨⟨ra,rf⟩⟩,⟨oa,of'⟩,⟨va',vf'⟩⟩ b:=⟨hb.t.mono hs2,hb.owners.mono hs2,hb.events.mono hs2⟩
 refine (isBook_con ⟨⟨⟨ra,rf⟩⟩,⟨oa,of'⟩,⟨va',vf'⟩⟩ b H2 hbi).go ?_
 simp
 unfold rightOk
 cases hB:isBookB b with
 |false=>simp; exact ⟨hs2.1,hs2.2⟩
 |true=>
  simp [k1]
  refine (isDay_con _ _).go ?_
  simp
  cases hD:isDayI day with
  |false=>simp; exact ⟨hs2.1,hs2.2⟩
  |true=>
   cases ok with
   |false=>simp; exact ⟨hs2.1,hs2.2⟩
   |true=>
    simp
    have hBk:=book_ok hB
    let l:BLoc:=⟨⟨⟨ra,rf⟩⟩,⟨oa,of'⟩,⟨va',vf'⟩⟩
    generalize hH3:H2.push _=H3
    have hs3:Sub H2 H3:=by subst hH3; exact Sub.push (.refl H2) _
    have k3:H3.get H2.next=some (.arr { cells:= [.pointer none],ty:=72 }):=by subst hH3; simp
    have hn3:H3.next=H2.next+1:=by subst hH3; simp
    clear hH3
    have hat:=attempt_con (f:=53) (first:= #[]) (cap:= #[.pointer (some (ga H.next 0 0)),.pointer (some (ga (H.next+1) 0 0)),.pointer (some (ga H2.next 0 0))]) (H:=H3)
     (R:=fun x H'=>H3.next≤H'.next∧(∀g,g<H2.next→H'.get g=H3.get g)∧match rightS b day with
      | .inr s=>∃N sg kn O,H2.next≤N∧x=.ret (.tuple #[vi 0,vi 0])∧H'.get H2.next=some (.arr { cells:= [.pointer (some (ga sg 0 0))],ty:=72 })∧StandIn H' N l b sg kn s O∧Wf b s
      | .inl n=>x=.ret (.tuple #[vi n,vi 7])∧H'.get H2.next=some (.arr { cells:= [.pointer none],ty:=72 })) ?_
    ·refine hat.mono ?_
     rintro x H4 ⟨n4,s4,hu⟩
     have hkeep:∀g,g<H.next→H4.get g=H.get g:=fun g hg=>by rw [s4 g (by omega),hs3.2 g (by omega),hs2.2 g hg]
     cases hr:rightS b day with
     |inl n=>
      rw [hr] at hu
      obtain ⟨rfl,hg⟩:=hu
      simp [hg]
      exact ⟨by omega,hkeep⟩
     |inr s0=>
      rw [hr] at hu
      obtain ⟨N,sg,kn,O,hN,rfl,hg,hS,hW⟩:=hu
      simp [hg]
      exact ⟨by omega,hkeep,N,by omega,sg,rfl,⟨kn,O,hS⟩,hW⟩
    ·generalize hH5:(H3.push box3).push box31=H5
     have hs5:Sub H3 H5:=by subst hH5; exact (Sub.push (.refl H3) _).push _
     have b3:H5.get H3.next=some box3:=by subst hH5; rw [GH.get_push_lt _ _ (by simp)]; simp
     have b31:H5.get (H3.next+1)=some box31:=by subst hH5; simp
     have hn5:H5.next=H3.next+2:=by subst hH5; simp
     have hs:=hs2.trans (hs3.trans hs5)
     have hb5:BookIn H5 l b:=⟨hb.t.mono hs,hb.owners.mono hs,hb.events.mono hs⟩
     refine (right1_con hb5 hBk day (g0:=H.next) (g1:=H.next+1) (g2:=H2.next) (bookBut hb (by omega)) (by omega) (by omega) (by omega) ((hs5.2 _ (by omega)).trans ((hs3.2 _ (by omega)).trans k0)) ((hs5.2 _ (by omega)).trans ((hs3.2 _ (by omega)).trans k1)) ((hs5.2 _ (by omega)).trans k3)).mono ?_
     rintro x H6 ⟨n6,s6,hu⟩
     refine ⟨by omega,(s6 _ (by omega) (by omega)).trans b3,(s6 _ (by omega) (by omega)).trans b31,?_⟩
     have hkeep:∀ {H7:GH},But H3.next (H3.next+1) H6 H7→H3.next≤H7.next∧∀g,g<H2.next→H7.get g=H3.get g:=fun k=>⟨by have:=k.next; omega,fun g hg=>by rw [k.keep g (by omega) (by omega) (by omega),s6 g (by omega) (by omega),hs5.2 g (by omega)]⟩
     cases hr:rightS b day with
     |inl n=>
      rw [hr] at hu
      obtain ⟨rfl,hu⟩:=hu
      refine ⟨n,rfl,fun H7 k=>?_⟩
      exact ⟨(hkeep k).1,(hkeep k).2,rfl,by rw [k.keep _ (by omega) (by omega) (by omega),hu,hs5.2 _ (by omega)]; exact k3⟩
     |inr s0=>
      rw [hr] at hu
      obtain ⟨N,sg,kn,O,hN,rfl,hg,hS,hW⟩:=hu
      intro H7 k
      exact ⟨(hkeep k).1,(hkeep k).2,N,sg,kn,O,by omega,rfl,by rw [k.keep _ (by omega) (by omega) (by omega)]; exact hg,hS.but (by omega) (by omega) k (bookBut hb (by omega)) (bookBut hb (by omega)),hW⟩
end Go.Gm.Tryz
end
section
namespace Go.Gm.Tryz
open Go.Proofs
@[simp] def attV:Option Int→Value
 |none=>.tuple #[vi 0,vi 0]
 |some n=>.tuple #[vi n,vi 7]
def wrongO (b:Book):Option Int:=match upS b 36500 with| .inl n=>some (n:Int)| .inr _=>none
def wrongR (b:Book):Int×Int:=if isBookB b then match wrongO b with|some n=>(n,0)|none=>(0,5) else (0,2)
end Go.Gm.Tryz
end
section
namespace Go.Gm
def ListR {α:Type} (H:GH) (v:Value) (sz:Nat) (enc:α→List Value) (l:List α):Prop:=∃a fl,v=.slice a l.length fl∧Elems H a sz enc l
theorem ListR.nil {α:Type} {H:GH} {sz:Nat} {enc:α→List Value} (hs:∀x,(enc x).length=sz):ListR H (.slice none 0 0) sz enc ([]:List α):=⟨none,0,rfl,⟨hs,(fun b hb=>by cases hb),fun _=>rfl⟩⟩
theorem OwnL.listR {α:Type} {H:GH} {N:Nat} {v:Value} {ty:TypeId} {sz:Nat} {enc:α→List Value} {l:List α} (h:OwnL H N v ty sz enc l) (hs:∀x,(enc x).length=sz):ListR H v sz enc l:=h.elems hs
end Go.Gm
namespace Go.Gm.Tryz
open Go.Proofs
inductive Out where
 |ok (s:Stand)
 |err (e:Int)
def outS (b:Book) (day:Int) (ok:Bool):Out:=if rightOk b day ok then (match rightS b day with| .inr s=>.ok s| .inl _=>.err 7) else .err 2
theorem right_out {H:GH} {l:BLoc} {b:Book} (hb:BookIn H l b) (day:Int) (ok:Bool):
  GCall Tryz.prog 25 [bookV l b,vi day,.bool ok] H fun x H'=>Sub H H'∧((∃s N sg kn O,outS b day ok=.ok s∧H.next≤N∧x=.ret (.tuple #[.pointer (some (ga sg 0 0)),vi 0])∧StandIn H' N l b sg kn s O∧Wf b s)∨
   ∃e,outS b day ok=.err e∧e≠0∧x=.ret (.tuple #[.pointer none,vi e])):=by
 refine (right_con hb day ok).mono ?_
 rintro x H1 ⟨n1,s1,hx⟩
 refine ⟨⟨n1,s1⟩,?_⟩
 unfold outS
 cases hr:rightOk b day ok with
 |false=>rw [hr] at hx; right; exact ⟨2,rfl,by decide,hx⟩
 |true=>
  rw [hr] at hx
  simp only [if_true] at hx ⊢
  cases hR:rightS b day with
  |inl n=>rw [hR] at hx; right; exact ⟨7,rfl,by decide,hx⟩
  |inr s=>rw [hR] at hx; obtain ⟨N,sg,kn,O,h1,h2,h3,h4⟩:=hx; left; exact ⟨s,N,sg,kn,O,rfl,h1,h2,h3,h4⟩
def statesR (o:Out):List GSt×Int:=match o with| .ok s=>(s.grants,0)| .err e=>([],e)
def estatesR (o:Out):List Int×Int:=match o with| .ok s=>(s.owners,0)| .err e=>([],e)
def waitingR (o:Out):List Int×Int:=match o with| .ok s=>(s.waits,0)| .err e=>([],e)
def waterR (b:Book) (o:Out):Int×Int×Int:=match o with| .ok s=>(IntKind.i64.wrap (b.supply - freeI b s),freeI b s,0)| .err e=>(0,0,e)
section
variable {H:GH} {l:BLoc} {b:Book}
theorem States_con (hb:BookIn H l b) (day:Int):
  GCall Tryz.prog 9 [bookV l b,vi day] H fun x H'=>Sub H H'∧∃v,x=.ret (.tuple #[v,vi (statesR (outS b day true)).2])∧ListR H' v 5 encSt (statesR (outS b day true)).1:=by
 rcases l with ⟨⟨⟨ra,rf⟩⟩,⟨oa,of'⟩,⟨va',vf'⟩⟩
 refine gcall_wp tok mix fok9 (F:=g9) (c:=_) rfl (n:=21) rfl (rs:= [.tmp 4,.tmp 5]) rfl ?_
 simp
 generalize hH2:GH.push _ _=H2
 have hs2:Sub H H2:=by subst hH2; exact Sub.push (.refl H) _
 clear hH2
 refine (right_out (hb.mono hs2) day true).mono ?_
 rintro x H3 ⟨h3,⟨s,N,sg,kn,O,ho,hN,rfl,⟨vl,vo,vg,va,vw,vf,hS,_⟩,hW⟩|⟨e,ho,he,rfl⟩⟩
 ·have hg:=hS.g
  have hl:=hS.sgl.2
  simp only [bookC] at hg
  simp (disch:=omega) [ho,hg,statesR]
  exact ⟨hs2.trans h3,hS.grants.listR (fun _=>rfl)⟩
 ·simp [ho,he,statesR]
  exact ⟨hs2.trans h3,ListR.nil (fun _=>rfl)⟩
theorem Waiting_con (hb:BookIn H l b) (day:Int):
  GCall Tryz.prog 16 [bookV l b,vi day] H fun x H'=>Sub H H'∧∃v,x=.ret (.tuple #[v,vi (waitingR (outS b day true)).2])∧ListR H' v 1 encI (waitingR (outS b day true)).1:=by
 rcases l with ⟨⟨⟨ra,rf⟩⟩,⟨oa,of'⟩,⟨va',vf'⟩⟩
 refine gcall_wp tok mix fok16 (F:=g16) (c:=_) rfl (n:=22) rfl (rs:= [.tmp 4,.tmp 5]) rfl ?_
 simp
 generalize hH2:GH.push _ _=H2
 have hs2:Sub H H2:=by subst hH2; exact Sub.push (.refl H) _
 clear hH2
 refine (right_out (hb.mono hs2) day true).mono ?_
 rintro x H3 ⟨h3,⟨s,N,sg,kn,O,ho,hN,rfl,⟨vl,vo,vg,va,vw,vf,hS,_⟩,hW⟩|⟨e,ho,he,rfl⟩⟩
 ·have hg:=hS.g
  have hl:=hS.sgl.2
  simp only [bookC] at hg
  obtain ⟨ag,fg,rfl,hE⟩:=hS.waits.elems (fun _=>rfl)
  simp (disch:=omega) [hg]
  refine (cloneI_con s.waits (by have:=hW.len; omega) ag fg H3 hE).mono ?_
  rintro x H4 ⟨v,rfl,h4,hv⟩
  simp [ho,waitingR]
  exact ⟨hs2.trans (h3.trans h4),hv.listR (fun _=>rfl)⟩
 ·simp [ho,he,waitingR]
  exact ⟨hs2.trans h3,ListR.nil (fun _=>rfl)⟩
theorem Water_con (hb:BookIn H l b) (day:Int):
  C 10 [bookV l b,vi day] H (.tuple #[vi (waterR b (outS b day true)).1,vi (waterR b (outS b day true)).2.1,vi (waterR b (outS b day true)).2.2]) H:=by
 rcases l with ⟨⟨⟨ra,rf⟩⟩,⟨oa,of'⟩,⟨va',vf'⟩⟩
 refine con_wp tok mix fok10 (F:=g10) (c:=_) rfl (n:=26) rfl (rs:= [.tmp 4,.tmp 5,.tmp 6]) rfl (anch_tuple (by simp; exact ⟨anch_closed rfl,anch_closed rfl,anch_closed rfl⟩)) ?_
 simp
 generalize hH2:GH.push _ _=H2
 have hs2:Sub H H2:=by subst hH2; exact Sub.push (.refl H) _
 have k0:H2.get H.next=some (.arr { cells:= [.slice ra b.tbl.rows.length rf,vi b.tbl.draw,vi b.supply,vi b.term,vi b.persons,.slice oa b.owners.length of',.slice va' b.events.length vf'],ty:=28 }):=by
  subst hH2; simp
 have hn2:H2.next=H.next+1:=by subst hH2; simp
 clear hH2
 refine (right_out (hb.mono hs2) day true).mono ?_
 rintro x H3 ⟨h3,⟨s,N,sg,kn,O,ho,hN,rfl,⟨vl,vo,vg,va,vw,vf,hS,_⟩,hW⟩|⟨e,ho,he,rfl⟩⟩
 ·simp
  refine (free_con hS (by have:=hW.len; omega)).mono ?_
  rintro x H4 ⟨rfl,h4⟩
  have hk:kn<H3.next∧N≤kn:=⟨hS.kl.2,hS.kl.1⟩
  have k4:H4.get H.next=some (.arr { cells:= [.slice ra b.tbl.rows.length rf,vi b.tbl.draw,vi b.supply,vi b.term,vi b.persons,.slice oa b.owners.length of',.slice va' b.events.length vf'],ty:=28 }):=by
   rw [h4.same _ (by have:=h3.1; omega) (by omega),h3.2 _ (by omega)]; exact k0
  have hn4:=h4.next
  have hn3:=h3.1
  simp (disch:=omega) [k4,ho,waterR]
  exact ⟨by omega,fun g hg=>by rw [h4.same _ (by omega) (by omega),h3.2 _ (by omega),hs2.2 _ hg]⟩
 ·simp [ho,he,waterR]
  exact hs2.trans h3
end
end Go.Gm.Tryz
end
section
namespace Go.Gm.Tryz
open Go.Proofs
def fellL (s:Stand) (from_ to:Int):List Int:=(s.fell.filter fun p=>inI p.2 from_ to).map Prod.fst
def fellR (o:Out) (from_ to:Int):List Int×Int:=match o with| .ok s=>(fellL s from_ to,0)| .err e=>([],e)
section
variable {H:GH} {l:BLoc} {b:Book}
end
end Go.Gm.Tryz
end
section
namespace Go.Gm.Tryz
open Go.Proofs
def otherI (s:Int):Int:=3 - s
def turnStep (t:Tbl) (sys:Int) (o:Option (Int×Int)) (s:List Int):Option (Int×Int):=
 match o with
 |none=>some (countsI t (otherI sys) s,countsI t (otherI sys) s)
 |some (a,b)=>some (if countsI t (otherI sys) s<a then countsI t (otherI sys) s else a,if countsI t (otherI sys) s>b then countsI t (otherI sys) s else b)
def turnO (t:Tbl) (sys u:Int):Option (Int×Int):=(alikeSets t sys u).foldl (turnStep t sys) none
def turnAt (t:Tbl) (sys u:Int) (k:Nat):Option (Int×Int):=((alikeSets t sys u).take k).foldl (turnStep t sys) none
def turnR (t:Tbl) (sys u:Int):Int×Int×Int:=if setArgs t sys u then (match turnO t sys u with|some (a,b)=>(a,b,0)|none=>(0,0,5)) else (0,0,2)
end Go.Gm.Tryz
end
section
namespace Go.Gm.Tryz
open Go.Proofs
@[simp,reducible] def countedV (l:TLoc) (t:Tbl) (g:GSt):Value:=.agg #[.slice l.rows.a t.rows.length l.rows.fl,vi t.draw,vi g.is,vi g.person,vi g.estate,vi g.system,vi g.units]
def holdN (b:Book) (sys:Int) (g:GSt):Int×Int:=if g.system=sys then (g.units,g.units) else ((turnR b.tbl g.system g.units).1,(turnR b.tbl g.system g.units).2.1)
def holdStep (b:Book) (person sys:Int) (acc:Int×Int) (g:GSt):Int×Int:=
 if g.is=1∧g.person=person then (IntKind.i64.wrap (acc.1+(holdN b sys g).1),IntKind.i64.wrap (acc.2+(holdN b sys g).2)) else acc
def holdS (b:Book) (s:Stand) (person sys:Int):Int×Int:=s.grants.foldl (holdStep b person sys) (0,0)
def holdsR (b:Book) (o:Out) (person sys:Int):Int×Int×Int:=match o with| .ok s=>((holdS b s person sys).1,(holdS b s person sys).2,0)| .err e=>(0,0,e)
section
variable {H:GH} {l:BLoc} {b:Book}
end
end Go.Gm.Tryz
end
section
namespace Go.Gm
def oneH (fx:List (Nat×Obj)) (cs:List Value) (ty:TypeId):GH:=(GH.emp fx).push (.arr { cells:=cs,ty:=ty,ro:=true })
def oneB (L:Loc):Bm:=fun g v=>if g=0∧v=0 then some L else none
section
variable {β β':Bm} {H Hc:GH} {cs:List Value} {ty:TypeId} {w w':World} {L:Loc}
end
structure Imp (n0:Nat) (β0:Bm) (H0:GH) (β:Bm) (H:GH) (w':World):Prop where
 rel:Rel β H w'
 le:β0.le β
 sub:Sub H0 H
 low:∀g v L o,β g v=some L→H.get g=some o→o.rw=true→L.blk<n0
 new:∀g v L,β g v=some L→β0 g v=some L∨n0≤L.blk
 un:∀g,g<H0.next→(∀v,β0 g v=none)→∀v,β g v=none
 fx:H.fx=H0.fx
def sliceIs (H:GH) (v:Value) (fl:Nat) (exp:List Value):Bool:=
 match v with
 | .slice (some ⟨g,off,some ver⟩) n fl'=>Nat.beq fl' fl&&(!Nat.beq g 0&&(Nat.beq (n*fl) exp.length&&(match H.get g with
  |some (.arr B)=>Nat.ble (off+n*fl) (B.rd ver)&&veq.veqs (veq 2) ((B.cells.drop off).take (n*fl)) exp
  |_=>false)))
 |_=>false
end Go.Gm
end
section
namespace Go.Gm.Tryz
open Go.Proofs
theorem list_eq_of {α:Type} {a b:List α} (hl:a.length=b.length) (h:∀i (h1:i<a.length) (h2:i<b.length),a[i]=b[i]):a=b:=List.ext_getElem hl h
theorem same1_con (a b:List Int) (hl:a.length≤1000000) (a1 b1:Option Addr) (f1 f2:Nat) (H:GH) (ha:Elems H a1 1 encI a) (hb:Elems H b1 1 encI b):C 17 [.slice a1 a.length f1,.slice b1 b.length f2] H (.bool (decide (a=b))) H:=by
 refine con_wp tok mix fok17 (F:=g17) (c:=_) rfl (n:=26) rfl (rs:= [.tmp 4]) rfl (anch_closed rfl) ?_
 by_cases hlen:a.length=b.length
 ·have hli:(a.length:Int)=b.length:=by omega
  simp [hlen]
  refine wp_up tok mix (by kernel_rfl) b.length (fun i ρ m H'=>ρ 0=.slice a1 b.length f1∧ρ 1=.slice b1 b.length f2∧ρ 5=vi i∧m= []∧H'=H∧∀j (h1:j<a.length) (h2:j<b.length),j<i→a[j]=b[j]) (i0:=0) (by omega) (by simp) ?_
  rintro i ρ m H' hi ⟨e0,e1,e5,rfl,rfl,hj⟩
  simp [e0,e5]
  refine wpB_dec (fun hlt=>?_) (fun hge=>?_)
  ·obtain ⟨c1,rfl,hc1,hr1⟩:=ha.at i (by omega)
   obtain ⟨c2,rfl,hc2,hr2⟩:=hb.at i hlt
   by_cases hc:a[i]=b[i]
   ·simp (disch:=omega) [e0,e1,e5,hlt,hr1,hr2,hc,wrap64]
    intro j h1 h2 hji
    by_cases hq:j=i
    ·subst hq; exact hc
    ·exact hj j h1 h2 (by omega)
   ·have hne:¬a=b:=fun h=>hc (by simp [h])
    simp (disch:=omega) [e0,e1,e5,hlt,hr1,hr2,hc,hne]
  ·have he:a=b:=list_eq_of hlen fun j h1 h2=>hj j h1 h2 (by omega)
   simp [he]
 ·have hli:¬(a.length:Int)=b.length:=by omega
  have hne:¬a=b:=fun h=>hlen (by rw [h])
  simp [hli,hne]
end Go.Gm.Tryz
end
section
namespace Go.Gm.Tryz
open Go.Proofs
theorem rin_con (x lo hi:Int) (H:GH):C 20 [vi x,vi lo,vi hi] H (.bool (inI x lo hi)) H:=by
 refine con_wp tok mix fok20 (F:=g20) (c:=_) rfl (n:=15) rfl (rs:= [.tmp 6]) rfl (anch_closed rfl) ?_
 simp
 refine contG_bool (fun h=>?_) (fun h=>?_)<;>(try simp only [decide_eq_true_eq,decide_eq_false_iff_not] at h)<;>simp [h,inI]
theorem r3in_con (x lo hi:Int) (H:GH):C 31 [vi x,vi lo,vi hi] H (.bool (inI x lo hi)) H:=by
 refine con_wp tok mix fok31 (F:=g31) (c:=_) rfl (n:=15) rfl (rs:= [.tmp 6]) rfl (anch_closed rfl) ?_
 simp
 refine contG_bool (fun h=>?_) (fun h=>?_)<;>(try simp only [decide_eq_true_eq,decide_eq_false_iff_not] at h)<;>simp [h,inI]
theorem rDay_con (n:Int) (H:GH):C 6 [vi n] H (.bool (isDayI n)) H:=by
 refine con_wp tok mix fok6 (F:=g6) (c:=_) rfl (n:=5) rfl (rs:= [.tmp 2]) rfl (anch_closed rfl) ?_
 simp
 refine (rin_con _ _ _ _).go ?_
 simp [isDayI]
theorem rGrant_con (n:Int) (H:GH):C 77 [vi n] H (.bool (isGrantI n)) H:=by
 refine con_wp tok mix fok77 (F:=g77) (c:=_) rfl (n:=5) rfl (rs:= [.tmp 2]) rfl (anch_closed rfl) ?_
 simp
 refine (rin_con _ _ _ _).go ?_
 simp [isGrantI]
theorem rNumber_con (n:Int) (H:GH):C 106 [vi n] H (.bool (nisUnitsI n)) H:=by
 refine con_wp tok mix fok106 (F:=g106) (c:=_) rfl (n:=5) rfl (rs:= [.tmp 2]) rfl (anch_closed rfl) ?_
 simp
 refine (r3in_con _ _ _ _).go ?_
 simp [nisUnitsI]
theorem runits_con (n:Int) (H:GH):C 79 [vi n] H (.bool (isUnitsI n)) H:=by
 refine con_wp tok mix fok79 (F:=g79) (c:=_) rfl (n:=9) rfl (rs:= [.tmp 2]) rfl (anch_closed rfl) ?_
 simp
 refine contG_bool (fun h=>?_) (fun h=>?_)<;>(try simp only [decide_eq_true_eq,decide_eq_false_iff_not] at h)
 ·simp [h]
  refine (rNumber_con _ _).go ?_
  have:nisUnitsI n=isUnitsI n:=by
   unfold nisUnitsI isUnitsI inI
   rw [Bool.eq_iff_iff]; simp; omega
  simp [this]
 ·have:isUnitsI n=false:=by unfold isUnitsI inI; simp; omega
  simp [h,this]
theorem restate_con (n:Int) (H:GH):C 76 [vi n] H (.bool (isEstateI n)) H:=by
 refine con_wp tok mix fok76 (F:=g76) (c:=_) rfl (n:=5) rfl (rs:= [.tmp 2]) rfl (anch_closed rfl) ?_
 simp
 refine (rin_con _ _ _ _).go ?_
 simp [isEstateI]
theorem r3System_con (n:Int) (H:GH):C 78 [vi n] H (.bool (isSystemI n)) H:=by
 refine con_wp tok mix fok78 (F:=g78) (c:=_) rfl (n:=9) rfl (rs:= [.tmp 2]) rfl (anch_closed rfl) ?_
 simp
 refine contG_bool (fun h=>?_) (fun h=>?_)<;>(try simp only [Bool.not_eq_true',Bool.not_eq_false',decide_eq_true_eq,decide_eq_false_iff_not] at h)<;>simp [h,isSystemI]
theorem rPerson_con (l:BLoc) (b:Book) (n:Int) (H:GH):C 40 [bookV l b,vi n] H (.bool (isPersonI b n)) H:=by
 refine con_wp tok mix fok40 (F:=g40) (c:=_) rfl (n:=10) rfl (rs:= [.tmp 4]) rfl (anch_closed rfl) ?_
 simp
 refine (rin_con _ _ _ _).go ?_
 simp [isPersonI]
def hasS (k:Int):ByteArray:=
 if k=1 then ⟨#[112,115,117]⟩ else if k=2 then ⟨#[101,115,117]⟩ else if k=3 then ⟨#[112,111]⟩ else if k=4 then ⟨#[101,112]⟩
 else if k=5 then ⟨#[103,117,112]⟩ else if k=6 then ⟨#[101,102]⟩ else if k=7 then ⟨#[103,112]⟩ else if k=8 then ⟨#[112,115,117]⟩ else ⟨#[]⟩
theorem has_none {k:Int} (h:k<1∨8<k):hasS k=⟨#[]⟩:=by unfold hasS; repeat rw [if_neg (by omega)]
theorem has_sel {k:Int} (h:k=1∨k=2∨k=3∨k=4∨k=5∨k=6∨k=7∨k=8):List.take 1 (List.drop (k.toNat - 1) [Value.string ⟨#[112,115,117]⟩,.string ⟨#[101,115,117]⟩,.string ⟨#[112,111]⟩,.string ⟨#[101,112]⟩,.string ⟨#[103,117,112]⟩,.string ⟨#[101,102]⟩,.string ⟨#[103,112]⟩,.string ⟨#[112,115,117]⟩])= [.string (hasS k)]:=by
 rcases h with rfl|rfl|rfl|rfl|rfl|rfl|rfl|rfl<;>rfl
theorem has_con (k:Int) (H:GH):C 74 [vi k] H (.string (hasS k)) H:=by
 refine con_wp tok mix fok74 (F:=g74) (c:=_) rfl (n:=16) rfl (rs:= [.tmp 2]) rfl (anch_closed rfl) ?_
 simp
 refine contG_bool (fun h1=>?_) (fun h1=>?_)<;>(try simp only [Bool.not_eq_true',Bool.not_eq_false',decide_eq_true_eq,decide_eq_false_iff_not] at h1)
 ·simp [h1]
  refine wpB_bool (fun h2=>?_) (fun h2=>?_)<;>(try simp only [decide_eq_true_eq,decide_eq_false_iff_not] at h2)
  ·rw [has_none (.inr h2)]; simp
  ·simp (disch:=omega) [wrap64]
   have:k=1∨k=2∨k=3∨k=4∨k=5∨k=6∨k=7∨k=8:=by omega
   have hk:k≤8:=by omega
   rw [if_pos hk,has_sel this]
   simp
 ·rw [has_none (.inl h1)]; simp [h1]
def withB (s:ByteArray) (c:Int):Bool:=s.data.toList.any fun b=>decide ((b.toNat:Int)=c)
theorem with_con (s:ByteArray) (hs:s.size≤1000000) (c:Int) (H:GH):C 75 [.string s,.int .u8 c] H (.bool (withB s c)) H:=by
 refine con_wp tok mix fok75 (F:=g75) (c:=_) rfl (n:=17) rfl (rs:= [.tmp 4]) rfl (anch_closed rfl) ?_
 simp
 refine wp_up tok mix (by kernel_rfl) s.size (fun i ρ m H'=>ρ 0=.string s∧ρ 1=.int .u8 c∧ρ 5=vi i∧m= []∧H'=H∧∀j (h:j<s.data.size),j<i→¬((s.data[j].toNat:Int)=c)) (i0:=0) (by omega) (by simp) ?_
 rintro i ρ m H' hi ⟨e0,e1,e5,rfl,rfl,hj⟩
 simp [e0,e5]
 have hsz:s.data.size=s.size:=rfl
 refine wpB_dec (fun hlt=>?_) (fun hge=>?_)
 ·have hlt':i<s.data.size:=by omega
  have hat:s.data[i]?=some s.data[i]:=Array.getElem?_eq_getElem hlt'
  by_cases hc:((s.data[i].toNat:Int)=c)
  ·have:withB s c=true:=List.any_eq_true.2 ⟨s.data[i],by simp,by simpa using hc⟩
   rw [this]
   simp (disch:=omega) [e0,e1,e5,hlt,ixS,hc]
  ·simp (disch:=omega) [e0,e1,e5,hlt,ixS,wrap64,hc]
   intro j h hji
   by_cases hq:j=i
   ·subst hq; exact hc
   ·exact hj j h (by omega)
 ·have:withB s c=false:=by
   unfold withB
   rw [List.any_eq_false]
   intro x hx
   obtain ⟨j,hjl,rfl⟩:=List.mem_iff_getElem.1 hx
   simp at hjl ⊢
   exact hj j hjl (by omega)
  simp [this]
end Go.Gm.Tryz
end
section
namespace Go.Gm
theorem wp_mid {X:Cx} {a:Code} {K:Rho→List Nat→GH→Prop} {Q:VQ} {ρ:Rho} {m:List Nat} {H:GH} (P:Rho→List Nat→GH→Prop) (h:wpC X a (fun x ρ m H=>x=.normal∧P ρ m H) ρ m H) (hk:∀ρ m H,P ρ m H→K ρ m H):wpC X a (seqQ K Q) ρ m H:=
 wpC_mono h fun x ρ m H hx=>by obtain ⟨rfl,hp⟩:=hx; exact hk _ _ _ hp
end Go.Gm
namespace Go.Gm.Tryz
open Go.Proofs
theorem hasS_size (k:Int):(hasS k).size≤1000000:=by
 unfold hasS
 repeat' split
 all_goals decide
def fieldB (s:ByteArray) (c:Int) (ok:Bool) (n:Int):Bool:=(withB s c&&ok)||(!withB s c&&decide (n=0))
def evRef (b:Book) (x:Ev):Bool:=
 let s:=hasS x.kind
 if s.data= #[] then false else isDayI x.day&&(fieldB s 112 (isPersonI b x.person) x.person&&
  ((withB s 111&&isPersonI b x.other||(withB s 102&&isEstateI x.other||(!withB s 111&&(!withB s 102&&decide (x.other=0)))))&&
  (fieldB s 101 (isEstateI x.estate) x.estate&&(fieldB s 103 (isGrantI x.grant) x.grant&&(fieldB s 115 (isSystemI x.system) x.system&&fieldB s 117 (isUnitsI x.units) x.units)))))
theorem rEvent_con (l:BLoc) (b:Book) (x:Ev) (H:GH):C 41 [bookV l b,evV x] H (.bool (evRef b x)) H:=by
 refine con_wp tok mix fok41 (F:=g41) (c:=_) rfl (n:=157) rfl (rs:= [.tmp 4]) rfl (anch_closed rfl) ?_
 simp
 refine (has_con _ _).go ?_
 simp
 generalize hs:hasS x.kind=s
 have hsz:s.size≤1000000:=by rw [←hs]; exact hasS_size _
 refine contG_bool (fun h1=>?_) (fun h1=>?_)<;>(try simp only [Bool.not_eq_true',Bool.not_eq_false',decide_eq_true_eq,decide_eq_false_iff_not] at h1)
 ·simp [h1]
  refine (rDay_con _ _).go ?_
  simp
  generalize hH1:GH.push (GH.push H _) _=H1
  have k0:H1.get H.next=some (.arr { cells:=bookC l b,ty:=28 }):=by subst hH1; simp
  have k1:H1.get (H.next+1)=some (.arr { cells:=encEv x,ty:=56 }):=by subst hH1; simp
  have hsub:Sub H H1:=by subst hH1; exact (Sub.push (.refl H) _).push _
  clear hH1
  refine wpB_bool (fun h2=>?_) (fun h2=>?_)<;>(try simp only [Bool.not_eq_true',Bool.not_eq_false'] at h2)
  ·have hF:evRef b x=false:=by simp [evRef,hs,h1,h2]
   simp [hF]
   exact hsub
  refine wp_mid (fun ρ m H'=>ρ 2=.pointer (some (ga H.next 0 0))∧ρ 3=.pointer (some (ga (H.next+1) 0 0))∧ρ 5=.string s∧ρ 6=.bool (fieldB s 112 (isPersonI b x.person) x.person)∧m= []∧H'=H1) ?_ ?_
  ·have hf:fieldB s 112 (isPersonI b x.person) x.person=(withB s 112&&isPersonI b x.person|| !withB s 112&&decide (x.person=0)):=rfl
   cases hw:withB s 112<;>cases hp:isPersonI b x.person<;>simp only [hw,hp] at hf<;>simp [*]
   repeat' (first
    |(with_reducible refine (with_con s hsz _ _).go ?_; simp [*])
    |(with_reducible refine (rPerson_con l b _ _).go ?_; simp [*])
    |(with_reducible refine (restate_con _ _).go ?_; simp [*])
    |(with_reducible refine (rGrant_con _ _).go ?_; simp [*])
    |(with_reducible refine (r3System_con _ _).go ?_; simp [*])
    |(with_reducible refine (runits_con _ _).go ?_; simp [*]))
  rintro ρ m H1 ⟨e2,e3,e5,e6,rfl,rfl⟩
  refine wp_mid (fun ρ m H'=>ρ 2=.pointer (some (ga H.next 0 0))∧ρ 3=.pointer (some (ga (H.next+1) 0 0))∧ρ 5=.string s∧ρ 6=.bool (fieldB s 112 (isPersonI b x.person) x.person)∧ρ 7=.bool (withB s 111&&isPersonI b x.other||(withB s 102&&isEstateI x.other||(!withB s 111&&(!withB s 102&&decide (x.other=0)))))∧m= []∧H'=H1) ?_ ?_
  ·cases hw:withB s 111<;>cases hw2:withB s 102<;>cases hp:isPersonI b x.other<;>cases hp2:isEstateI x.other<;>simp [*]
   repeat' (first
    |(with_reducible refine (with_con s hsz _ _).go ?_; simp [*])
    |(with_reducible refine (rPerson_con l b _ _).go ?_; simp [*])
    |(with_reducible refine (restate_con _ _).go ?_; simp [*])
    |(with_reducible refine (rGrant_con _ _).go ?_; simp [*])
    |(with_reducible refine (r3System_con _ _).go ?_; simp [*])
    |(with_reducible refine (runits_con _ _).go ?_; simp [*]))
  rintro ρ m H1 ⟨e2,e3,e5,e6,e7,rfl,rfl⟩
  refine wp_mid (fun ρ m H'=>ρ 2=.pointer (some (ga H.next 0 0))∧ρ 3=.pointer (some (ga (H.next+1) 0 0))∧ρ 5=.string s∧ρ 6=.bool (fieldB s 112 (isPersonI b x.person) x.person)∧ρ 7=.bool (withB s 111&&isPersonI b x.other||(withB s 102&&isEstateI x.other||(!withB s 111&&(!withB s 102&&decide (x.other=0)))))∧ρ 8=.bool (fieldB s 101 (isEstateI x.estate) x.estate)∧m= []∧H'=H1) ?_ ?_
  ·have hf:fieldB s 101 (isEstateI x.estate) x.estate=(withB s 101&&isEstateI x.estate|| !withB s 101&&decide (x.estate=0)):=rfl
   cases hw:withB s 101<;>cases hp:isEstateI x.estate<;>simp only [hw,hp] at hf<;>simp [*]
   repeat' (first
    |(with_reducible refine (with_con s hsz _ _).go ?_; simp [*])
    |(with_reducible refine (rPerson_con l b _ _).go ?_; simp [*])
    |(with_reducible refine (restate_con _ _).go ?_; simp [*])
    |(with_reducible refine (rGrant_con _ _).go ?_; simp [*])
    |(with_reducible refine (r3System_con _ _).go ?_; simp [*])
    |(with_reducible refine (runits_con _ _).go ?_; simp [*]))
  rintro ρ m H1 ⟨e2,e3,e5,e6,e7,e8,rfl,rfl⟩
  refine wp_mid (fun ρ m H'=>ρ 2=.pointer (some (ga H.next 0 0))∧ρ 3=.pointer (some (ga (H.next+1) 0 0))∧ρ 5=.string s∧ρ 6=.bool (fieldB s 112 (isPersonI b x.person) x.person)∧ρ 7=.bool (withB s 111&&isPersonI b x.other||(withB s 102&&isEstateI x.other||(!withB s 111&&(!withB s 102&&decide (x.other=0)))))∧ρ 8=.bool (fieldB s 101 (isEstateI x.estate) x.estate)∧ρ 9=.bool (fieldB s 103 (isGrantI x.grant) x.grant)∧m= []∧H'=H1) ?_ ?_
  ·have hf:fieldB s 103 (isGrantI x.grant) x.grant=(withB s 103&&isGrantI x.grant|| !withB s 103&&decide (x.grant=0)):=rfl
   cases hw:withB s 103<;>cases hp:isGrantI x.grant<;>simp only [hw,hp] at hf<;>simp [*]
   repeat' (first
    |(with_reducible refine (with_con s hsz _ _).go ?_; simp [*])
    |(with_reducible refine (rPerson_con l b _ _).go ?_; simp [*])
    |(with_reducible refine (restate_con _ _).go ?_; simp [*])
    |(with_reducible refine (rGrant_con _ _).go ?_; simp [*])
    |(with_reducible refine (r3System_con _ _).go ?_; simp [*])
    |(with_reducible refine (runits_con _ _).go ?_; simp [*]))
  rintro ρ m H1 ⟨e2,e3,e5,e6,e7,e8,e9,rfl,rfl⟩
  refine wp_mid (fun ρ m H'=>ρ 2=.pointer (some (ga H.next 0 0))∧ρ 3=.pointer (some (ga (H.next+1) 0 0))∧ρ 5=.string s∧ρ 6=.bool (fieldB s 112 (isPersonI b x.person) x.person)∧ρ 7=.bool (withB s 111&&isPersonI b x.other||(withB s 102&&isEstateI x.other||(!withB s 111&&(!withB s 102&&decide (x.other=0)))))∧ρ 8=.bool (fieldB s 101 (isEstateI x.estate) x.estate)∧ρ 9=.bool (fieldB s 103 (isGrantI x.grant) x.grant)∧ρ 10=.bool (fieldB s 115 (isSystemI x.system) x.system)∧m= []∧H'=H1) ?_ ?_
  ·have hf:fieldB s 115 (isSystemI x.system) x.system=(withB s 115&&isSystemI x.system|| !withB s 115&&decide (x.system=0)):=rfl
   cases hw:withB s 115<;>cases hp:isSystemI x.system<;>simp only [hw,hp] at hf<;>simp [*]
   repeat' (first
    |(with_reducible refine (with_con s hsz _ _).go ?_; simp [*])
    |(with_reducible refine (rPerson_con l b _ _).go ?_; simp [*])
    |(with_reducible refine (restate_con _ _).go ?_; simp [*])
    |(with_reducible refine (rGrant_con _ _).go ?_; simp [*])
    |(with_reducible refine (r3System_con _ _).go ?_; simp [*])
    |(with_reducible refine (runits_con _ _).go ?_; simp [*]))
  rintro ρ m H1 ⟨e2,e3,e5,e6,e7,e8,e9,e10,rfl,rfl⟩
  refine wp_mid (fun ρ m H'=>ρ 2=.pointer (some (ga H.next 0 0))∧ρ 3=.pointer (some (ga (H.next+1) 0 0))∧ρ 5=.string s∧ρ 6=.bool (fieldB s 112 (isPersonI b x.person) x.person)∧ρ 7=.bool (withB s 111&&isPersonI b x.other||(withB s 102&&isEstateI x.other||(!withB s 111&&(!withB s 102&&decide (x.other=0)))))∧ρ 8=.bool (fieldB s 101 (isEstateI x.estate) x.estate)∧ρ 9=.bool (fieldB s 103 (isGrantI x.grant) x.grant)∧ρ 10=.bool (fieldB s 115 (isSystemI x.system) x.system)∧ρ 11=.bool (fieldB s 117 (isUnitsI x.units) x.units)∧m= []∧H'=H1) ?_ ?_
  ·have hf:fieldB s 117 (isUnitsI x.units) x.units=(withB s 117&&isUnitsI x.units|| !withB s 117&&decide (x.units=0)):=rfl
   cases hw:withB s 117<;>cases hp:isUnitsI x.units<;>simp only [hw,hp] at hf<;>simp [*]
   repeat' (first
    |(with_reducible refine (with_con s hsz _ _).go ?_; simp [*])
    |(with_reducible refine (rPerson_con l b _ _).go ?_; simp [*])
    |(with_reducible refine (restate_con _ _).go ?_; simp [*])
    |(with_reducible refine (rGrant_con _ _).go ?_; simp [*])
    |(with_reducible refine (r3System_con _ _).go ?_; simp [*])
    |(with_reducible refine (runits_con _ _).go ?_; simp [*]))
  rintro ρ m H1 ⟨e2,e3,e5,e6,e7,e8,e9,e10,e11,rfl,rfl⟩
  have hev:evRef b x=(fieldB s 112 (isPersonI b x.person) x.person&&((withB s 111&&isPersonI b x.other||(withB s 102&&isEstateI x.other||(!withB s 111&&(!withB s 102&&decide (x.other=0)))))&&(fieldB s 101 (isEstateI x.estate) x.estate&&(fieldB s 103 (isGrantI x.grant) x.grant&&(fieldB s 115 (isSystemI x.system) x.system&&fieldB s 117 (isUnitsI x.units) x.units))))):=by
   simp [evRef,hs,h1,h2]
  rw [hev]
  generalize fieldB s 112 (isPersonI b x.person) x.person=a1 at e6 ⊢
  generalize (withB s 111&&isPersonI b x.other||(withB s 102&&isEstateI x.other||(!withB s 111&&(!withB s 102&&decide (x.other=0)))))=a2 at e7 ⊢
  generalize fieldB s 101 (isEstateI x.estate) x.estate=a3 at e8 ⊢
  generalize fieldB s 103 (isGrantI x.grant) x.grant=a4 at e9 ⊢
  generalize fieldB s 115 (isSystemI x.system) x.system=a5 at e10 ⊢
  generalize fieldB s 117 (isUnitsI x.units) x.units=a6 at e11 ⊢
  cases a1<;>cases a2<;>cases a3<;>cases a4<;>cases a5<;>simp [*]
 ·have hF:evRef b x=false:=by simp [evRef,hs,h1]
  simp [h1,hF]
theorem evRef_eq (b:Book) (x:Ev):evRef b x=isEventB b x:=by
 by_cases hk:x.kind<1∨8<x.kind
 ·have e1:evRef b x=false:=by simp [evRef,has_none hk]
  have e2:isEventB b x=false:=by
   unfold isEventB
   repeat rw [if_neg (by omega)]
   simp
  rw [e1,e2]
 ·have:x.kind=1∨x.kind=2∨x.kind=3∨x.kind=4∨x.kind=5∨x.kind=6∨x.kind=7∨x.kind=8:=by omega
  unfold evRef isEventB
  rcases this with h|h|h|h|h|h|h|h<;>rw [h]<;>simp [hasS,fieldB,withB,emptyB,Bool.and_assoc]
  all_goals ac_rfl
end Go.Gm.Tryz
end
section
namespace Go.Gm.Tryz
open Go.Proofs
theorem r3Table_con (l:TLoc) (t:Tbl) (H:GH) (ht:TblIn H l t) (hl:t.rows.length≤1000000):C 39 [tblV l t] H (.bool (isTableB t)) H:=by
 rcases l with ⟨⟨ra,rf⟩⟩
 refine con_wp tok mix fok39 (F:=g39) (c:=_) rfl (n:=42) rfl (rs:= [.tmp 2]) rfl (anch_closed rfl) ?_
 simp
 generalize hH1:GH.push H _=H1
 have k0:H1.get H.next=some (.arr { cells:= [.slice ra t.rows.length rf,vi t.draw],ty:=24 }):=by subst hH1; simp
 have hsub:Sub H H1:=by subst hH1; exact Sub.push (.refl H) _
 have hn1:H.next<H1.next:=by subst hH1; simp
 have ht1:=ht.mono hsub
 clear hH1
 refine wp_up tok mix (by kernel_rfl) t.rows.length (fun i ρ m H'=>ρ 1=.pointer (some (ga H.next 0 0))∧ρ 3=vi i∧m= []∧Sub H1 H'∧∀j (h:j<t.rows.length),j<i→rowBad t.rows[j]=false) (i0:=0) (by omega) (by simp) ?_
 rintro i ρ m H' hi ⟨e1,e3,rfl,hs,hj⟩
 have hg:=hs.2 H.next hn1
 rw [k0] at hg
 have hn:H.next<H'.next:=by have:=hs.1; omega
 simp [e1,e3,hg]
 refine wpB_dec (fun hlt=>?_) (fun hge=>?_)
 ·obtain ⟨a,ha,hal,hrd⟩:=(ht1.mono hs).at i hlt
  simp only at ha
  subst ha
  simp (disch:=omega) [e1,e3,hg,hlt,hrd]
  refine (r3in_con _ _ _ _).go ?_
  simp
  have hlater:∀j (h:j<t.rows.length),rowBad t.rows[i]=false→j<i+1→rowBad t.rows[j]=false:=fun j h hb hji=>by
   by_cases hq:j=i
   ·subst hq; exact hb
   ·exact hj j h (by omega)
  have hbadT:rowBad t.rows[i]=true→isTableB t=false:=fun hb=>by
   have:t.rows.any rowBad=true:=List.any_eq_true.2 ⟨_,List.getElem_mem hlt,hb⟩
   simp [isTableB,this]
  cases q1:inI t.rows[i].first 1 60
  ·rw [hbadT (by simp [rowBad,q1])]
   simp
   exact hsub.trans ((hs.push _).put hs.1 _)
  simp (disch:=omega)
  refine (r3in_con _ _ _ _).go ?_
  simp
  cases q2:inI t.rows[i].second 1 60
  ·rw [hbadT (by simp [rowBad,q2])]
   simp
   exact hsub.trans ((hs.push _).put hs.1 _)
  simp (disch:=omega)
  refine (r3in_con _ _ _ _).go ?_
  simp
  cases q3:inI t.rows[i].gives 1 1000
  ·rw [hbadT (by simp [rowBad,q3])]
   simp
   exact hsub.trans ((hs.push _).put hs.1 _)
  simp (disch:=omega) [e1,e3,wrap64]
  exact ⟨(hs.push _).put hs.1 _,fun j h hji=>hlater j h (by simp [rowBad,q1,q2,q3]) hji⟩
 ·have hnb:t.rows.any rowBad=false:=by
   rw [List.any_eq_false]
   intro x hx
   obtain ⟨j,hjl,rfl⟩:=List.mem_iff_getElem.1 hx
   rw [hj j hjl (by omega)]; simp
  simp [e1,hg]
  refine (r3in_con _ _ _ _).go ?_
  simp
  cases q1:inI (t.rows.length:Int) 1 12
  ·simp [isTableB,q1]
   exact hsub.trans hs
  simp [e1,hg]
  refine (r3in_con _ _ _ _).go ?_
  simp [isTableB,q1,hnb]
  exact hsub.trans hs
theorem rBook_con (l:BLoc) (b:Book) (H:GH) (hb:BookIn H l b) (hl:b.tbl.rows.length≤1000000):C 18 [bookV l b] H (.bool (isBookB b)) H:=by
 rcases l with ⟨⟨⟨ra,rf⟩⟩,⟨oa,of'⟩,⟨va,vf⟩⟩
 refine con_wp tok mix fok18 (F:=g18) (c:=_) rfl (n:=89) rfl (rs:= [.tmp 2]) rfl (anch_closed rfl) ?_
 simp
 generalize hH1:GH.push H _=H1
 have hs1:Sub H H1:=by subst hH1; exact Sub.push (.refl H) _
 have hg1:H1.get H.next=some (.arr { cells:=bookC ⟨⟨⟨ra,rf⟩⟩,⟨oa,of'⟩,⟨va,vf⟩⟩ b,ty:=28 }):=by subst hH1; simp
 have hn1:H.next<H1.next:=by subst hH1; simp
 have hb1:=hb.mono hs1
 clear hH1
 have hst:∀H',Sub H1 H'→Sub H H':=fun H' h=>hs1.trans h
 with_reducible refine (r3Table_con ⟨⟨_,_⟩⟩ b.tbl _ hb1.t hl).go ?_
 simp
 cases ht:isTableB b.tbl
 case false=>simp [isBookB,ht]; exact hs1
 simp [hg1]
 with_reducible refine (rin_con _ _ _ _).go ?_
 simp
 cases h1:inI b.supply 0 10000
 case false=>simp [h1,isBookB]; exact hs1
 simp [hg1]
 with_reducible refine (rin_con _ _ _ _).go ?_
 simp
 cases h2:inI b.term 0 1000
 case false=>simp [h2,isBookB]; exact hs1
 simp [hg1]
 with_reducible refine (rin_con _ _ _ _).go ?_
 simp
 cases h3:inI b.persons 1 8
 case false=>simp [h3,isBookB]; exact hs1
 simp [hg1]
 refine contG_bool (fun h4=>?_) (fun h4=>?_)<;>(try simp only [Bool.not_eq_true',Bool.not_eq_false',decide_eq_true_eq,decide_eq_false_iff_not] at h4)
 case refine_2=>
  have:¬b.owners.length≤6:=by omega
  simp [h4,isBookB,this]; exact hs1
 simp [h4,hg1]
 refine wpB_bool (fun h5=>?_) (fun h5=>?_)<;>(try simp only [decide_eq_true_eq,decide_eq_false_iff_not] at h5)
 ·have:¬b.events.length≤12:=by omega
  simp [h5,isBookB,this]; exact hs1
 simp [h5]
 refine wp_up tok mix (by kernel_rfl) b.owners.length (fun i ρ m H'=>ρ 1=.pointer (some (ga H.next 0 0))∧ρ 3=vi i∧m= []∧H'=H1∧∀j (h:j<b.owners.length),j<i→isPersonI b b.owners[j]=true) (i0:=0) (by omega) (by simp) ?_
 rintro i ρ m H1 hi ⟨e1,e3,rfl,rfl,hj⟩
 simp [e1,e3,hg1]
 refine wpB_dec (fun hlt=>?_) (fun hge=>?_)
 ·obtain ⟨a,ha,hal,hrd⟩:=hb1.owners.at i hlt
  simp only at ha
  subst ha
  simp (disch:=omega) [e1,e3,hg1,hlt,hrd]
  with_reducible refine (rPerson_con ⟨⟨⟨_,_⟩⟩,⟨_,_⟩,⟨_,_⟩⟩ b b.owners[i] _).go ?_
  simp (disch:=omega)
  cases hp:isPersonI b b.owners[i]
  ·have hF:isBookB b=false:=by
    have:b.owners.any (fun n=> !isPersonI b n)=true:=List.any_eq_true.2 ⟨_,List.getElem_mem hlt,by simp [hp]⟩
    simp [isBookB,this]
   simp [hF]; exact hs1
  ·simp (disch:=omega) [e1,e3,wrap64]
   intro j h hji
   by_cases hq:j=i
   ·subst hq; exact hp
   ·exact hj j h (by omega)
 have hown:b.owners.any (fun n=> !isPersonI b n)=false:=by
  rw [List.any_eq_false]
  intro x hx
  obtain ⟨j,hjl,rfl⟩:=List.mem_iff_getElem.1 hx
  rw [hj j hjl (by omega)]; simp
 clear hj
 simp
 refine wp_up tok mix (by kernel_rfl) b.events.length (fun i ρ m H'=>ρ 1=.pointer (some (ga H.next 0 0))∧ρ 4=vi i∧m= []∧H'=H1∧∀j,j<i→badAt b j=false) (i0:=0) (by omega) (by simp [e1]) ?_
 rintro i ρ m H1 hi ⟨e1,e4,rfl,rfl,hj⟩
 simp [e1,e4,hg1]
 refine wpB_dec (fun hlt=>?_) (fun hge=>?_)
 case refine_2=>
  have h6:b.owners.length≤6:=by omega
  have h7:b.events.length≤12:=by omega
  have h8:(List.range b.events.length).all (fun i=> !badAt b i)=true:=by
   rw [List.all_eq_true]
   intro j hjm
   rw [hj j (by have:=List.mem_range.1 hjm; omega)]; rfl
  simp [isBookB,ht,h1,h2,h3,h6,h7,h8,hown]
  exact hs1
 have hbadF:badAt b i=true→isBookB b=false:=fun hb=>by
  have:(List.range b.events.length).all (fun i=> !badAt b i)=false:=by
   rw [List.all_eq_false]
   exact ⟨i,List.mem_range.2 hlt,by simp [hb]⟩
  simp [isBookB,this]
 have hnext:badAt b i=false→∀j,j<i+1→badAt b j=false:=fun hb j hji=>by
  by_cases hq:j=i
  ·subst hq; exact hb
  ·exact hj j (by omega)
 have hbad:badAt b i=(!isEventB b b.events[i]||(decide (0<i)&&decide (b.events[i].day<(b.events.getD (i - 1) default).day))):=by
  unfold badAt
  rw [getD_at hlt]
 obtain ⟨a,ha,hal,hrd⟩:=hb1.events.at i hlt
 simp only at ha
 subst ha
 simp (disch:=omega) [e1,e4,hg1,hlt,hrd]
 with_reducible refine (rEvent_con ⟨⟨⟨_,_⟩⟩,⟨_,_⟩,⟨_,_⟩⟩ b b.events[i] _).go ?_
 rw [evRef_eq]
 simp (disch:=omega)
 cases hev:isEventB b b.events[i]
 ·rw [hbadF (by rw [hbad,hev]; rfl)]
  simp; exact hs1
 simp (disch:=omega) [e4]
 refine planG_bool (fun h6=>?_) (fun h6=>?_)<;>(try simp only [decide_eq_true_eq,decide_eq_false_iff_not] at h6)
 ·have hi0:0<i:=by omega
  obtain ⟨a',ha',_,hr'⟩:=hb1.events.at (i - 1) (by omega)
  simp only at ha'
  cases ha'
  have e9:((i:Int) - 1).toNat=i - 1:=by omega
  have hgd:b.events[i - 1]=b.events.getD (i - 1) default:=(getD_at (by omega)).symm
  simp (disch:=omega) [e1,e4,hg1,hrd,wrap64,e9,hr',h6]
  refine wpB_bool (fun h7=>?_) (fun h7=>?_)<;>(try simp only [decide_eq_true_eq,decide_eq_false_iff_not] at h7)
  ·rw [hbadF (by rw [hbad,hev,←hgd]; simp [hi0,h7])]
   simp; exact hs1
  ·simp (disch:=omega) [e1,e4,wrap64]
   exact hnext (by rw [hbad,hev,←hgd]; simp [h7])
 ·simp (disch:=omega) [e1,e4,h6,wrap64]
  exact hnext (by rw [hbad,hev]; simp [h6])
def shortB (b:Book):Bool:=decide (b.tbl.rows.length≤15)&&(decide (b.owners.length≤8)&&(decide (b.events.length≤14)&&(decide (b.tbl.rows.length≤4)|| !isTableB b.tbl)))
end Go.Gm.Tryz
end
section
namespace Go.Gm.Tryz
open Go.Proofs
theorem book_days {x:Book} (h:isBookB x=true):∀e∈x.events,e.day≤36500:=by
 intro e he
 obtain ⟨i,hi,rfl⟩:=List.mem_iff_getElem.1 he
 unfold isBookB at h
 simp only [Bool.and_eq_true,List.all_eq_true,List.mem_range] at h
 have h1:=h.1.2 i hi
 unfold badAt at h1
 rw [getD_at hi] at h1
 simp at h1
 have h2:=h1.1
 unfold isEventB at h2
 simp [isDayI,inI] at h2
 omega
theorem replicate_flat {α:Type} (enc:α→List Value) (x:α):∀n:Nat,(List.replicate n x).flatMap enc=replicateL n (enc x):=by
 intro n
 induction n with
 |zero=>rfl
 |succ n ih=>rw [List.replicate_succ,List.flatMap_cons,ih]; rfl
end Go.Gm.Tryz
end
section
namespace Go.Gm.Tryz
open Go.Proofs
structure Agr (N:Nat) (b c:Book):Prop where
 tbl:b.tbl=c.tbl
 sup:b.supply=c.supply
 term:b.term=c.term
 per:b.persons=c.persons
 own:b.owners=c.owners
 ev:∀n:Int,n.toNat<N→evAt b n=evAt c n
def LtW (N:Nat) (s:Stand):Prop:=∀w∈s.waits,w.toNat<N
theorem freeI_agr {N:Nat} {b c:Book} (h:Agr N b c) (s:Stand):freeI b s=freeI c s:=by
 have e:freeStep b=freeStep c:=by funext n g; simp [freeStep,h.tbl]
 simp [freeI,e,h.sup]
theorem serveS_agr {N:Nat} {b c:Book} (h:Agr N b c):∀ {n:Nat} {s:Stand},LtW N s→serveS b n s=serveS c n s∧LtW N (serveS b n s):=by
 intro n
 induction n with
 |zero=>intro s hs; exact ⟨rfl,hs⟩
 |succ n ih=>
  intro s hs
  simp only [serveS]
  cases hw:s.waits with
  |nil=>exact ⟨rfl,hs⟩
  |cons w ws=>
   have hN:w.toNat<N:=hs w (by rw [hw]; simp)
   simp only [←h.ev w hN,freeI_agr h,h.tbl]
   split
   ·exact ⟨rfl,hs⟩
   ·refine ih fun v hv=>hs v ?_
    rw [hw]
    exact List.mem_cons_of_mem _ hv
theorem serve_agr {N:Nat} {b c:Book} (h:Agr N b c) {s:Stand} (hs:LtW N s):serve b s=serve c s∧LtW N (serve b s):=serveS_agr h hs
theorem endS_agr {N:Nat} {b c:Book} (h:Agr N b c) {s:Stand} (hs:LtW N s) (g:Nat) (d:Int):endS b s g d=endS c s g d∧LtW N (endS b s g d):=serve_agr h (s:=endG s g d) hs
theorem passS_agr {N:Nat} {b c:Book} (h:Agr N b c) {d:Int}:∀ {n:Nat} {s:Stand},LtW N s→passS b d n s=passS c d n s∧LtW N (passS b d n s):=by
 intro n
 induction n with
 |zero=>intro s hs; exact ⟨rfl,hs⟩
 |succ n ih=>
  intro s hs
  simp only [passS]
  split
  ·exact ⟨rfl,hs⟩
  ·obtain ⟨e1,e2⟩:=endS_agr h hs (findAt s d).toNat (IntKind.i64.wrap (lastAt s (findAt s d)+1))
   rw [←e1]
   exact ih e2
theorem pass_agr {N:Nat} {b c:Book} (h:Agr N b c) {s:Stand} (hs:LtW N s) (d:Int):pass b s d=pass c s d∧LtW N (pass b s d):=passS_agr h hs
theorem foldl_agr {α:Type} {P:Stand→Prop} {f g:Stand→α→Stand} (hf:∀s x,P s→f s x=g s x∧P (f s x)):∀(l:List α) {s:Stand},P s→l.foldl f s=l.foldl g s∧P (l.foldl f s):=by
 intro l
 induction l with
 |nil=>intro s hs; exact ⟨rfl,hs⟩
 |cons x l ih=>
  intro s hs
  obtain ⟨e1,e2⟩:=hf s x hs
  simp only [List.foldl_cons,←e1]
  exact ih e2
theorem fitsB_agr {N:Nat} {b c:Book} (h:Agr N b c) (s:Stand) (e:Ev):fitsB b s e=fitsB c s e:=by simp [fitsB,h.tbl,freeI_agr h]
theorem goesB_agr {N:Nat} {b c:Book} (h:Agr N b c) (s:Stand) (e:Ev):goesB b s e=goesB c s e:=by
 simp [goesB,fitsB_agr h,divB,partB,h.tbl,freeI_agr h]
theorem dieB_waits (s:Stand) (e:Ev):(dieB s e).waits=s.waits:=by
 have:∀(l:List Nat) (t:Stand),(l.foldl (ownStep e) t).waits=t.waits:=by
  intro l
  induction l with
  |nil=>intro t; rfl
  |cons x l ih=>
   intro t
   rw [List.foldl_cons,ih]
   unfold ownStep
   split<;>rfl
 exact this _ _
theorem dieS_agr {N:Nat} {b c:Book} (h:Agr N b c) {s:Stand} (hs:LtW N s) (e:Ev):dieS b s e=dieS c s e∧LtW N (dieS b s e):=by
 have h1:LtW N (dieB (dieA s e) e):=fun w hw=>by rw [dieB_waits] at hw; exact hs w hw
 have h2:dieC b (dieB (dieA s e) e) e=dieC c (dieB (dieA s e) e) e:=by
  unfold dieC
  congr 1
  apply List.filter_congr
  intro w hw
  simp [notOf,h.ev w (h1 w hw)]
 have h3:LtW N (dieC b (dieB (dieA s e) e) e):=fun w hw=>h1 w ((List.mem_filter.1 hw).1)
 obtain ⟨h4,h5⟩:=foldl_agr (P:=LtW N) (f:=endStep b e) (g:=endStep c e) (fun t i ht=>by
  unfold endStep
  split
  ·exact endS_agr h ht _ _
  ·exact ⟨rfl,ht⟩) (List.range (dieC b (dieB (dieA s e) e) e).grants.length) h3
 have h6:∀t i,heirStep b e t i=heirStep c e t i∧(LtW N t→LtW N (heirStep b e t i)):=fun t i=>by
  unfold heirStep
  rw [h.term]
  refine ⟨rfl,fun ht=>?_⟩
  split
  ·exact ht
  ·exact ht
 unfold dieS dieE dieD
 rw [←h2,←h4]
 exact foldl_agr (P:=LtW N) (fun t i ht=>⟨(h6 t i).1,(h6 t i).2 ht⟩) _ h5
theorem doS_agr {N:Nat} {b c:Book} (h:Agr N b c) {s:Stand} (hs:LtW N s) (e:Ev) {n:Nat} (hn:n<N):doS b s e n=doS c s e n∧LtW N (doS b s e n):=by
 unfold doS
 repeat' split
 ·exact ⟨rfl,hs⟩
 ·exact ⟨rfl,hs⟩
 ·exact dieS_agr h hs e
 ·exact ⟨rfl,hs⟩
 ·exact ⟨rfl,hs⟩
 ·exact ⟨rfl,hs⟩
 ·exact ⟨rfl,hs⟩
 ·refine ⟨rfl,fun w hw=>?_⟩
  simp only [askS,List.mem_append,List.mem_singleton] at hw
  rcases hw with hw|rfl
  ·exact hs w hw
  ·simpa using hn
def runS (b:Book):List Ev→Nat→Stand→Nat⊕Stand
 | [],_,s=>.inr s
 |e::es,n,s=>if goesB b (pass b s e.day) e then runS b es (n+1) (serve b (doS b (pass b s e.day) e n)) else .inl n
theorem runS_agr {N:Nat} {b c:Book} (h:Agr N b c):∀ {es:List Ev} {n:Nat} {s:Stand},LtW N s→n+es.length≤N→runS b es n s=runS c es n s∧∀t,runS b es n s=.inr t→LtW N t:=by
 intro es
 induction es with
 |nil=>intro n s hs _; exact ⟨rfl,fun t ht=>by cases ht; exact hs⟩
 |cons e es ih=>
  intro n s hs hn
  simp only [List.length_cons] at hn
  obtain ⟨e1,e2⟩:=pass_agr h hs e.day
  obtain ⟨e3,e4⟩:=doS_agr h e2 e (n:=n) (by omega)
  obtain ⟨e5,e6⟩:=serve_agr h e4
  simp only [runS,←e1,←goesB_agr h,←e3,←e5]
  split
  ·exact ih e6 (by omega)
  ·exact ⟨rfl,fun t ht=>by cases ht⟩
theorem upFrom_run {b:Book} {d:Int}:∀ {es:List Ev} {n:Nat} {s:Stand},(∀e∈es,e.day≤d)→upFrom b d es n s=match runS b es n s with| .inl k=>.inl k| .inr t=>.inr (pass b t d):=by
 intro es
 induction es with
 |nil=>intro n s _; rfl
 |cons e es ih=>
  intro n s hd
  have h1:¬e.day>d:=by have:=hd e (by simp); omega
  simp only [upFrom,runS,if_neg h1]
  split
  ·exact ih fun x hx=>hd x (by simp [hx])
  ·rfl
theorem runS_append {b:Book}:∀ {es fs:List Ev} {n:Nat} {s:Stand},runS b (es++fs) n s=match runS b es n s with| .inl k=>.inl k| .inr t=>runS b fs (n+es.length) t:=by
 intro es
 induction es with
 |nil=>intro fs n s; rfl
 |cons e es ih=>
  intro fs n s
  simp only [List.cons_append,runS]
  split
  ·rw [ih]
   simp only [List.length_cons]
   rw [show n+1+es.length=n+(es.length+1) by omega]
  ·rfl
theorem wrong_run {b:Book} (hB:isBookB b=true):wrongO b=match runS b b.events 0 (start b) with| .inl k=>some (k:Int)| .inr _=>none:=by
 unfold wrongO upS
 rw [upFrom_run (book_days hB)]
 cases runS b b.events 0 (start b)<;>rfl
theorem wrongO_nonneg {b:Book} {n:Int} (h:wrongO b=some n):0≤n:=by
 unfold wrongO at h
 split at h
 ·cases h; omega
 ·cases h
end Go.Gm.Tryz
end
section
namespace Go.Gm.Tryz
open Go.Proofs
def SlOk (s:SLoc) (sz:Nat):Prop:=(s.a=none∧s.fl=0)∨∃a,s.a=some a∧s.fl=sz
end Go.Gm.Tryz
end
section
namespace Go.Gm.Tryz
open Go.Proofs Go.Proofs.YtbafdnglbblodaaGreat
theorem own:ownKnob Tryz.prog.godebug=none:=by kernel_rfl
theorem laidOut:laidOutB Tryz.prog=true:=by kernel_rfl
theorem and_tt {a b:Bool} (h:a=true) (k:b=true):(a&&b)=true:=by rw [h,k]; rfl
abbrev dI:DT:=.int .i64
def dRow:DT:=.struct (.cons dI (.cons dI (.cons dI .nil)))
def dTbl:DT:=.struct (.cons (.slice dRow) (.cons dI .nil))
def dEv:DT:=.struct (.cons dI (.cons dI (.cons dI (.cons dI (.cons dI (.cons dI (.cons dI (.cons dI .nil))))))))
def dBook:DT:=.struct (.cons dTbl (.cons dI (.cons dI (.cons dI (.cons (.slice dI) (.cons (.slice dEv) .nil))))))
theorem fitI:Fit Tryz.prog dI 3:=.int Tryz.underlying3
theorem fitRow:Fit Tryz.prog dRow 52:=.struct Tryz.underlying52 (by kernel_rfl) (.cons rfl (by kernel_rfl) fitI (.cons rfl (by kernel_rfl) fitI (.cons rfl (by kernel_rfl) fitI .nil)))
theorem fitTbl:Fit Tryz.prog dTbl 24:=.struct Tryz.underlying24 (by kernel_rfl) (.cons rfl (by kernel_rfl) (.slice Tryz.underlying22 (by kernel_rfl) (by decide) fitRow) (.cons rfl (by kernel_rfl) fitI .nil))
theorem fitEv:Fit Tryz.prog dEv 56:=.struct Tryz.underlying56 (by kernel_rfl) (.cons rfl (by kernel_rfl) (.int Tryz.underlying54) (.cons rfl (by kernel_rfl) fitI (.cons rfl (by kernel_rfl) fitI (.cons rfl (by kernel_rfl) fitI (.cons rfl (by kernel_rfl) fitI (.cons rfl (by kernel_rfl) fitI (.cons rfl (by kernel_rfl) (.int Tryz.underlying39) (.cons rfl (by kernel_rfl) fitI .nil))))))))
theorem fitBook:Fit Tryz.prog dBook 28:=.struct Tryz.underlying28 (by kernel_rfl) (.cons rfl (by kernel_rfl) fitTbl (.cons rfl (by kernel_rfl) fitI (.cons rfl (by kernel_rfl) fitI (.cons rfl (by kernel_rfl) fitI
 (.cons rfl (by kernel_rfl) (.slice Tryz.underlying25 (by kernel_rfl) (by decide) fitI) (.cons rfl (by kernel_rfl) (.slice Tryz.underlying26 (by kernel_rfl) (by decide) fitEv) .nil))))))
theorem lie_elems {α:Type} {H:GH} {e:DT} {enc:α→List Value} {sz:Nat} (hsz:e.sz=sz) (hl:∀x,(enc x).length=sz) (hdec:∀cs,Lie H e cs→∃x,cs=enc x) {cs:List Value} (h:Lie H (.slice e) cs):
  ∃(s:SLoc) (l:List α),cs= [.slice s.a l.length s.fl]∧Elems H s.a sz enc l∧SlOk s sz:=by
 subst hsz
 rcases h with rfl|⟨a,ls,rfl,hm,hb,hr,hx⟩
 ·exact ⟨⟨none,0⟩,[],rfl,⟨hl,fun c hc=>(by cases hc),fun _=>rfl⟩,.inl ⟨rfl,rfl⟩⟩
 ·have hex:∃l:List α,ls=l.map enc:=by
   clear hr hm
   induction ls with
   |nil=>exact ⟨[],rfl⟩
   |cons c ls ih=>
    obtain ⟨l,rfl⟩:=ih fun x hxm=>hx x (List.mem_cons_of_mem _ hxm)
    obtain ⟨x,rfl⟩:=hdec c (hx c (List.mem_cons_self ..)).2
    exact ⟨x::l,rfl⟩
  obtain ⟨l,rfl⟩:=hex
  refine ⟨⟨some a,e.sz⟩,l,by simp,⟨hl,fun c hc=>?_,fun hc=>by cases hc⟩,.inr ⟨a,rfl,rfl⟩⟩
  cases hc
  rw [List.length_map] at hr
  exact ⟨hb,by rw [hr,List.flatMap_def]⟩
theorem lie_cons {H:GH} {d r:DT} {cs:List Value} (h:Lie H (.cons d r) cs):∃a b,cs=a++b∧Lie H d a∧Lie H r b:=by
 obtain ⟨a,b,e,_,h1,h2⟩:=h; exact ⟨a,b,e,h1,h2⟩
theorem lie_int {H:GH} {cs:List Value} (h:Lie H dI cs):∃n,cs= [vi n]:=by obtain ⟨n,e,_⟩:=h; exact ⟨n,e⟩
theorem lie_I (H:GH) (cs:List Value) (h:Lie H dI cs):∃n,cs=encI n:=lie_int h
theorem lie_row (H:GH) (cs:List Value) (h:Lie H dRow cs):∃x,cs=encRow x:=by
 obtain ⟨_,_,rfl,h1,h⟩:=lie_cons h
 obtain ⟨_,_,rfl,h2,h⟩:=lie_cons h
 obtain ⟨_,_,rfl,h3,h⟩:=lie_cons h
 obtain rfl:_= []:=h
 obtain ⟨a,rfl⟩:=lie_int h1
 obtain ⟨b,rfl⟩:=lie_int h2
 obtain ⟨c,rfl⟩:=lie_int h3
 exact ⟨⟨a,b,c⟩,rfl⟩
theorem lie_ev (H:GH) (cs:List Value) (h:Lie H dEv cs):∃x,cs=encEv x:=by
 obtain ⟨_,_,rfl,h1,h⟩:=lie_cons h
 obtain ⟨_,_,rfl,h2,h⟩:=lie_cons h
 obtain ⟨_,_,rfl,h3,h⟩:=lie_cons h
 obtain ⟨_,_,rfl,h4,h⟩:=lie_cons h
 obtain ⟨_,_,rfl,h5,h⟩:=lie_cons h
 obtain ⟨_,_,rfl,h6,h⟩:=lie_cons h
 obtain ⟨_,_,rfl,h7,h⟩:=lie_cons h
 obtain ⟨_,_,rfl,h8,h⟩:=lie_cons h
 obtain rfl:_= []:=h
 obtain ⟨a1,rfl⟩:=lie_int h1
 obtain ⟨a2,rfl⟩:=lie_int h2
 obtain ⟨a3,rfl⟩:=lie_int h3
 obtain ⟨a4,rfl⟩:=lie_int h4
 obtain ⟨a5,rfl⟩:=lie_int h5
 obtain ⟨a6,rfl⟩:=lie_int h6
 obtain ⟨a7,rfl⟩:=lie_int h7
 obtain ⟨a8,rfl⟩:=lie_int h8
 exact ⟨⟨a1,a2,a3,a4,a5,a6,a7,a8⟩,rfl⟩
theorem lie_book {H:GH} {cs:List Value} (h:Lie H dBook cs):∃l b,argV dBook cs=bookV l b∧BookIn H l b∧SlOk l.t.rows 3∧SlOk l.owners 1∧SlOk l.events 8:=by
 obtain ⟨_,_,rfl,ht,h⟩:=lie_cons h
 obtain ⟨_,_,rfl,h2,h⟩:=lie_cons h
 obtain ⟨_,_,rfl,h3,h⟩:=lie_cons h
 obtain ⟨_,_,rfl,h4,h⟩:=lie_cons h
 obtain ⟨_,_,rfl,h5,h⟩:=lie_cons h
 obtain ⟨_,_,rfl,h6,h⟩:=lie_cons h
 obtain rfl:_= []:=h
 obtain ⟨_,_,rfl,hr,ht⟩:=lie_cons ht
 obtain ⟨_,_,rfl,hd,ht⟩:=lie_cons ht
 obtain rfl:_= []:=ht
 obtain ⟨dr,rfl⟩:=lie_int hd
 obtain ⟨su,rfl⟩:=lie_int h2
 obtain ⟨te,rfl⟩:=lie_int h3
 obtain ⟨pe,rfl⟩:=lie_int h4
 obtain ⟨s1,l1,rfl,e1,k1⟩:=lie_elems (sz:=3) rfl (fun _=>rfl) (lie_row H) hr
 obtain ⟨s2,l2,rfl,e2,k2⟩:=lie_elems (sz:=1) rfl (fun _=>rfl) (lie_I H) h5
 obtain ⟨s3,l3,rfl,e3,k3⟩:=lie_elems (sz:=8) rfl (fun _=>rfl) (lie_ev H) h6
 exact ⟨⟨⟨s1⟩,s2,s3⟩,⟨⟨l1,dr⟩,su,te,pe,l2,l3⟩,rfl,⟨e1,e2,e3⟩,k1,k2,k3⟩
end Go.Gm.Tryz
end
section
namespace Go.Gm.Tryz
open Go.Proofs
theorem allF:F.AllP (fun f G=>FnOk Tryz.prog T f G) (fun k=>k):=
 ⟨trivial,⟨trivial,⟨fok3,⟨fok7,⟨fok15,⟨fok31,⟨fok63,⟨fok127,trivial,trivial⟩,trivial⟩,⟨fok95,⟨fok159,trivial,trivial⟩,trivial⟩⟩,⟨fok47,⟨fok79,trivial,trivial⟩,⟨fok111,trivial,trivial⟩⟩⟩,⟨fok23,⟨fok39,⟨fok71,⟨fok135,trivial,trivial⟩,trivial⟩,⟨fok103,⟨fok167,trivial,trivial⟩,trivial⟩⟩,⟨fok55,⟨fok87,trivial,trivial⟩,⟨fok119,trivial,trivial⟩⟩⟩⟩,⟨fok11,⟨fok19,⟨fok35,⟨fok67,⟨fok131,trivial,trivial⟩,trivial⟩,⟨fok99,⟨fok163,trivial,trivial⟩,trivial⟩⟩,⟨fok51,⟨fok83,trivial,trivial⟩,⟨fok115,trivial,trivial⟩⟩⟩,⟨fok27,⟨fok43,⟨fok75,⟨fok139,trivial,trivial⟩,trivial⟩,⟨fok107,⟨fok171,trivial,trivial⟩,trivial⟩⟩,⟨fok59,⟨fok91,⟨fok155,trivial,trivial⟩,trivial⟩,⟨fok123,trivial,trivial⟩⟩⟩⟩⟩,⟨fok5,⟨fok9,⟨fok17,⟨fok33,⟨fok65,⟨fok129,trivial,trivial⟩,trivial⟩,⟨fok97,⟨fok161,trivial,trivial⟩,trivial⟩⟩,⟨fok49,⟨fok81,trivial,trivial⟩,⟨fok113,trivial,trivial⟩⟩⟩,⟨fok25,⟨fok41,⟨fok73,⟨fok137,trivial,trivial⟩,trivial⟩,⟨fok105,⟨fok169,trivial,trivial⟩,trivial⟩⟩,⟨fok57,⟨fok89,trivial,trivial⟩,⟨fok121,trivial,trivial⟩⟩⟩⟩,⟨fok13,⟨fok21,⟨fok37,⟨fok69,⟨fok133,trivial,trivial⟩,trivial⟩,⟨fok101,⟨fok165,trivial,trivial⟩,trivial⟩⟩,⟨fok53,⟨fok85,trivial,trivial⟩,⟨fok117,trivial,trivial⟩⟩⟩,⟨fok29,⟨fok45,⟨fok77,trivial,trivial⟩,⟨fok109,⟨fok173,trivial,trivial⟩,trivial⟩⟩,⟨fok61,⟨fok93,⟨fok157,trivial,trivial⟩,trivial⟩,⟨fok125,trivial,trivial⟩⟩⟩⟩⟩⟩,⟨fok2,⟨fok4,⟨fok8,⟨fok16,⟨fok32,⟨fok64,⟨fok128,trivial,trivial⟩,trivial⟩,⟨fok96,⟨fok160,trivial,trivial⟩,trivial⟩⟩,⟨fok48,⟨fok80,trivial,trivial⟩,⟨fok112,trivial,trivial⟩⟩⟩,⟨fok24,⟨fok40,⟨fok72,⟨fok136,trivial,trivial⟩,trivial⟩,⟨fok104,⟨fok168,trivial,trivial⟩,trivial⟩⟩,⟨fok56,⟨fok88,trivial,trivial⟩,⟨fok120,trivial,trivial⟩⟩⟩⟩,⟨fok12,⟨fok20,⟨fok36,⟨fok68,⟨fok132,trivial,trivial⟩,trivial⟩,⟨fok100,⟨fok164,trivial,trivial⟩,trivial⟩⟩,⟨trivial,⟨fok84,trivial,trivial⟩,⟨fok116,trivial,trivial⟩⟩⟩,⟨fok28,⟨fok44,⟨fok76,trivial,trivial⟩,⟨fok108,⟨fok172,trivial,trivial⟩,trivial⟩⟩,⟨fok60,⟨fok92,⟨fok156,trivial,trivial⟩,trivial⟩,⟨fok124,trivial,trivial⟩⟩⟩⟩⟩,⟨fok6,⟨fok10,⟨fok18,⟨fok34,⟨fok66,⟨fok130,trivial,trivial⟩,trivial⟩,⟨fok98,⟨fok162,trivial,trivial⟩,trivial⟩⟩,⟨fok50,⟨fok82,trivial,trivial⟩,⟨fok114,trivial,trivial⟩⟩⟩,⟨fok26,⟨fok42,⟨fok74,⟨fok138,trivial,trivial⟩,trivial⟩,⟨fok106,⟨fok170,trivial,trivial⟩,trivial⟩⟩,⟨fok58,⟨fok90,trivial,trivial⟩,⟨fok122,trivial,trivial⟩⟩⟩⟩,⟨fok14,⟨fok22,⟨fok38,⟨trivial,⟨fok134,trivial,trivial⟩,trivial⟩,⟨fok102,⟨fok166,trivial,trivial⟩,trivial⟩⟩,⟨fok54,⟨fok86,trivial,trivial⟩,⟨fok118,trivial,trivial⟩⟩⟩,⟨fok30,⟨fok46,⟨fok78,trivial,trivial⟩,⟨fok110,trivial,trivial⟩⟩,⟨fok62,⟨fok94,⟨fok158,trivial,trivial⟩,trivial⟩,⟨fok126,trivial,trivial⟩⟩⟩⟩⟩⟩⟩
theorem fnF:∀f G,F.get f=some G→FnOk Tryz.prog T f G:=fun f G h=>Tr.allP_spec allF f G h
end Go.Gm.Tryz
end
section
namespace Go.Gm
structure OS where
 v:Value
 ty:TypeId
 sz:Nat
 ls:List (List Value)
def OS.In (H:GH) (N:Nat) (o:OS):Prop:=OwnL H N o.v o.ty o.sz id o.ls
theorem flatMap_id_map {α:Type} (enc:α→List Value) (l:List α):(l.map enc).flatMap id=l.flatMap enc:=by
 rw [List.flatMap_def,List.flatMap_def,List.map_id]
theorem ownL_id {α:Type} {H:GH} {N:Nat} {v:Value} {ty:TypeId} {sz:Nat} {enc:α→List Value} {l:List α}:OwnL H N v ty sz id (l.map enc)↔OwnL H N v ty sz enc l:=by
 unfold OwnL
 rw [flatMap_id_map,List.length_map,List.map_eq_nil_iff]
structure RecIn (H:GH) (N sg:Nat) (ty:TypeId) (pre:List Value) (os:List OS):Prop where
 g:H.get sg=some (.arr { cells:=pre++os.map (·.v),ty:=ty })
 sgl:N≤sg∧sg<H.next
 own:∀o∈os,o.In H N∧o.ty≠ty
 dis:∀(i j:Nat) (hi:i<os.length) (hj:j<os.length),i≠j→∀k,blkOf os[i].v=some k→blkOf os[j].v≠some k
def RecOwn (sg:Nat) (os:List OS) (g:Nat):Prop:=g=sg∨∃o∈os,blkOf o.v=some g
section
variable {H H1:GH} {N sg:Nat} {ty:TypeId} {pre:List Value} {os:List OS}
theorem RecIn.at (h:RecIn H N sg ty pre os) {k:Nat} (hk:k<os.length):os[k].In H N:=(h.own _ (List.getElem_mem hk)).1
theorem RecIn.ne (h:RecIn H N sg ty pre os) {k:Nat} (hk:k<os.length):blkOf os[k].v≠some sg:=by
 intro hc
 obtain ⟨A,h1,h2⟩:=(h.at hk).blk_ty hc
 rw [h.g] at h1; cases h1
 exact (h.own _ (List.getElem_mem hk)).2 h2.symm
theorem RecIn.lt (h:RecIn H N sg ty pre os) {g:Nat} (hg:RecOwn sg os g):N≤g∧g<H.next:=by
 rcases hg with rfl|⟨o,ho,hb⟩
 ·exact h.sgl
 ·exact (h.own o ho).1.blk_lt hb
theorem RecIn.frame (h:RecIn H N sg ty pre os) (hn:H.next≤H1.next) (hs:∀g,RecOwn sg os g→H1.get g=H.get g):RecIn H1 N sg ty pre os:=
 ⟨by rw [hs sg (.inl rfl)]; exact h.g,⟨h.sgl.1,Nat.lt_of_lt_of_le h.sgl.2 hn⟩,fun o ho=>⟨(h.own o ho).1.frame hn fun g hg=>hs g (.inr ⟨o,ho,hg⟩),(h.own o ho).2⟩,h.dis⟩
theorem RecIn.sub (h:RecIn H N sg ty pre os) (hs:Sub H H1):RecIn H1 N sg ty pre os:=h.frame hs.1 fun g hg=>hs.2 g (h.lt hg).2
theorem set_at {α:Type} {l:List α} {k j:Nat} {x:α} (hj:j<(l.set k x).length):(l.set k x)[j]=if k=j then x else l[j]'(by simpa using hj):=by
 rw [List.getElem_set]
theorem RecIn.wr (h:RecIn H N sg ty pre os) {k:Nat} (hk:k<os.length) {ls:List (List Value)} (hn:H.next≤H1.next) (hx:OwnL H1 N os[k].v os[k].ty os[k].sz id ls) (hs:∀j,j<H.next→blkOf os[k].v≠some j→H1.get j=H.get j):
  RecIn H1 N sg ty pre (os.set k { os[k] with ls:=ls }):=by
 have hv:(os.set k { os[k] with ls:=ls }).map (·.v)=os.map (·.v):=by
  apply List.ext_getElem (by simp)
  intro j h1 h2
  simp only [List.getElem_map,set_at]
  split
  ·rename_i e; subst e; rfl
  ·rfl
 have hvj:∀j (hj:j<(os.set k { os[k] with ls:=ls }).length),((os.set k { os[k] with ls:=ls })[j]).v=(os[j]'(by simpa using hj)).v:=fun j hj=>by
  rw [set_at]; split
  ·rename_i e; subst e; rfl
  ·rfl
 refine ⟨by rw [hv,hs sg h.sgl.2 (h.ne hk)]; exact h.g,⟨h.sgl.1,Nat.lt_of_lt_of_le h.sgl.2 hn⟩,fun o ho=>?_,fun i j hi hj hij g hg=>?_⟩
 ·obtain ⟨j,hj,rfl⟩:=List.mem_iff_getElem.1 ho
  have hj':j<os.length:=by simpa using hj
  rw [set_at]
  split
  ·exact ⟨hx,(h.own _ (List.getElem_mem hk)).2⟩
  ·rename_i hkj
   exact ⟨(h.at hj').frame hn fun g hg=>hs g ((h.at hj').blk_lt hg).2 (h.dis j k hj' hk (Ne.symm hkj) g hg),(h.own _ (List.getElem_mem hj')).2⟩
 ·rw [hvj] at hg ⊢
  exact h.dis i j (by simpa using hi) (by simpa using hj) hij g hg
theorem RecIn.upd (h:RecIn H N sg ty pre os) {k:Nat} (hk:k<os.length) {v:Value} {ls:List (List Value)} (hn:H.next≤H1.next) (hx:OwnL H1 N v os[k].ty os[k].sz id ls) (hs:∀j,j<H.next→blkOf os[k].v≠some j→H1.get j=H.get j) (hb:∀j,blkOf v=some j→blkOf os[k].v=some j∨H.next≤j):
  RecIn (H1.put sg (.arr { cells:=pre++(os.set k { os[k] with v:=v,ls:=ls }).map (·.v),ty:=ty })) N sg ty pre (os.set k { os[k] with v:=v,ls:=ls }):=by
 have hself:∀j,blkOf v=some j→j≠sg:=fun j hj hc=>(hb j hj).elim (fun h1=>h.ne hk (by rw [←hc]; exact h1)) fun h1=>by have:=h.sgl; omega
 have hoth:∀j (hj:j<os.length),k≠j→∀g,blkOf os[j].v=some g→blkOf v≠some g:=fun j hj hkj g hg hc=>
  (hb g hc).elim (h.dis j k hj hk (Ne.symm hkj) g hg) fun h1=>by have:=((h.at hj).blk_lt hg).2; omega
 refine ⟨GH.get_put_same _ _,⟨h.sgl.1,Nat.lt_of_lt_of_le h.sgl.2 hn⟩,fun o ho=>?_,fun i j hi hj hij g hg=>?_⟩
 ·obtain ⟨j,hj,rfl⟩:=List.mem_iff_getElem.1 ho
  have hj':j<os.length:=by simpa using hj
  rw [set_at]
  split
  ·exact ⟨OwnL.frame hx (Nat.le_refl _) fun g hg=>GH.get_put_ne _ _ (hself g hg),(h.own _ (List.getElem_mem hk)).2⟩
  ·rename_i hkj
   refine ⟨(h.at hj').frame hn fun g hg=>?_,(h.own _ (List.getElem_mem hj')).2⟩
   rw [GH.get_put_ne _ _ (fun hc=>h.ne hj' (by rw [←hc]; exact hg))]
   exact hs g ((h.at hj').blk_lt hg).2 (h.dis j k hj' hk (Ne.symm hkj) g hg)
 ·rw [set_at] at hg ⊢
  have hi':i<os.length:=by simpa using hi
  have hj':j<os.length:=by simpa using hj
  split at hg
  ·rename_i e1
   subst e1
   rw [if_neg hij]
   exact fun hc=>hoth j hj' hij g hc hg
  ·rename_i e1
   split
   ·exact hoth i hi' e1 g hg
   ·exact h.dis i j hi' hj' hij g hg
theorem RecOwn.upd {k:Nat} (hk:k<os.length) {v:Value} {ls:List (List Value)} {M:Nat} (hb:∀j,blkOf v=some j→blkOf os[k].v=some j∨M≤j) {g:Nat} (hg:RecOwn sg (os.set k { os[k] with v:=v,ls:=ls }) g):RecOwn sg os g∨M≤g:=by
 rcases hg with hg|⟨o,ho,hg⟩
 ·exact .inl (.inl hg)
 ·rcases List.mem_or_eq_of_mem_set ho with ho|rfl
  ·exact .inl (.inr ⟨o,ho,hg⟩)
  ·exact (hb g hg).imp (fun h=>.inr ⟨_,List.getElem_mem hk,h⟩) id
theorem RecOwn.wr {k:Nat} (hk:k<os.length) {ls:List (List Value)} {g:Nat}:RecOwn sg (os.set k { os[k] with ls:=ls }) g↔RecOwn sg os g:=by
 have hvj:∀j (hj:j<os.length),((os.set k { os[k] with ls:=ls })[j]'(by simpa using hj)).v=os[j].v:=fun j hj=>by
  rw [set_at]; split
  ·rename_i e; subst e; rfl
  ·rfl
 constructor
 ·rintro (hg|⟨o,ho,hg⟩)
  ·exact .inl hg
  ·obtain ⟨j,hj,rfl⟩:=List.mem_iff_getElem.1 ho
   have hj':j<os.length:=by simpa using hj
   rw [hvj j hj'] at hg
   exact .inr ⟨_,List.getElem_mem hj',hg⟩
 ·rintro (hg|⟨o,ho,hg⟩)
  ·exact .inl hg
  ·obtain ⟨j,hj,rfl⟩:=List.mem_iff_getElem.1 ho
   exact .inr ⟨_,List.getElem_mem (by simpa using hj:j<(os.set k { os[k] with ls:=ls }).length),by rw [hvj j hj]; exact hg⟩
end
end Go.Gm
end
section
namespace Go.Gm.Tryz
open Go.Proofs
theorem sum_bd:∀ {l:List Int},(∀x∈l,0≤x∧x≤1000)→0≤l.sum∧l.sum≤1000*l.length:=by
 intro l
 induction l with
 |nil=>intro _; simp
 |cons x l ih=>
  intro h
  have h1:=h x (by simp)
  have h2:=ih fun y hy=>h y (by simp [hy])
  simp only [List.sum_cons,List.length_cons]
  omega
theorem givesI_bd {t:Tbl} (h:isTableB t=true) {l:List Int} (hl:SetOk t l):0≤givesI t l∧givesI t l≤6000:=by
 have h1:=hl.1
 have:=sum_bd (l:=l.map fun n=>(rowAt t n).gives) (fun x hx=>by
  obtain ⟨n,hn,rfl⟩:=List.mem_map.1 hx
  have h2:=hl.2 n hn
  have:=(table_rows h).2.2 _ (row_mem h2.1 h2.2)
  omega)
 simp only [List.length_map] at this
 unfold givesI
 omega
theorem allSets_ok {t:Tbl} {s:List Int} (h:s∈allSets t.rows.length):SetOk t s:=allSets_mem h
theorem waterI_bd (t:Tbl) (sys u:Int): -1≤waterI t sys u∧waterI t sys u≤6000:=by
 unfold waterI
 split
 ·rename_i hs
  simp only [setArgs,Bool.and_eq_true] at hs
  split
  ·rename_i s hf
   have:=givesI_bd hs.1.1 (allSets_ok (firstSet_mem hf).1)
   omega
  ·omega
 ·omega
def useG (b:Book) (g:GSt):Int:=if g.is=3 then 0 else waterI b.tbl g.system g.units
def usedI (b:Book) (s:Stand):Int:=(s.grants.map (useG b)).sum
theorem useG_bd (b:Book) (g:GSt): -1≤useG b g∧useG b g≤6000:=by
 unfold useG
 split
 ·omega
 ·exact waterI_bd _ _ _
theorem used_bd (b:Book):∀l:List GSt,-(l.length:Int)≤(l.map (useG b)).sum∧(l.map (useG b)).sum≤6000*l.length:=by
 intro l
 induction l with
 |nil=>simp
 |cons g l ih=>
  have:=useG_bd b g
  simp only [List.map_cons,List.sum_cons,List.length_cons]
  omega
theorem free_fold (b:Book):∀(l:List GSt) (n:Int),l.length≤1000→ -7000000≤n - 6000*l.length→n+l.length≤7000000→l.foldl (freeStep b) n=n - (l.map (useG b)).sum:=by
 intro l
 induction l with
 |nil=>intro n _ _ _; simp
 |cons g l ih=>
  intro n hl h1 h2
  simp only [List.length_cons] at hl h1 h2
  have hb:=useG_bd b g
  simp only [List.foldl_cons,List.map_cons,List.sum_cons]
  have e:freeStep b n g=n - useG b g:=by
   unfold freeStep useG at*
   split
   ·omega
   ·rename_i h3
    rw [if_neg h3] at hb
    rw [wrap64 _ (by omega) (by omega)]
  rw [e,ih _ (by omega) (by omega) (by omega)]
  omega
theorem freeI_eq {b:Book} (hs:0≤b.supply∧b.supply≤10000) {s:Stand} (hl:s.grants.length≤1000):freeI b s=b.supply - usedI b s:=
 free_fold b s.grants b.supply hl (by omega) (by omega)
theorem serve_ind {b:Book} {I:Stand→Prop} (h:∀s w ws,I s→s.waits=w::ws→waterI b.tbl (evAt b w).system (evAt b w).units≤freeI b s→I { addG s (evAt b w).person (-1) (evAt b w).system (evAt b w).units with waits:=ws }):∀ {s:Stand},I s→I (serve b s):=by
 have:∀(n:Nat) (s:Stand),I s→I (serveS b n s):=by
  intro n
  induction n with
  |zero=>intro s hs; exact hs
  |succ n ih=>
   intro s hs
   simp only [serveS]
   cases hw:s.waits with
   |nil=>exact hs
   |cons w ws=>
    simp only
    split
    ·exact hs
    ·exact ih _ (h s w ws hs hw (by omega))
 exact fun {s} hs=>this _ s hs
theorem pass_ind {b:Book} {d:Int} {I:Stand→Prop} (h:∀s w ws,I s→s.waits=w::ws→waterI b.tbl (evAt b w).system (evAt b w).units≤freeI b s→I { addG s (evAt b w).person (-1) (evAt b w).system (evAt b w).units with waits:=ws })
  (he:∀s (g:Nat),I s→g<s.grants.length→(gAt s g).is=2→findAt s d=g→I (endG s g (IntKind.i64.wrap (lastAt s g+1)))):∀ {s:Stand},I s→I (pass b s d):=by
 have:∀(n:Nat) (s:Stand),I s→I (passS b d n s):=by
  intro n
  induction n with
  |zero=>intro s hs; exact hs
  |succ n ih=>
   intro s hs
   simp only [passS]
   split
   ·exact hs
   ·rename_i h0
    obtain ⟨p1,p2,p3⟩:=findAt_ok s d
    obtain ⟨j,hj⟩:=Int.eq_ofNat_of_zero_le (show 0≤findAt s d by omega)
    rw [hj] at p2 p3 ⊢
    refine ih _ (serve_ind h ?_)
    have:=he s j hs (by omega) (by have:=p3 (by omega); simpa [gAt] using this) hj
    simpa using this
 exact fun {s} hs=>this _ s hs
theorem ev_units {b:Book} {e:Ev} (h:isEventB b e=true) (hk:e.kind=1∨e.kind=2∨e.kind=8):isSystemI e.system=true∧1≤e.units∧e.units≤360:=by
 unfold isEventB at h
 simp only [Bool.and_eq_true] at h
 obtain ⟨_,h⟩:=h
 rcases hk with hk|hk|hk
 ·simp [hk,isUnitsI,inI] at h
  exact h.1.2
 ·simp [hk,isUnitsI,inI] at h
  exact h.1.2
 ·simp [hk,isUnitsI,inI] at h
  exact h.1.2
theorem ev_units5 {b:Book} {e:Ev} (h:isEventB b e=true) (hk:e.kind=5):1≤e.units∧e.units≤360:=by
 unfold isEventB at h
 simp only [Bool.and_eq_true] at h
 obtain ⟨_,h⟩:=h
 simp [hk,isUnitsI,inI] at h
 exact h.1.1.2
structure Wg (b:Book) (s:Stand):Prop where
 gr:∀g∈s.grants,isSystemI g.system=true∧1≤g.units∧g.units≤360
 wa:∀w∈s.waits,isSystemI (evAt b w).system=true∧1≤(evAt b w).units∧(evAt b w).units≤360
section
variable {b:Book} {s:Stand}
theorem Wg.serve1 (s:Stand) (w:Int) (ws:List Int) (h:Wg b s) (hw:s.waits=w::ws):Wg b { addG s (evAt b w).person (-1) (evAt b w).system (evAt b w).units with waits:=ws }:=by
 refine ⟨fun g hg=>?_,fun v hv=>h.wa v (by rw [hw]; exact List.mem_cons_of_mem _ hv)⟩
 simp only [addG,List.mem_append,List.mem_singleton] at hg
 rcases hg with hg|rfl
 ·exact h.gr g hg
 ·exact h.wa w (by rw [hw]; simp)
theorem Wg.serve (h:Wg b s):Wg b (serve b s):=serve_ind (fun s w ws h hw _=>Wg.serve1 s w ws h hw) h
theorem gAt_mem {s:Stand} {i:Nat} (h:i<s.grants.length):gAt s i∈s.grants:=by
 unfold gAt; rw [getD_at h]; exact List.getElem_mem h
theorem Wg.set (h:Wg b s) {i:Nat} {y:GSt} (hy:isSystemI y.system=true∧1≤y.units∧y.units≤360) {t:Stand} (ht:t.grants=s.grants.set i y) (hw:t.waits=s.waits):Wg b t:=
 ⟨fun g hg=>by
  rw [ht] at hg
  rcases List.mem_or_eq_of_mem_set hg with hg|rfl
  ·exact h.gr g hg
  ·exact hy,fun w hw'=>h.wa w (hw▸hw')⟩
theorem Wg.endG (h:Wg b s) {g:Nat} (hg:g<s.grants.length) (d:Int):Wg b (endG s g d):=
 h.set (i:=g) (y:= { s.grants.getD g default with is:=3,person:= -1 }) (h.gr (gAt s g) (gAt_mem hg)) rfl rfl
theorem Wg.endS (h:Wg b s) {g:Nat} (hg:g<s.grants.length) (d:Int):Wg b (endS b s g d):=(h.endG hg d).serve
theorem Wg.pass (h:Wg b s) (d:Int):Wg b (pass b s d):=pass_ind (fun s w ws h hw _=>Wg.serve1 s w ws h hw) (fun _s _g h hg _ _=>h.endG hg _) h
theorem Wg.add (h:Wg b s) (p e:Int) {sy u:Int} (hy:isSystemI sy=true∧1≤u∧u≤360):Wg b (addG s p e sy u):=by
 refine ⟨fun g hg=>?_,h.wa⟩
 simp only [addG,List.mem_append,List.mem_singleton] at hg
 rcases hg with hg|rfl
 ·exact h.gr g hg
 ·exact hy
theorem Wg.map (h:Wg b s) {f:GSt→GSt} (hf:∀g,(f g).system=g.system∧(f g).units=g.units) {t:Stand} (ht:t.grants=s.grants.map f) (hw:t.waits=s.waits):Wg b t:=
 ⟨fun g hg=>by
  rw [ht] at hg
  obtain ⟨x,hx,rfl⟩:=List.mem_map.1 hg
  rw [(hf x).1,(hf x).2]
  exact h.gr x hx,fun w hw'=>h.wa w (hw▸hw')⟩
theorem Wg.own (h:Wg b s) (n:Nat) (p:Int):Wg b (ownS s n p):=h.map (f:=fun x=>if x.estate=(n:Int) then { x with person:=p } else x) (fun g=>by split<;>exact ⟨rfl,rfl⟩) rfl rfl
theorem fold_ind {α:Type} {I:Stand→Prop} {f:Stand→α→Stand}:∀ {l:List α} {s:Stand},I s→(∀s x,x∈l→I s→I (f s x))→I (l.foldl f s):=by
 intro l
 induction l with
 |nil=>intro s hs _; exact hs
 |cons x l ih=>intro s hs hf; exact ih (hf s x (by simp) hs) fun s y hy=>hf s y (by simp [hy])
theorem endStep_len (b:Book) (e:Ev) (s:Stand) (i:Nat):s.grants.length≤(endStep b e s i).grants.length:=by
 unfold endStep
 split
 ·exact endS_len b s i e.day
 ·exact Nat.le_refl _
theorem die_ind {b:Book} {e:Ev} {I:Stand→Prop} (hA:∀s,I s→I (dieA s e)) (hB:∀s (i:Nat),I s→i<s.owners.length→oAt s i=e.person→I (ownS s i e.other)) (hC:∀s,I s→I (dieC b s e))
  (hD:∀s (i:Nat),I s→i<s.grants.length→(gAt s i).is=2→(gAt s i).person=e.person→I (endS b s i e.day))
  (hE:∀s (i:Nat),I s→i<s.grants.length→(gAt s i).is=1→(gAt s i).estate<0→(gAt s i).person=e.person→I { s with grants:=s.grants.set i { gAt s i with is:=2,person:=e.other },last:=s.last.set i (IntKind.i64.wrap (e.day+b.term)) }) {s:Stand} (h:I s):I (dieS b s e):=by
 have h1:=hA s h
 have h2:I (dieB (dieA s e) e)∧(dieB (dieA s e) e).owners.length=(dieA s e).owners.length:=by
  unfold dieB
  refine fold_ind (I:=fun t=>I t∧t.owners.length=(dieA s e).owners.length) ⟨h1,rfl⟩ fun t i hi ht=>?_
  have hi':=List.mem_range.1 hi
  unfold ownStep
  split
  ·rename_i ho; exact ⟨hB t i ht.1 (by omega) ho,by simpa [ownS] using ht.2⟩
  ·exact ht
 have h3:=hC _ h2.1
 obtain ⟨s3,hC3⟩:∃s3,dieC b (dieB (dieA s e) e) e=s3:=⟨_,rfl⟩
 rw [hC3] at h3
 have h4:I (dieD b s3 e):=by
  unfold dieD
  refine (fold_ind (I:=fun t=>I t∧s3.grants.length≤t.grants.length) ⟨h3,Nat.le_refl _⟩ fun t i hi ht=>?_).1
  have hi':=List.mem_range.1 hi
  refine ⟨?_,Nat.le_trans ht.2 (endStep_len b e t i)⟩
  unfold endStep
  split
  ·rename_i hc; exact hD t i ht.1 (by omega) hc.1 hc.2
  ·exact ht.1
 have hS:dieS b s e=dieE b (dieD b (dieC b (dieB (dieA s e) e) e) e) e:=rfl
 rw [hS,hC3]
 generalize dieD b s3 e=s4 at h4 ⊢
 unfold dieE
 refine (fold_ind (I:=fun t=>I t∧t.grants.length=s4.grants.length) ⟨h4,rfl⟩ fun t i hi ht=>?_).1
 have hi':=List.mem_range.1 hi
 unfold heirStep
 split
 ·rename_i hc; exact ⟨hE t i ht.1 (by omega) hc.1 hc.2.1 hc.2.2,by simpa using ht.2⟩
 ·exact ht
theorem Wg.die (h:Wg b s) (e:Ev):Wg b (dieS b s e):=
 die_ind (I:=Wg b) (fun _s h=>⟨h.gr,h.wa⟩) (fun _s i h _ _=>h.own i e.other) (fun _s h=>⟨h.gr,fun w hw=>h.wa w (List.mem_filter.1 hw).1⟩) (fun _s _i h hi _ _=>h.endS hi e.day)
  (fun s i h hi _ _ _=>h.set (i:=i) (y:= { gAt s i with is:=2,person:=e.other }) (h.gr (gAt s i) (gAt_mem hi)) rfl rfl) h
theorem Wg.do_ (h:Wg b s) {e:Ev} (he:isEventB b e=true) (hg:goesB b s e=true) (hk:1≤e.kind∧e.kind≤8) (h0:0≤e.grant) {n:Nat} (hn:evAt b n=e):Wg b (doS b s e n):=by
 unfold doS
 by_cases k1:e.kind=1
 ·rw [if_pos k1]; exact h.add _ _ (ev_units he (.inl k1))
 rw [if_neg k1]
 by_cases k2:e.kind=2
 ·rw [if_pos k2]; exact h.add _ _ (ev_units he (.inr (.inl k2)))
 rw [if_neg k2]
 by_cases k3:e.kind=3
 ·rw [if_pos k3]; exact h.die e
 rw [if_neg k3]
 by_cases k4:e.kind=4
 ·rw [if_pos k4]; exact h.own _ _
 rw [if_neg k4]
 by_cases k5:e.kind=5
 ·rw [if_pos k5]
  have hu:=ev_units5 he k5
  unfold goesB at hg
  simp only [k5] at hg
  simp [divB] at hg
  obtain ⟨g1,_,g3,_⟩:=hg
  have hm:=h.gr (gAt s e.grant.toNat) (gAt_mem (by omega))
  have hgd:s.grants[e.grant.toNat]?.getD default=gAt s e.grant.toNat:=by simp [gAt]
  rw [hgd] at g3
  refine Wg.add (s:= { s with owners:=s.owners++ [e.person],grants:=s.grants.set e.grant.toNat { s.grants.getD e.grant.toNat default with units:=IntKind.i64.wrap ((s.grants.getD e.grant.toNat default).units - e.units) } }) ?_ _ _ ⟨hm.1,hu⟩
  refine h.set (i:=e.grant.toNat) (y:= { gAt s e.grant.toNat with units:=IntKind.i64.wrap ((gAt s e.grant.toNat).units - e.units) }) ⟨hm.1,?_⟩ rfl rfl
  simp only
  rw [wrap64 _ (by omega) (by omega)]
  omega
 rw [if_neg k5]
 by_cases k6:e.kind=6
 ·rw [if_pos k6]; exact h.map (f:=joinF e) (fun g=>by unfold joinF; split<;>exact ⟨rfl,rfl⟩) rfl rfl
 rw [if_neg k6]
 by_cases k7:e.kind=7
 ·rw [if_pos k7]
  unfold goesB at hg
  simp only [k7] at hg
  simp at hg
  exact h.set (i:=e.grant.toNat) (y:= { s.grants.getD e.grant.toNat default with is:=1 }) (h.gr (gAt s e.grant.toNat) (gAt_mem (by omega))) rfl rfl
 rw [if_neg k7]
 refine ⟨h.gr,fun w hw=>?_⟩
 simp only [askS,List.mem_append,List.mem_singleton] at hw
 rcases hw with hw|rfl
 ·exact h.wa w hw
 ·rw [hn]; exact ev_units he (.inr (.inr (by omega)))
theorem Wg.start (b:Book):Wg b (start b):=⟨fun g hg=>by simp [Tryz.start] at hg,fun w hw=>by simp [Tryz.start] at hw⟩
end
end Go.Gm.Tryz
end
section
namespace Go.Gm.Tryz
open Go.Proofs
theorem r3Units_con (r:Row) (s:Int) (H:GH):C 138 [rowV r,vi s] H (vi (unitI r s)) H:=by
 refine con_wp tok mix fok138 (F:=g138) (c:=_) rfl (n:=11) rfl (rs:= [.tmp 4]) rfl (anch_closed rfl) ?_
 simp
 refine wpB_dec (fun h=>?_) (fun h=>?_)
 ·simp [unitI,h]
 ·simp [unitI,h]
theorem sum_take_map (f:Int→Int) (l:List Int) {i:Nat} (h:i<l.length):((l.take (i+1)).map f).sum=((l.take i).map f).sum+f l[i]:=by
 rw [List.take_succ_eq_append_getElem h,List.map_append,List.sum_append]
 simp
theorem sum_pre_bd (f:Int→Int) (l:List Int) (h:∀x∈l,0≤f x∧f x≤1000) (i:Nat):0≤((l.take i).map f).sum∧((l.take i).map f).sum≤1000*l.length:=by
 have:=sum_bd (l:=(l.take i).map f) (fun x hx=>by
  obtain ⟨n,hn,rfl⟩:=List.mem_map.1 hx
  exact h n (List.mem_of_mem_take hn))
 have hl:(l.take i).length≤l.length:=by simp; omega
 simp only [List.length_map] at this
 omega
theorem r3Gives_con (l:TLoc) (t:Tbl) (ht:isTableB t=true) (set:List Int) (hs:SetOk t set) (a:Option Addr) (fl:Nat) (H:GH) (hT:TblIn H l t) (hr:Elems H a 1 encI set):C 133 [tblV l t,.slice a set.length fl] H (vi (givesI t set)) H:=by
 rcases l with ⟨⟨ra,rf⟩⟩
 refine con_wp tok mix fok133 (F:=g133) (c:=_) rfl (n:=25) rfl (rs:= [.tmp 4]) rfl (anch_closed rfl) ?_
 simp
 generalize hH1:H.push _=H1
 have hs1:Sub H H1:=by subst hH1; simp
 have hg1:H1.get H.next=some (.arr { cells:= [.slice ra t.rows.length rf,vi t.draw],ty:=24 }):=by subst hH1; simp
 have hn1:H.next<H1.next:=by subst hH1; simp
 have hr:=hr.mono hs1
 have hT:=hT.mono hs1
 have hl6:=hs.1
 have hbd:=sum_pre_bd (fun n=>(rowAt t n).gives) set fun x hx=>by
  have hm:=hs.2 x hx
  have:=(table_rows ht).2.2 _ (row_mem hm.1 hm.2)
  omega
 clear hH1
 refine wp_up tok mix (by kernel_rfl) set.length (fun i ρ m H'=>ρ 1=.slice a set.length fl∧ρ 2=.pointer (some (ga H.next 0 0))∧ρ 5=vi ((set.take i).map fun n=>(rowAt t n).gives).sum∧ρ 6=vi i∧m= []∧H'=H1) (i0:=0) (by omega) (by simp) ?_
 rintro i ρ m H' hi ⟨e1,e2,e5,e6,rfl,rfl⟩
 simp [e1,e6]
 refine wpB_dec (fun hlt=>?_) (fun hge=>?_)
 ·obtain ⟨b,rfl,hb,hrd⟩:=hr.at i hlt
  have hm:=hs.2 _ (List.getElem_mem hlt)
  obtain ⟨rb,rfl,hrb,hrrd⟩:=(Elems.at hT) (set[i]).toNat (by omega)
  have er:rowAt t set[i]=t.rows[(set[i]).toNat]:=getD_at (by omega)
  have h1:=hbd i
  have h2:=hbd (i+1)
  rw [sum_take_map _ _ hlt] at h2
  simp (disch:=omega) [e1,e2,e5,e6,hlt,hrd,hg1,hrrd]
  simp only [←er]
  have e:=sum_take_map (fun n=>(rowAt t n).gives) set hlt
  simp (disch:=omega) [wrap64]
  simp only [List.map_take] at e h1 h2 ⊢
  rw [e,wrap64 _ (by omega) (by omega)]
 ·have hi':i=set.length:=by omega
  subst hi'
  rw [List.take_length] at e5
  simp [e5,givesI]
  exact hs1
theorem r3Counts_con (l:TLoc) (t:Tbl) (ht:isTableB t=true) (s:Int) (set:List Int) (hs:SetOk t set) (a:Option Addr) (fl:Nat) (H:GH) (hT:TblIn H l t) (hr:Elems H a 1 encI set):C 132 [tblV l t,vi s,.slice a set.length fl] H (vi (countsI t s set)) H:=by
 rcases l with ⟨⟨ra,rf⟩⟩
 refine con_wp tok mix fok132 (F:=g132) (c:=_) rfl (n:=28) rfl (rs:= [.tmp 6]) rfl (anch_closed rfl) ?_
 simp
 generalize hH1:H.push _=H1
 have hs1:Sub H H1:=by subst hH1; simp
 have hg1:H1.get H.next=some (.arr { cells:= [.slice ra t.rows.length rf,vi t.draw],ty:=24 }):=by subst hH1; simp
 have hn1:H.next<H1.next:=by subst hH1; simp
 have hr:=hr.mono hs1
 have hT:=hT.mono hs1
 have hl6:=hs.1
 have hbd:=sum_pre_bd (fun n=>unitI (rowAt t n) s) set fun x hx=>by
  have hm:=hs.2 x hx
  have:=unit_bd ht hm.1 hm.2 s
  omega
 clear hH1
 refine wp_up tok mix (by kernel_rfl) set.length (fun i ρ m H'=>ρ 1=vi s∧ρ 2=.slice a set.length fl∧ρ 3=.pointer (some (ga H.next 0 0))∧ρ 7=vi ((set.take i).map fun n=>unitI (rowAt t n) s).sum∧ρ 8=vi i∧m= []∧H'=H1) (i0:=0) (by omega) (by simp) ?_
 rintro i ρ m H' hi ⟨e1,e2,e3,e7,e8,rfl,rfl⟩
 simp [e2,e8]
 refine wpB_dec (fun hlt=>?_) (fun hge=>?_)
 ·obtain ⟨b,rfl,hb,hrd⟩:=hr.at i hlt
  have hm:=hs.2 _ (List.getElem_mem hlt)
  obtain ⟨rb,rfl,hrb,hrrd⟩:=(Elems.at hT) (set[i]).toNat (by omega)
  have er:rowAt t set[i]=t.rows[(set[i]).toNat]:=getD_at (by omega)
  have h1:=hbd i
  have h2:=hbd (i+1)
  rw [sum_take_map _ _ hlt] at h2
  simp (disch:=omega) [e1,e2,e3,e7,e8,hlt,hrd,hg1,hrrd]
  simp only [←er]
  with_reducible refine (r3Units_con _ s _).go ?_
  have e:=sum_take_map (fun n=>unitI (rowAt t n) s) set hlt
  simp (disch:=omega) [e1,e2,e3,e8,wrap64]
  simp only [List.map_take] at e h1 h2 ⊢
  rw [e,wrap64 _ (by omega) (by omega)]
 ·have hi':i=set.length:=by omega
  subst hi'
  rw [List.take_length] at e7
  simp [e7,countsI]
  exact hs1
end Go.Gm.Tryz
end
section
namespace Go.Gm
theorem wpB_mid {X:Cx} {a:Code} {K:Rho→List Nat→GH→Prop} {Q:VQ} {ρ:Rho} {m:List Nat} {H:GH} {v:Bool} (P:Rho→List Nat→GH→Prop) (h1:v=true→wpC X a (fun x ρ m H=>x=.normal∧P ρ m H) ρ m H) (h2:v=false→P ρ m H) (hk:∀ρ m H,P ρ m H→K ρ m H):wpB (.bool v) (wpC X a (seqQ K Q)) K ρ m H:=
 wpB_bool (fun h=>wp_mid P (h1 h) hk) fun h=>hk _ _ _ (h2 h)
theorem Elems.readS {α:Type} {H:GH} {a:Option Addr} {sz:Nat} {enc:α→List Value} {l:List α} (e:Elems H a sz enc l):H.readS a l.length sz=some (l.flatMap enc):=by
 cases a with
 |none=>rw [e.nil rfl]; rfl
 |some b=>exact (e.ok b rfl).2
end Go.Gm
namespace Go.Gm.Tryz
open Go.Proofs
def Ints (H:GH) (M:Nat) (a:Option Addr) (l:List Int):Prop:=Elems H a 1 encI l∧∀c,a=some c→M≤c.block∧∃A,H.get c.block=some (.arr A)∧A.ty=3
theorem Ints.sub {H H':GH} {M:Nat} {a:Option Addr} {l:List Int} (h:Ints H M a l) (hs:Sub H H'):Ints H' M a l:=
 ⟨h.1.mono hs,fun c hc=>by
  obtain ⟨h0,A,h1,h2⟩:=h.2 c hc
  exact ⟨h0,A,by rw [hs.2 _ (h.1.ok c hc).1]; exact h1,h2⟩⟩
theorem Ints.nil (H:GH) (M:Nat):Ints H M none []:=⟨⟨fun _=>rfl,(fun b hb=>by cases hb),fun _=>rfl⟩,fun c hc=>by cases hc⟩
theorem ownL_ints {H:GH} {N M:Nat} {v:Value} {l:List Int} (h:OwnL H N v 3 1 encI l) (hM:M≤N):∃a fl,v=.slice a l.length fl∧Ints H M a l:=by
 obtain ⟨a,fl,e,hE⟩:=h.elems (fun _=>rfl)
 refine ⟨a,fl,e,hE,fun c hc=>?_⟩
 subst hc
 rcases h with ⟨_,h⟩|⟨g,ver,szs,pre,_,hN,_,h,h3⟩
 ·rw [h] at e; cases e
 ·rw [h] at e; cases e; exact ⟨Nat.le_trans hM hN,_,h3,rfl⟩
@[simp] def encPL (p:SLoc×List Int):List Value:= [.slice p.1.a p.2.length p.1.fl]
def ListsR (H:GH) (N M:Nat) (v:Value) (ss:List (List Int)):Prop:=∃ls:List (SLoc×List Int),OwnL H N v 25 1 encPL ls∧ls.map Prod.snd=ss∧∀p∈ls,Ints H M p.1.a p.2
theorem ListsR.sub {H H':GH} {N M:Nat} {v:Value} {ss:List (List Int)} (h:ListsR H N M v ss) (hs:Sub H H'):ListsR H' N M v ss:=by
 obtain ⟨ls,h1,h2,h3⟩:=h
 exact ⟨ls,h1.sub hs,h2,fun p hp=>(h3 p hp).sub hs⟩
theorem ListsR.nil (H:GH) (N M:Nat):ListsR H N M (.slice none 0 0) []:=⟨[],OwnL.nil,rfl,fun p hp=>by simp at hp⟩
theorem encPL_one (p:SLoc×List Int):(encPL p).all one=true:=by simp [one]
theorem ListsR.app {H:GH} {N M K:Nat} {v w:Value} {ss ts:List (List Int)} (h:ListsR H N K v ss) (k:ListsR H M K w ts) (hN:N≤H.next):
  ∃b c a fl cs v' H',v=.slice b ss.length c∧w=.slice a ts.length fl∧H.readS a ts.length 1=some cs∧gappend H 25 1 (.slice b ss.length c) ts.length cs=some (v',H')∧ListsR H' N K v' (ss++ts)∧H.next≤H'.next∧∀g,g<N→H'.get g=H.get g:=by
 obtain ⟨ls,h1,h2,h3⟩:=h
 obtain ⟨ks,k1,k2,k3⟩:=k
 obtain ⟨a,fl,rfl,hE⟩:=k1.elems (fun _=>rfl)
 obtain ⟨v',H',happ,ho,hn,hf,hb⟩:=h1.apps (fun _=>rfl) encPL_one (by decide) ks hN
 have hl:ts.length=ks.length:=by rw [←k2,List.length_map]
 have hls:ss.length=ls.length:=by rw [←h2,List.length_map]
 have keep:∀g,g<N→H'.get g=H.get g:=fun g hg=>hf g (by omega) (fun hc=>by have:=(h1.blk_lt hc).1; omega)
 have hty:=fun g (hg:blkOf v=some g)=>h1.blk_ty hg
 obtain ⟨b,c,rfl⟩:=h1.slice
 rw [hl,hls]
 refine ⟨b,c,a,fl,ks.flatMap encPL,v',H',rfl,rfl,hE.readS,happ,⟨ls++ks,ho,by rw [List.map_append,h2,k2],?_⟩,hn,keep⟩
 have hold:∀p:SLoc×List Int,Ints H K p.1.a p.2→Ints H' K p.1.a p.2:=fun p hp=>by
  have hne:∀d,p.1.a=some d→H'.get d.block=H.get d.block:=fun d hd=>hf _ (hp.1.ok d hd).1 fun hc=>by
   obtain ⟨A,e1,e2⟩:=hty _ hc
   obtain ⟨_,B,e3,e4⟩:=hp.2 d hd
   rw [e1] at e3; cases e3
   rw [e2] at e4; cases e4
  refine ⟨⟨hp.1.len,fun d hd=>?_,hp.1.nil⟩,fun d hd=>?_⟩
  ·obtain ⟨e1,e2⟩:=hp.1.ok d hd
   refine ⟨Nat.lt_of_lt_of_le e1 hn,?_⟩
   rw [←e2]
   simp only [GH.read]
   rw [hne d hd]
  ·rw [hne d hd]; exact hp.2 d hd
 intro p hp
 rcases List.mem_append.1 hp with hp|hp
 ·exact hold p (h3 p hp)
 ·exact hold p (k3 p hp)
theorem setsFrom_len {m:Nat}:∀(k:Nat) (now:List Int),(setsFrom m k now).length≤m^k:=by
 intro k
 induction k with
 |zero=>intro now; simp [setsFrom]
 |succ k ih=>
  intro now
  simp only [setsFrom,List.length_flatMap]
  have:∀(l:List Nat),(l.map fun (n:Nat)=>(setsFrom m k (now++ [((n:Nat):Int)])).length).sum≤l.length*m^k:=by
   intro l
   induction l with
   |nil=>simp
   |cons x l ihl=>
    have:=ih (now++ [((x:Nat):Int)])
    simp only [List.map_cons,List.sum_cons,List.length_cons,Nat.add_mul]
    omega
  refine Nat.le_trans (this _) ?_
  rw [List.length_range',Nat.pow_succ,Nat.mul_comm]
  exact Nat.mul_le_mul_left _ (Nat.sub_le _ _)
theorem pow_bd {m k:Nat} (hm:m≤4) (hk:k≤6):m^k≤4096:=
 Nat.le_trans (Nat.pow_le_pow_left hm k) (Nat.le_trans (Nat.pow_le_pow_right (by decide) hk) (by decide))
def partSets (m k:Nat) (now:List Int) (from_ i:Nat):List (List Int):=(List.range' from_ (i - from_)).flatMap fun (n:Nat)=>setsFrom m k (now++ [((n:Nat):Int)])
theorem partSets_self (m k:Nat) (now:List Int) (f:Nat):partSets m k now f f= []:=by simp [partSets]
theorem partSets_succ (m k:Nat) (now:List Int) {f i:Nat} (h:f≤i):partSets m k now f (i+1)=partSets m k now f i++setsFrom m k (now++ [(i:Int)]):=by
 unfold partSets
 rw [show i+1 - f=(i - f)+1 by omega,List.range'_concat,List.flatMap_append]
 simp
 rw [show (f:Int)+((i - f:Nat):Int)=i by omega]
theorem partSets_len {m k:Nat} {now:List Int} {f i:Nat} (hm:m≤4) (hk:k≤5) (hi:i≤m):(partSets m k now f i).length≤4096:=by
 unfold partSets
 rw [List.length_flatMap]
 have:∀(l:List Nat),(l.map fun (n:Nat)=>(setsFrom m k (now++ [((n:Nat):Int)])).length).sum≤l.length*m^k:=by
  intro l
  induction l with
  |nil=>simp
  |cons x l ihl=>
   have:=setsFrom_len (m:=m) k (now++ [((x:Nat):Int)])
   simp only [List.map_cons,List.sum_cons,List.length_cons,Nat.add_mul]
   omega
 refine Nat.le_trans (this _) ?_
 rw [List.length_range']
 have h1:m^k≤1024:=Nat.le_trans (Nat.pow_le_pow_left hm k) (Nat.le_trans (Nat.pow_le_pow_right (by decide) hk) (by decide))
 have h2:i - f≤4:=by omega
 calc (i - f)*m^k≤4*1024:=Nat.mul_le_mul h2 h1
  _≤4096:=by decide
theorem r3sets_con (l:TLoc) (t:Tbl) (hrows:t.rows.length≤4):∀(k:Nat) (now:List Int),now.length+k≤6→(∀x∈now,0≤x∧x<t.rows.length)→∀(H:GH) (a:Option Addr) (fl M:Nat),M≤H.next→TblIn H l t→Ints H M a now→
  GCall Tryz.prog 137 [tblV l t,.slice a now.length fl,vi ((now.length:Int)+k)] H fun x H'=>Sub H H'∧∃v,x=.ret v∧ListsR H' H.next M v (setsFrom t.rows.length k now):=by
 rcases l with ⟨⟨ra,rf⟩⟩
 intro k
 induction k with
 |zero=>
  intro now hlen hnow H a fl M hM hT hI
  refine gcall_wp tok mix fok137 (F:=g137) (c:=_) rfl (n:=44) rfl (rs:= [.tmp 6]) rfl ?_
  simp
  generalize hH1:GH.push (GH.push H _) _=H1
  have hs1:Sub H H1:=by subst hH1; exact (Sub.push (.refl H) _).push _
  have k1:H1.get (H.next+1)=some (.arr { cells:= [.slice a now.length fl],ty:=25 }):=by subst hH1; simp
  have hn1:H1.next=H.next+2:=by subst hH1; simp
  exact ⟨[(⟨a,fl⟩,now)],OwnL.mk (l:= [((⟨a,fl⟩:SLoc),now)]) (enc:=encPL) (by decide) (by omega) (by omega) k1,by simp [setsFrom],fun p hp=>by simp at hp; subst hp; exact hI.sub hs1⟩
 |succ k ih=>
  intro now hlen hnow H a fl M hM hT hI
  refine gcall_wp tok mix fok137 (F:=g137) (c:=_) rfl (n:=44) rfl (rs:= [.tmp 6]) rfl ?_
  have hne:¬(now.length:Int)=(now.length:Int)+((k:Int)+1):=by omega
  simp [hne]
  generalize hH1:GH.push H _=H1
  have hs1:Sub H H1:=by subst hH1; exact Sub.push (.refl H) _
  have k1:H1.get H.next=some (.arr { cells:= [.slice ra t.rows.length rf,vi t.draw],ty:=24 }):=by subst hH1; simp
  have hn1:H1.next=H.next+1:=by subst hH1; simp
  clear hH1
  have hT1:=hT.mono hs1
  have hI1:=hI.sub hs1
  have hf:fromOf now≤t.rows.length∧(fromOf now:Int)=now.getLast?.getD 0:=by
   unfold fromOf
   cases hl:now.getLast? with
   |none=>simp
   |some x=>have:=hnow x (List.mem_of_getLast? hl); simp; omega
  refine wpB_mid (fun ρ m H'=>ρ 1=.slice a now.length fl∧ρ 2=vi ((now.length:Int)+((k:Int)+1))∧ρ 3=.pointer (some (ga H.next 0 0))∧ρ 7=vi (fromOf now)∧m= []∧H'=H1) (fun hp=>?_) (fun hp=>?_) ?_
  ·simp only [decide_eq_true_eq] at hp
   obtain ⟨b,hab,hb,hrd⟩:=hI1.1.at (now.length - 1) (by omega)
   have e1:((now.length:Int) - 1).toNat=now.length - 1:=by omega
   subst hab
   have e2:now.getLast?.getD 0=now[now.length - 1]'(by omega):=by
    rw [List.getLast?_eq_getElem?,List.getElem?_eq_getElem (by omega)]; rfl
   simp (disch:=omega) [hrd,e1,wrap64]
   rw [hf.2,e2]
  ·simp only [decide_eq_false_iff_not] at hp
   have h0:now= []:=by cases now with|nil=>rfl|cons _ _=>simp at hp
   subst h0
   simp [fromOf]
  rintro ρ m H1 ⟨e1,e2,e3,e7,rfl,rfl⟩
  simp [e7]
  refine wp_up tok mix (by kernel_rfl) t.rows.length (fun i ρ m H'=>fromOf now≤i∧ρ 1=.slice a now.length fl∧ρ 2=vi ((now.length:Int)+((k:Int)+1))∧ρ 3=.pointer (some (ga H.next 0 0))∧ρ 9=vi i∧m= []∧Sub H1 H'∧ListsR H' H1.next M (ρ 8) (partSets t.rows.length k now (fromOf now) i)) (i0:=fromOf now) hf.1
   ⟨Nat.le_refl _,by simp [e1],by simp [e2],by simp [e3],by simp,rfl,.refl _,by rw [partSets_self]; exact ListsR.nil _ _ _⟩ ?_
  rintro i ρ m H2 hi ⟨hfi,d1,d2,d3,d9,rfl,hs2,hL⟩
  have hg2:=(hs2.2 H.next (by omega)).trans k1
  have hlt0:H.next<H2.next:=by have:=hs2.1; omega
  simp [d3,d9,hg2]
  refine wpB_dec (fun hlt=>?_) (fun hge=>?_)
  ·have hI2:=hI1.sub (hs2.push (.arr { cells:= [vi i],ty:=3 }))
   have hgp:(H2.push (.arr { cells:= [vi i],ty:=3 })).get H2.next=some (.arr { cells:= [vi i],ty:=3 }):=by simp
   have hgq:=(GH.get_push_lt H2 (.arr { cells:= [vi i],ty:=3 }) hlt0).trans hg2
   have hnp:(H2.push (.arr { cells:= [vi i],ty:=3 })).next=H2.next+1:=by simp
   have hsp:Sub H2 (H2.push (.arr { cells:= [vi i],ty:=3 })):=Sub.push (.refl H2) _
   generalize hHp:H2.push (.arr { cells:= [vi i],ty:=3 })=Hp at hI2 hgp hgq hnp hsp
   obtain ⟨v36,H3,happ,ho3,hn3,hf3,_⟩:=(OwnL.nil (H:=Hp) (N:=Hp.next) (ty:=3) (sz:=1) (enc:=encI)).apps (fun _=>rfl) (fun _=>rfl) (by decide) now (Nat.le_refl _)
   simp only [List.nil_append] at ho3
   have hs3:Sub Hp H3:=⟨hn3,fun g hg=>hf3 g hg (by simp)⟩
   have hg3:=(hs3.2 H.next (by omega)).trans hgq
   have hg3p:=(hs3.2 H2.next (by omega)).trans hgp
   obtain ⟨v39,H4,happ4,ho4,hn4,hf4,_⟩:=ho3.app (fun _=>rfl) (fun _=>rfl) (by decide) (i:Int) (by omega)
   simp only [encI] at happ4
   have hs4:Sub H2 H4:=⟨by omega,fun g hg=>by rw [hf4 g (by omega) (fun hc=>by have:=(ho3.blk_lt hc).1; omega),hs3.2 g (by omega),hsp.2 g hg]⟩
   have hg4:=(hs4.2 H.next hlt0).trans hg2
   have hl36:=ho3.len
   obtain ⟨a36,f36,rfl⟩:=ho3.slice
   obtain ⟨a39,f39,rfl,hI39⟩:=ownL_ints (M:=M) ho4 (by have:=hs2.1; omega)
   have hih:=ih (now++ [(i:Int)]) (by simp; omega) (fun x hx=>by
    rcases List.mem_append.1 hx with hx|hx
    ·exact hnow x hx
    ·simp at hx; omega) H4 a39 f39 M (by have:=hs2.1; have:=hs4.1; omega) (hT1.mono (hs2.trans hs4)) hI39
   simp only [List.length_append,List.length_cons,List.length_nil,Nat.zero_add] at hih
   rw [show ((now.length+1:Nat):Int)+k=(now.length:Int)+((k:Int)+1) by omega] at hih
   have hl8:∃b c,ρ 8=.slice b (partSets t.rows.length k now (fromOf now) i).length c:=by
    obtain ⟨ls,h1,h2,_⟩:=hL
    obtain ⟨b,c,e⟩:=h1.slice
    exact ⟨b,c,by rw [e,←h2,List.length_map]⟩
   obtain ⟨b8,c8,e8⟩:=hl8
   have hrs:=hI2.1.readS
   have q1:8*now.length≤1000000:=by omega
   have q2:now.length≤1000000:=by omega
   have q3:8*(1+now.length)≤1000000:=by omega
   have q4:1+now.length≤1000000:=by omega
   simp (disch:=omega) [d1,d2,d3,d9,e8,hg2,hHp]
   simp (disch:=omega) [d3,hrs,happ,q1,q2,hg3,hg3p,hl36,q3,q4,happ4,hg4]
   refine hih.mono ?_
   rintro x H5 ⟨s5,v5,rfl,hL5⟩
   have hs5:=hs4.trans s5
   obtain ⟨b,c,a5,fl5,cs,v',H6,hv8,rfl,hrd5,happ6,hL6,hn6,hk6⟩:=(hL.sub hs5).app hL5 (by have:=hs2.1; have:=hs5.1; omega)
   rw [e8] at hv8
   cases hv8
   have p1:=partSets_len (m:=t.rows.length) (k:=k) (now:=now) (f:=fromOf now) (i:=i) hrows (by omega) hi
   have p2:(setsFrom t.rows.length k (now++ [(i:Int)])).length≤4096:=Nat.le_trans (setsFrom_len k _) (pow_bd hrows (by omega))
   have r1:24*((setsFrom t.rows.length k (now++ [(i:Int)])).length+(partSets t.rows.length k now (fromOf now) i).length)≤1000000:=by omega
   have r2:(setsFrom t.rows.length k (now++ [(i:Int)])).length+(partSets t.rows.length k now (fromOf now) i).length≤1000000:=by omega
   simp (disch:=omega) [hrd5,happ6,r1,r2,d1,d2,d3,d9,wrap64,hlt]
   refine ⟨by omega,⟨by have:=hs2.1; have:=hs5.1; omega,fun g hg=>?_⟩,?_⟩
   ·rw [hk6 g hg,hs5.2 g (by have:=hs2.1; omega),hs2.2 g hg]
   ·rw [partSets_succ _ _ _ hfi]; exact hL6
  ·have:i=t.rows.length:=by omega
   subst this
   obtain ⟨ls,h1,h2,h3⟩:=hL
   obtain ⟨b8,c8,e8⟩:=h1.slice
   simp [e8]
   rw [e8] at h1
   refine ⟨hs1.trans hs2,ls,h1.weaken (by omega),?_,h3⟩
   rw [h2]
   rfl
theorem r3Sets_con (l:TLoc) (t:Tbl) (hrows:t.rows.length≤4) (H:GH) (hT:TblIn H l t):GCall Tryz.prog 131 [tblV l t] H fun x H'=>Sub H H'∧∃v,x=.ret v∧ListsR H' H.next H.next v (allSets t.rows.length):=by
 rcases l with ⟨⟨ra,rf⟩⟩
 refine gcall_wp tok mix fok131 (F:=g131) (c:=_) rfl (n:=15) rfl (rs:= [.tmp 2]) rfl ?_
 simp
 generalize hH1:GH.push H _=H1
 have hs1:Sub H H1:=by subst hH1; exact Sub.push (.refl H) _
 have k1:H1.get H.next=some (.arr { cells:= [.slice ra t.rows.length rf,vi t.draw],ty:=24 }):=by subst hH1; simp
 have hn1:H1.next=H.next+1:=by subst hH1; simp
 clear hH1
 have hT1:=hT.mono hs1
 refine wp_up tok mix (by kernel_rfl) 7 (fun i ρ m H'=>ρ 1=.pointer (some (ga H.next 0 0))∧ρ 4=vi i∧m= []∧Sub H1 H'∧ListsR H' H1.next H.next (ρ 3) ((List.range i).flatMap fun k=>setsFrom t.rows.length k [])) (i0:=0) (by omega) ⟨by simp,by simp,rfl,.refl _,by simpa using ListsR.nil _ _ _⟩ ?_
 rintro i ρ m H2 hi ⟨e1,e4,rfl,hs2,hL⟩
 have hg2:=(hs2.2 H.next (by omega)).trans k1
 have hlt0:H.next<H2.next:=by have:=hs2.1; omega
 have hlen:∀j,j≤7→((List.range j).flatMap fun k=>setsFrom t.rows.length k []).length≤j*4096:=by
  intro j
  induction j with
  |zero=>intro _; simp
  |succ j ih=>
   intro hj
   have:=ih (by omega)
   have h2:(setsFrom t.rows.length j []).length≤4096:=Nat.le_trans (setsFrom_len j _) (pow_bd hrows (by omega))
   rw [List.range_succ,List.flatMap_append]
   simp only [List.flatMap_cons,List.flatMap_nil,List.append_nil,List.length_append]
   omega
 simp [e4]
 refine wpB_dec (fun hlt=>?_) (fun hge=>?_)
 ·have p1:=hlen i (by omega)
  have hFs:((List.range (i+1)).flatMap fun k=>setsFrom t.rows.length k [])=((List.range i).flatMap fun k=>setsFrom t.rows.length k [])++setsFrom t.rows.length i []:=by rw [List.range_succ,List.flatMap_append]; simp
  generalize hF:((List.range i).flatMap fun k=>setsFrom t.rows.length k [])=F at hL p1 hFs
  have hl8:∃b c,ρ 3=.slice b F.length c:=by
   obtain ⟨ls,h1,h2,_⟩:=hL
   obtain ⟨b,c,e⟩:=h1.slice
   exact ⟨b,c,by rw [e,←h2,List.length_map]⟩
  obtain ⟨b8,c8,e8⟩:=hl8
  have hih:=r3sets_con ⟨⟨ra,rf⟩⟩ t hrows i [] (by simp; omega) (fun x hx=>by simp at hx) H2 none 0 H.next (by omega) (hT1.mono hs2) (Ints.nil _ _)
  simp only [List.length_nil] at hih
  simp (disch:=omega) [e1,e4,hg2,e8]
  rw [show ((0:Nat):Int)+(i:Int)=i by omega] at hih
  refine hih.mono ?_
  rintro x H5 ⟨s5,v5,rfl,hL5⟩
  obtain ⟨b,c,a5,fl5,cs,v',H6,hv8,rfl,hrd5,happ6,hL6,hn6,hk6⟩:=(hL.sub s5).app hL5 (by have:=hs2.1; have:=s5.1; omega)
  rw [e8] at hv8
  cases hv8
  have p2:(setsFrom t.rows.length i []).length≤4096:=Nat.le_trans (setsFrom_len i _) (pow_bd hrows (by omega))
  have r1:24*((setsFrom t.rows.length i []).length+F.length)≤1000000:=by omega
  have r2:(setsFrom t.rows.length i []).length+F.length≤1000000:=by omega
  simp (disch:=omega) [hrd5,happ6,r1,r2,e1,e4,wrap64]
  refine ⟨by omega,⟨by have:=hs2.1; have:=s5.1; omega,fun g hg=>?_⟩,?_⟩
  ·rw [hk6 g hg,s5.2 g (by have:=hs2.1; omega),hs2.2 g hg]
  ·rw [hFs]; exact hL6
 ·have:i=7:=by omega
  subst this
  obtain ⟨ls,h1,h2,h3⟩:=hL
  obtain ⟨b8,c8,e8⟩:=h1.slice
  simp [e8]
  rw [e8] at h1
  exact ⟨hs1.trans hs2,ls,h1.weaken (by omega),h2,h3⟩
end Go.Gm.Tryz
end
section
namespace Go.Gm.Tryz
open Go.Proofs
structure Noz where
 row:Int
 height:Int
 deriving DecidableEq,Inhabited
structure Bas where
 tbl:Tbl
 nozs:List Noz
 weir:Int
 spill:Int
 deriving DecidableEq,Inhabited
structure KLoc where
 t:TLoc
 nz:SLoc
@[simp] def encNoz (n:Noz):List Value:= [vi n.row,vi n.height]
@[simp,reducible] def nozV (n:Noz):Value:=.agg #[vi n.row,vi n.height]
@[simp,reducible] def basC (l:KLoc) (b:Bas):List Value:= [.slice l.t.rows.a b.tbl.rows.length l.t.rows.fl,vi b.tbl.draw,.slice l.nz.a b.nozs.length l.nz.fl,vi b.weir,vi b.spill]
@[simp,reducible] def basV (l:KLoc) (b:Bas):Value:=.agg (basC l b).toArray
@[simp,reducible] def filC (l:KLoc) (b:Bas) (g:Value):List Value:= [.slice l.t.rows.a b.tbl.rows.length l.t.rows.fl,vi b.tbl.draw,.slice l.nz.a b.nozs.length l.nz.fl,vi b.weir,vi b.spill,g]
@[simp,reducible] def filV (l:KLoc) (b:Bas) (g:Value):Value:=.agg (filC l b g).toArray
structure BasIn (H:GH) (l:KLoc) (b:Bas):Prop where
 t:TblIn H l.t b.tbl
 nz:Elems H l.nz.a 2 encNoz b.nozs
def isHeightI (n:Int):Bool:=inI n 0 40
theorem csum_con (l:List Int) (hl:partial_ok l) (a:Option Addr) (fl:Nat) (H:GH) (hr:Elems H a 1 encI l):C 69 [.slice a l.length fl] H (vi l.sum) H:=by
 have hlen:=hl.1
 refine con_wp tok mix fok69 (F:=g69) (c:=_) rfl (n:=17) rfl (rs:= [.tmp 2]) rfl (anch_closed rfl) ?_
 simp
 refine wp_up tok mix (by kernel_rfl) l.length (fun i ρ m H'=>ρ 6=.slice a l.length fl∧ρ 7=vi l.length∧ρ 8=vi i∧ρ 3=vi (l.take i).sum∧m= []∧H'=H) (i0:=0) (by omega) (by simp) ?_
 rintro i ρ m H' hi ⟨e6,e7,e8,e3,rfl,rfl⟩
 simp [e7,e8]
 refine wpB_dec (fun hlt=>?_) (fun hge=>?_)
 ·obtain ⟨b,rfl,hb,hrd⟩:=hr.at i hlt
  have:=sum_take l hl i hi
  have hx:=hl.2 _ (List.getElem_mem hlt)
  have e:(l.take (i+1)).sum=(l.take i).sum+l[i]:=by rw [List.take_succ_eq_append_getElem hlt,List.sum_append]; simp
  simp (disch:=omega) [e6,e7,e8,e3,hlt,hrd,wrap64,e]
 ·have:i=l.length:=by omega
  subst this
  simp [e3]
def outI (b:Bas) (xs:List Int) (h:Int):Int:=xs.sum+b.spill*max 0 (h - b.weir)
structure BasOk (b:Bas):Prop where
 w0:0≤b.weir
 w1:b.weir≤40
 s0:0≤b.spill
 s1:b.spill≤100
theorem spill_bd {b:Bas} (hb:BasOk b) {h:Int} (h1:h≤40):0≤b.spill*max 0 (h - b.weir)∧b.spill*max 0 (h - b.weir)≤4000:=by
 have:=hb.s0; have:=hb.s1; have:=hb.w0
 have m0:0≤max 0 (h - b.weir):=by omega
 have m1:max 0 (h - b.weir)≤40:=by omega
 refine ⟨Int.mul_nonneg (by omega) m0,?_⟩
 calc b.spill*max 0 (h - b.weir)≤100*max 0 (h - b.weir):=Int.mul_le_mul_of_nonneg_right (by omega) m0
  _≤4000:=by omega
section
variable {l:KLoc} {b:Bas} {ga:Option Addr} {gn gf:Nat} {H:GH}
theorem nozzles_con (h:Nat) (a:Addr) (hrd:ga=some a) (hlt:h<gn) {ra:Option Addr} {rf:Nat} {xs:List Int} (hx:partial_ok xs) (hab:a.block<H.next) (hr:H.read (ea a h 1 0) 1=some [.slice ra xs.length rf]) (hE:Elems H ra 1 encI xs):
  C 103 [filV l b (.slice ga gn gf),vi h] H (vi xs.sum) H:=by
 subst hrd
 refine con_wp tok mix fok103 (F:=g103) (c:=_) rfl (n:=11) rfl (rs:= [.tmp 4]) rfl (anch_closed rfl) ?_
 have hlt':(h:Int)<gn:=by omega
 simp (disch:=omega) [hr]
 refine (csum_con xs hx ra rf _ (hE.push _)).go ?_
 simp
theorem weir_con (hb:BasOk b) (h:Int) (h0:0≤h) (h1:h≤40) (g:Value) (_hg:one g=true):C 104 [filV l b g,vi h] H (vi (b.spill*max 0 (h - b.weir))) H:=by
 refine con_wp tok mix fok104 (F:=g104) (c:=_) rfl (n:=15) rfl (rs:= [.tmp 4]) rfl (anch_closed rfl) ?_
 have:=spill_bd hb h1
 have:=hb.s0; have:=hb.s1; have:=hb.w0; have:=hb.w1
 have e:(if h - b.weir>0 then h - b.weir else 0)=max 0 (h - b.weir):=by omega
 simp (disch:=omega) [wrap64]
 simp only [gt_iff_lt,Int.sub_pos] at e
 rw [e]
 simp (disch:=omega) [wrap64]
 exact Sub.push (.refl H) _
theorem out_con (hb:BasOk b) (h:Nat) (h1:h≤40) (a:Addr) (hrd:ga=some a) (hlt:h<gn) {ra:Option Addr} {rf:Nat} {xs:List Int} (hx:partial_ok xs) (hab:a.block<H.next) (hr:H.read (ea a h 1 0) 1=some [.slice ra xs.length rf]) (hE:Elems H ra 1 encI xs):
  C 68 [filV l b (.slice ga gn gf),vi h] H (vi (outI b xs h)) H:=by
 subst hrd
 refine con_wp tok mix fok68 (F:=g68) (c:=_) rfl (n:=25) rfl (rs:= [.tmp 4]) rfl (anch_closed rfl) ?_
 simp (disch:=omega)
 generalize hH1:GH.put _ _ _=H1
 have hs1:Sub H H1:=by subst hH1; exact ((Sub.push (.refl H) _).push _).put (by omega) _
 clear hH1
 have hr1:H1.read (ea a h 1 0) 1=some [.slice ra xs.length rf]:=by
  rw [←hr]; simp only [GH.read,ea_block]; rw [hs1.2 _ hab]
 have hab1:a.block<H1.next:=Nat.lt_of_lt_of_le hab hs1.1
 refine wp_up tok mix (by kernel_rfl) 2 (fun i ρ m H'=>ρ 1=vi h∧ρ 14=.agg #[.func (.func 103) #[filV l b (.slice (some a) gn gf)] #[],.func (.func 104) #[filV l b (.slice (some a) gn gf)] #[]]∧ρ 15=vi i∧ρ 6=vi (if i=0 then 0 else if i=1 then xs.sum else outI b xs h)∧m= []∧H'=H1) (i0:=0) (by omega) (by simp) ?_
 rintro i ρ m H' hi ⟨e1,e14,e15,e6,rfl,rfl⟩
 have hsp:=spill_bd hb (h:=h) (by omega)
 have hsm:=sum_take xs hx xs.length (Nat.le_refl _)
 rw [List.take_length] at hsm
 have hxl:=hx.1
 simp (disch:=omega) [e15]
 refine wpB_dec (fun hlt2=>?_) (fun hge=>?_)
 ·obtain rfl|rfl:i=0∨i=1:=by omega
  ·simp (disch:=omega) [e14,e15,e6,e1]
   refine (nozzles_con (l:=l) (b:=b) h a rfl hlt hx hab1 hr1 (hE.mono hs1)).go ?_
   simp (disch:=omega) [e14,e15,e1,wrap64]
  ·simp (disch:=omega) [e14,e15,e6,e1]
   refine (weir_con (l:=l) hb h (by omega) (by omega) _ rfl).go ?_
   simp (disch:=omega) [e14,e15,e1,wrap64,outI]
 ·have:i=2:=by omega
  subst this
  simp [e6]
  exact hs1
end
end Go.Gm.Tryz
end
section
namespace Go.Gm.Tryz
open Go.Proofs
def lvl (f:Nat→Int) (cups:Int):Nat→Nat→Nat→Nat
 |0,_,out=>out
 |k+1,h,out=>if cups<f h then out else lvl f cups k (h+1) h
abbrev Pss:=List (SLoc×List Int)
def outAt (b:Bas) (ps:Pss) (h:Nat):Int:=outI b (ps.getD h (⟨none,0⟩,[])).2 h
def levelI (b:Bas) (ps:Pss) (cups:Int):Nat:=lvl (outAt b ps) cups ps.length 0 0
structure GivesIn (H:GH) (a:Option Addr) (ps:Pss):Prop where
 e:Elems H a 1 encPL ps
 i:∀p∈ps,Elems H p.1.a 1 encI p.2
 k:∀p∈ps,partial_ok p.2
 n:ps.length≤41
theorem GivesIn.mono {H H':GH} {a:Option Addr} {ps:Pss} (h:GivesIn H a ps) (hs:Sub H H'):GivesIn H' a ps:=⟨h.e.mono hs,fun p hp=>(h.i p hp).mono hs,h.k,h.n⟩
theorem gout_con {l:KLoc} {b:Bas} (hb:BasOk b) {ps:Pss} {ga:Option Addr} {gf:Nat} {H:GH} (hG:GivesIn H ga ps) (h:Nat) (hlt:h<ps.length):C 68 [filV l b (.slice ga ps.length gf),vi h] H (vi (outAt b ps h)) H:=by
 obtain ⟨a,e,hab,hrd⟩:=hG.e.at h hlt
 have h41:=hG.n
 have hm:=List.getElem_mem hlt
 have hr:=hrd 0 1 (by decide)
 simp only [encPL,List.drop_zero,List.take_succ_cons,List.take_zero] at hr
 unfold outAt
 rw [getD_at hlt]
 exact out_con hb h (by omega) a e hlt (hG.k _ hm) hab hr (hG.i _ hm)
theorem level_con {l:KLoc} {b:Bas} (hb:BasOk b) {ps:Pss} {ga:Option Addr} {gf:Nat} {H:GH} (hG:GivesIn H ga ps) (cups:Int):C 67 [filV l b (.slice ga ps.length gf),vi cups] H (vi (levelI b ps cups)) H:=by
 refine con_wp tok mix fok67 (F:=g67) (c:=_) rfl (n:=21) rfl (rs:= [.tmp 4]) rfl (anch_closed rfl) ?_
 have h41:=hG.n
 simp (disch:=omega)
 generalize hH1:GH.push _ _=H1
 have hs1:Sub H H1:=by subst hH1; exact Sub.push (.refl H) _
 have hg1:H1.get H.next=some (.arr { cells:=filC l b (.slice ga ps.length gf),ty:=89 }):=by subst hH1; simp
 clear hH1
 have hG1:=hG.mono hs1
 refine wp_up tok mix (by kernel_rfl) ps.length (fun i ρ m H'=>ρ 1=vi cups∧ρ 2=.pointer (some (Go.Gm.ga H.next 0 0))∧ρ 9=vi ps.length∧ρ 10=vi i∧m= []∧H'=H1∧∃out:Nat,ρ 5=vi out∧lvl (outAt b ps) cups (ps.length - i) i out=levelI b ps cups) (i0:=0) (by omega) (by simp; exact ⟨0,by simp,rfl⟩) ?_
 rintro i ρ m H' hi ⟨e1,e2,e9,e10,rfl,rfl,out,e5,hl⟩
 simp (disch:=omega) [e10,e9]
 refine wpB_dec (fun hlt2=>?_) (fun hge=>?_)
 ·simp (disch:=omega) [e2,e10,hg1]
  refine (gout_con hb hG1 i hlt2).go ?_
  rw [show ps.length - i=(ps.length - (i+1))+1 by omega] at hl
  simp (disch:=omega) [e1]
  refine wpB_dec (fun hc=>?_) (fun hc=>?_)
  ·simp only [lvl,if_pos hc] at hl
   simp [e5,hl]
   exact hs1
  ·simp only [lvl,if_neg hc] at hl
   simp (disch:=omega) [e1,e2,e9,e10,wrap64]
   exact ⟨by omega,i,rfl,hl⟩
 ·have:i=ps.length:=by omega
  subst this
  rw [Nat.sub_self] at hl
  simp only [lvl] at hl
  simp [e5,hl]
  exact hs1
end Go.Gm.Tryz
end
section
namespace Go.Gm.Tryz
open Go.Proofs
noncomputable section
def kInts:List Value→Option (List Int)
 | []=>some []
 | .int .i64 n::vs=>match kInts vs with|some l=>some (n::l)|none=>none
 |_=>none
theorem kInts_ok:∀ {vs:List Value} {l:List Int},kInts vs=some l→vs=l.flatMap encI:=by
 intro vs
 induction vs with
 |nil=>intro l h; simp [kInts] at h; subst h; rfl
 |cons v vs ih=>
  intro l h
  unfold kInts at h
  split at h
  ·rename_i heq; cases heq
  ·rename_i n vs' heq
   cases heq
   split at h
   ·rename_i l' hl
    cases h
    rw [ih hl]; rfl
   ·cases h
  ·cases h
def kRow (H:GH):Value→Option (SLoc×List Int)
 | .slice (some b) k fl=>match H.read b k with
  |some cs=>match kInts cs with
   |some l=>if b.block<H.next∧l.length=k then some (⟨some b,fl⟩,l) else none
   |none=>none
  |none=>none
 |_=>none
theorem kRow_ok {H:GH} {v:Value} {p:SLoc×List Int} (h:kRow H v=some p): [v]=encPL p∧Elems H p.1.a 1 encI p.2:=by
 unfold kRow at h
 split at h
 ·rename_i b k fl
  split at h
  ·rename_i cs hcs
   split at h
   ·rename_i l hl
    split at h
    ·rename_i hc
     cases h
     refine ⟨by simp [hc.2],fun _=>rfl,fun c hcc=>?_,fun hcc=>by cases hcc⟩
     cases hcc
     refine ⟨hc.1,?_⟩
     rw [Nat.mul_one,hc.2,hcs,kInts_ok hl]
    ·cases h
   ·cases h
  ·cases h
 ·cases h
def kRows (H:GH):List Value→Option Pss
 | []=>some []
 |v::vs=>match kRow H v,kRows H vs with|some p,some ps=>some (p::ps)|_,_=>none
theorem kRows_ok {H:GH}:∀ {vs:List Value} {ps:Pss},kRows H vs=some ps→vs=ps.flatMap encPL∧∀p∈ps,Elems H p.1.a 1 encI p.2:=by
 intro vs
 induction vs with
 |nil=>intro ps h; simp [kRows] at h; subst h; exact ⟨rfl,fun p hp=>by simp at hp⟩
 |cons v vs ih=>
  intro ps h
  unfold kRows at h
  split at h
  ·rename_i p ps' h1 h2
   cases h
   obtain ⟨e1,e2⟩:=ih h2
   obtain ⟨k1,k2⟩:=kRow_ok h1
   refine ⟨?_,fun q hq=>?_⟩
   ·rw [List.flatMap_cons,←e1,←k1]; rfl
   ·rcases List.mem_cons.1 hq with rfl|hq
    ·exact k2
    ·exact e2 q hq
  ·cases h
def okRows (ps:Pss):Bool:=ps.all fun p=>decide (p.2.length≤1000)&&p.2.all fun x=>decide (0≤x)&&decide (x≤1000000)
theorem okRows_ok {ps:Pss} (h:okRows ps=true):∀p∈ps,partial_ok p.2:=by
 intro p hp
 have:=List.all_eq_true.1 h p hp
 simp only [Bool.and_eq_true,decide_eq_true_eq,List.all_eq_true] at this
 exact this
def oLevel2 (H:GH) (cups w s:Int) (n:Nat):Option Pss→FR
 |some ps=>if ps.length=n∧n≤41∧okRows ps=true∧0≤w∧w≤40∧0≤s∧s≤100 then .val (.int .i64 (levelI ⟨⟨[],0⟩,[],w,s⟩ ps cups)) H else .bad
 |none=>.bad
def oLevel1 (cups:Int) (H:GH):List Value→FR
 | [.slice _ _ _,.int .i64 _,.slice _ _ _,.int .i64 w,.int .i64 s,.slice (some a) n _]=>if a.block<H.next then (match H.read a n with
  |some cs=>oLevel2 H cups w s n (kRows H cs)
  |none=>.bad) else .bad
 |_=>.bad
def oLevel:FRec→List Value→GH→FR
 |_,[.agg cs,.int .i64 cups],H=>oLevel1 cups H cs.toList
 |_,_,_=>.bad
theorem oLevel_ok {rec:FRec} {args:List Value} {H:GH} {res:FR} (h:oLevel rec args H=res):res=.bad∨∃v,res=.val v H∧C 67 args H v H:=by
 unfold oLevel at h
 split at h
 case h_2=>exact .inl h.symm
 rename_i cs cups
 obtain ⟨cl⟩:=cs
 show _∨_
 unfold oLevel1 at h
 split at h
 case h_2=>exact .inl h.symm
 rename_i a0 n0 f0 d a2 n2 f2 w s a n f hcl
 subst hcl
 split at h
 case isFalse=>exact .inl h.symm
 rename_i hab
 split at h
 case h_2=>exact .inl h.symm
 rename_i cs hcs
 unfold oLevel2 at h
 split at h
 case h_2=>exact .inl h.symm
 rename_i ps hps
 split at h
 case isFalse=>exact .inl h.symm
 rename_i hc
 obtain ⟨hn,h41,hk,w0,w1,s0,s1⟩:=hc
 subst hn
 obtain ⟨e1,e2⟩:=kRows_ok hps
 refine .inr ⟨_,h.symm,?_⟩
 have:=level_con (l:=⟨⟨⟨a0,f0⟩⟩,⟨a2,f2⟩⟩) (b:=⟨⟨List.replicate n0 default,d⟩,List.replicate n2 default,w,s⟩) ⟨w0,w1,s0,s1⟩ (ps:=ps) (ga:=some a) (gf:=f) (H:=H)
  ⟨⟨fun _=>rfl,fun c hcc=>by cases hcc; exact ⟨hab,by rw [Nat.mul_one,hcs,e1]⟩,fun hcc=>by cases hcc⟩,e2,okRows_ok hk,h41⟩ cups
 have hk:∀ {x y:Nat} {d1:Int},C 67 [filV ⟨⟨⟨a0,f0⟩⟩,⟨a2,f2⟩⟩ ⟨⟨List.replicate n0 default,d1⟩,List.replicate n2 default,w,s⟩ (.slice (some a) x f),vi cups] H (vi y) H→C 67 [.agg #[.slice a0 n0 f0,vi d1,.slice a2 n2 f2,vi w,vi s,.slice (some a) x f],vi cups] H (vi y) H:=by
  intro x y d1 h
  have e0:(List.replicate n0 (default:Row)).length=n0:=List.length_replicate
  have e2:(List.replicate n2 (default:Noz)).length=n2:=List.length_replicate
  rw [←e0,←e2]
  exact h
 exact hk this
def env (fx:List (Nat×Obj)):FEnv:=⟨T,F,Tr.nil.set 67 oLevel,fx⟩
theorem env_ok {fx:List (Nat×Obj)}:EnvOk Tryz.prog (env fx) where
 tab:=tok
 mix:=mix
 fn:=fnF
 orc:=by
  intro f o ho rec rk args H hL
  unfold env at ho
  simp only at ho
  by_cases h1:f=67
  ·subst h1
   rw [Tr.get_set_same] at ho
   cases ho
   have key:∀res:FR,oLevel rec args H=res→(∀v H',res=.val v H'→GCall Tryz.prog 67 args H (fun x h=>x=.ret v∧h=H')∧Loops (env fx) H')∧(∀v H',res=.pan v H'→GCall Tryz.prog 67 args H (fun x h=>x=.pan v∧h=H')∧Loops (env fx) H'):=by
    intro res hres
    rcases oLevel_ok hres with rfl|⟨v,rfl,hc⟩
    ·exact ⟨fun _ _ h=>(by cases h),fun _ _ h=>(by cases h)⟩
    ·refine ⟨fun v' H' h=>?_,fun _ _ h=>(by cases h)⟩
     cases h
     exact ⟨hc,hL⟩
   exact key _ rfl
  ·rw [Tr.get_set_ne _ _ h1,Tr.get_nil] at ho
   cases ho
end
end Go.Gm.Tryz
end
section
namespace Go.Gm.Tryz
open Go.Proofs
noncomputable section
def isT:FR→Bool
 | .val (.bool true) _=>true
 |_=>false
theorem k20 (fx:List (Nat×Obj)):isT (frun (env fx) 3000 (.call 8 []) (GH.emp fx))=true:=by kernel_rfl
theorem isT_ok {r:FR} (h:isT r=true):∃H,r=.val (.bool true) H:=by
 unfold isT at h
 split at h
 ·exact ⟨_,rfl⟩
 ·cases h
theorem known20_con (H:GH):C 8 [] H (.bool true) H:=by
 refine GCall.closed rfl rfl H ?_
 obtain ⟨Hc,hres⟩:=isT_ok (k20 H.fx)
 exact ((frun_ok env_ok 3000).callV 8 [] (GH.emp H.fx) _ _ ⟨fun g lr tm hg=>(by simp [GH.get,GH.emp] at hg),rfl⟩ hres).1.mono fun x h hx=>hx.1
end
end Go.Gm.Tryz
end
section
namespace Go.Gm.Tryz
open Go.Proofs
theorem rest105:∃(id:Nat) (os:Array Oper) (c:Code),g105.fn.body=some (.seq (.region id os false) c)∧codeOk T g105.plans c=true∧
  (∀(Q:Exit→Act→List Frame→World→Prop) (a:Act) (c₀ :Frame) (cs:List Frame) (w:World) (pv:Value),c₀.mode=.panicking [{ v:=pv,recovered:=false }]→
   Q .normal (a.put (some 5) pv) ({ c₀ with mode:=.panicking [{ v:=pv,recovered:=true }] }::cs) w→wpOpsSIn Fence.wide 0 Tryz.prog os Q (List.range os.size) a (c₀ ::cs) w)∧
  (∀(ρ:Rho) (H:GH) (Q:VQ) (n:Int) (g2:Nat),ρ 0=.pointer (some (ga g2 0 0))→g2<H.next→
   H.get g2=some (.arr { cells:= [vi 0],ty:=33 })→ρ 5=.iface 160 (.agg #[vi n])→
   (∀ρ' H',H.next≤H'.next→(∀g,g<H.next→g≠g2→H'.get g=H.get g)→H'.get g2=some (.arr { cells:= [vi 7],ty:=33 })→Q .normal ρ' [] H')→
   wpC ⟨Tryz.prog,T,g105.plans,14,none⟩ c Q ρ [] H):=by
 refine ⟨_,_,_,rfl,by kernel_rfl,?_,?_⟩
 ·intro Q a c₀ cs w pv hu hq
  simp [wpOpsSIn,go_sem,recoverD,hu]
  first|exact hq|exact ⟨fun _ _=>trivial,hq⟩
 intro ρ H Q n g2 e0 l2 h2 e5 hq
 simp (disch:=omega) [e0,e5,h2,eql_iface]
 refine hq _ _ (by simp) (fun g hg k2=>?_) ?_
 ·rw [GH.get_put_ne _ _ k2,GH.get_put_ne _ _ (by omega),GH.get_push_lt _ _ hg]
 ·simp (disch:=omega)
theorem catch105 {β:Bm} {H:GH} {w:World} {n:Int} {g2:Nat} {p2 pv:Value} (hR:Rel β H w) (v2:VR β (.pointer (some (ga g2 0 0))) p2)
  (vp:VR β (.iface 160 (.agg #[vi n])) pv) (l2:g2<H.next) (h2:H.get g2=some (.arr { cells:= [vi 0],ty:=33 })):
  CallsDIn Fence.wide 0 Tryz.prog 105 #[p2] (.panicking [{ v:=pv,recovered:=false }]) w fun e u' w'=>e=.returned (.tuple #[])∧u'=.panicking [{ v:=pv,recovered:=true }]∧
   ∃β' H',Rel β' H' w'∧Ext β H w β' H' w'∧H.next≤H'.next∧(∀g,g<H.next→g≠g2→H'.get g=H.get g)∧H'.get g2=some (.arr { cells:= [vi 7],ty:=33 }):=by
 obtain ⟨id,os,c,hb,hok,hA,hB⟩:=rest105
 refine callsDIn_of_wpSIn fok105.fn hb trivial fun c₀ cs hu=>?_
 apply wpSIn_seq
 apply wpSIn_region
 refine hA _ _ c₀ cs w pv hu ?_
 show c.wpSIn _ _ _ _ _ _ _
 refine wpSIn_of_wpIn rfl ?_
 have hw:=wpC_sound (X:=⟨Tryz.prog,T,g105.plans,14,none⟩) tok mix c hok (hB (upd (rho0 [.pointer (some (ga g2 0 0))]) 5 (.iface 160 (.agg #[vi n]))) H
  (fun x _ m H'=>x=.normal∧m= []∧H.next≤H'.next∧(∀g,g<H.next→g≠g2→H'.get g=H.get g)∧H'.get g2=some (.arr { cells:= [vi 7],ty:=33 })) n g2 (by simp) l2 h2 (by simp) (fun ρ' H' a b c=>⟨rfl,rfl,a,b,c⟩))
 have hn:g105.fn.ntmps=14:=rfl
 have u:=VR.undef β
 have hA2:ActR β (fa 14 (upd (rho0 [.pointer (some (ga g2 0 0))]) 5 (.iface 160 (.agg #[vi n]))) []) (({ tmps:= #[p2]++Array.replicate (g105.fn.ntmps - #[p2].size) undef,defers:= [] }:Act).put (some 5) pv):=by
  have h0:ActR β (fa 14 (rho0 [.pointer (some (ga g2 0 0))]) []) ({ tmps:= #[p2]++Array.replicate (g105.fn.ntmps - #[p2].size) undef,defers:= [] }:Act):=by
   rw [hn,fa_rho0 1 13 _ rfl]
   refine ⟨?_,.nil⟩
   simp only [Array.toList_append,Array.toList_replicate]
   exact (VRs.cons v2 .nil).append (VRs.replicate _ u)
  have h1:=h0.put (some 5) vp
  rw [fa_put] at h1
  exact h1
 refine wpIn_mono (hw β w _ none hR hA2 .none) fun e r w' hp=>?_
 obtain ⟨x,a',β',H',⟨ρ',m,rfl,rfl,rfl,k1,k2,k4⟩,hR',hE,hA',he⟩:=hp
 cases he
 have hd:r.defers= []:=by
  have:=hA'.marks
  generalize r.defers=ds at this
  cases this; rfl
 refine ⟨hd,_,rfl,.tuple #[],?_,rfl,rfl,β',H',hR',hE,k1,k2,k4⟩
 simp [results,g105]
theorem idle105':∃(id:Nat) (os:Array Oper) (c:Code),g105.fn.body=some (.seq (.region id os false) c)∧
  (∀(Q:Exit→Act→List Frame→World→Prop) (a:Act) (c₀ :Frame) (cs:List Frame) (w:World),c₀.mode=.returning→
   Q .normal (a.put (some 5) .nilIface) (c₀ ::cs) w→wpOpsSIn Fence.wide 0 Tryz.prog os Q (List.range os.size) a (c₀ ::cs) w)∧
  (∀(Q:Exit→Act→World→Prop) (t:Array Value) (w:World),14=t.size→t[5]?=some .nilIface→(∀a',a'.defers= []→Q .normal a' w)→c.wpIn Fence.wide 0 Tryz.prog Q { tmps:=t,defers:= [] } w):=by
 refine ⟨_,_,_,rfl,?_,?_⟩
 ·intro Q a c₀ cs w hu hq
  simp [wpOpsSIn,go_sem,recoverD,hu]
  exact hq
 ·intro Q t w ht h6 hq
  refine wpIn_block ?_
  refine wpIn_seq ?_
  refine wpIn_region ?_
  simp [wpOpsIn,go_sem,h6]
  refine wpIn_cond_true (by simp [Act.eval]; omega) ?_
  refine wpIn_region ?_
  simp [wpOpsIn,go_sem]
  exact hq _ rfl
theorem idle105 {w:World} {p2:Value}:
  CallsDIn Fence.wide 0 Tryz.prog 105 #[p2] .returning w fun e u' w'=>e=.returned (.tuple #[])∧u'=.returning∧w'=w:=by
 obtain ⟨id,os,c,hb,hA,hB⟩:=idle105'
 refine callsDIn_of_wpSIn fok105.fn hb trivial fun c₀ cs hu=>?_
 apply wpSIn_seq
 apply wpSIn_region
 refine hA _ _ c₀ cs w hu ?_
 show c.wpSIn _ _ _ _ _ _ _
 refine wpSIn_of_wpIn rfl ?_
 have hn:g105.fn.ntmps=14:=rfl
 refine hB _ _ w ?_ ?_ fun a' hd=>?_
 ·rw [hn]; simp
 ·rw [hn]; simp
 ·refine ⟨hd,.returning,?_,.tuple #[],?_,rfl,rfl,rfl⟩
  ·cases c₀; simp_all
  ·simp [results,g105]
theorem try_parts:∃(c0:Code) (i1 i2 i3:Nat) (o1 o2 o3:Array Oper),Tryz.f70.body=some (.seq c0 (.seq (.region i1 o1 false) (.seq (.region i2 o2 false) (.seq (.region i3 o3 false) .ret))))∧codeOk T [] c0=true∧
  (∀(H:GH) (ρ:Rho) (Q:VQ),Q .normal (upd ρ 2 (.pointer (some (ga H.next 0 0)))) [] (H.push (.arr { cells:= [vi 0],ty:=33 }))→wpC ⟨Tryz.prog,T,[],6,none⟩ c0 Q ρ [] H)∧
  (∀(Q:Exit→Act→World→Prop) (t:Array Value) (w:World) (p2:Value),6=t.size→t[2]?=some p2→(∀a',a'.defers= [{ target:=.fn (.func 105) #[p2],args:= #[] }]→a'.tmps.size=6→a'.tmps[0]?=t[0]?→a'.tmps[2]?=some p2→Q .normal a' w)→(Code.region i1 o1 false).wpIn Fence.wide 0 Tryz.prog Q { tmps:=t,defers:= [] } w)∧
  (∀(Q:Exit→Act→World→Prop) (a:Act) (w:World) (f:FuncId) (first cap:Array Value),6=a.tmps.size→a.tmps[0]?=some (.func (.func f) first cap)→Ent Tryz.prog f→
   CallsIn Fence.wide 0 Tryz.prog f (first++cap) w (fun e w'=>match e with
    | .returned _v=>∀a':Act,a'.defers=a.defers→a'.tmps.size=6→a'.tmps[2]?=a.tmps[2]?→Q .normal a' w'
    | .panicked ch=>∀a':Act,a'.defers=a.defers→a'.tmps.size=6→a'.tmps[2]?=a.tmps[2]?→Q (.panic ch) a' w'
    | .outgrown=>LetsOut Q)→(Code.region i2 o2 false).wpIn Fence.wide 0 Tryz.prog Q a w)∧
  (∀(Q:Exit→Act→World→Prop) (a:Act) (w:World) (β:Bm) (H:GH) (g2:Nat) (p2:Value),6=a.tmps.size→a.tmps[2]?=some p2→VR β (.pointer (some (ga g2 0 0))) p2→
   H.get g2=some (.arr { cells:= [vi 0],ty:=33 })→Rel β H w→
   (∀w' β',Rel β' (H.put g2 (.arr { cells:= [vi 0],ty:=33 })) w'→Ext β H w β' (H.put g2 (.arr { cells:= [vi 0],ty:=33 })) w'→Q .normal a w')→
   (Code.region i3 o3 false).wpIn Fence.wide 0 Tryz.prog Q a w):=by
 refine ⟨_,_,_,_,_,_,_,rfl,by kernel_rfl,?_,?_,?_,?_⟩
 ·intro H ρ Q hq
  simp
  exact hq
 ·intro Q t w p2 ht h2 hq
  refine wpIn_region ?_
  have hmf:∀(fn:Fn) (first cap:Array Value) (w:World),(Instr.makeFunc fn first cap).run Tryz.prog w=.ok (.func fn first cap) w:=fun _ _ _ _=>rfl
  have h4:3<t.size:=by omega
  simp [wpOpsIn,go_sem,h2,hmf,Oper.uponIn,h4]
  exact hq _ rfl (by simp; omega) (by simp) (by simp [h2])
 ·intro Q a w f first cap ht h0 hent hc
  refine wpIn_region ?_
  have h5:4<a.tmps.size:=by omega
  simp [wpOpsIn,go_sem,h0,Oper.uponIn,h5]
  refine ⟨trivial,?_⟩
  rw [hent]
  refine ⟨rfl,hc.mono ?_⟩
  intro e w' h
  cases e with
  |returned v=>exact h _ rfl (by simp; omega) (by simp)
  |panicked ch=>exact h _ rfl (by simp; omega) (by simp)
  |outgrown=>exact h
 ·intro Q a w β H g2 p2 ht h2 v2 hg2 hR hq
  refine wpIn_region ?_
  simp only [wpOpsIn,List.size_toArray,List.length_cons,List.length_nil,Nat.zero_add,List.range_succ,List.range_zero,List.nil_append]
  simp only [List.getElem?_toArray,List.getElem?_cons_zero,Region.wanted,if_true,Oper.wpIn]
  refine up_skip (st_skip rfl (by simp; rfl) rfl h2 v2 hg2 hR) fun w1 β1 hR1 hE1=>?_
  exact hq w1 β1 hR1 hE1
def TryN (H:GH) (R:GO→GH→Prop) (x:GO) (H1:GH):Prop:=
 H.next+1≤H1.next∧H1.get H.next=some box31∧match x with
  | .ret _=>R (.ret (vi 0)) (H1.put H.next box31)
  | .pan v=>∃n,v=.iface 160 (.agg #[vi n])∧∀H2,H1.next≤H2.next→(∀g,g<H1.next→g≠H.next→H2.get g=H1.get g)→R (.ret (vi 7)) H2
theorem res70 {t:Array Value} {p2:Value} (h2:t[2]?=some p2):results Tryz.f70 t=results Tryz.f70 #[undef,undef,p2,undef,undef,undef]:=by
 have hr:Tryz.f70.results= #[.cell 2 33]:=rfl
 simp [results,h2]
theorem res70_ok {t:Array Value} {p2:Value} (h2:t[2]?=some p2) {β:Bm} {H:GH} {w:World} {g2:Nat} {a:Int} (hR:Rel β H w) (v2:VR β (.pointer (some (ga g2 0 0))) p2)
  (k2:H.get g2=some (.arr { cells:= [vi a],ty:=33 })):∃v',(results Tryz.f70 t).run Tryz.prog w=.ok v' w∧VR β (vi a) v':=by
 rw [res70 h2]
 have u:=VR.undef β
 refine results_ok (P:=Tryz.prog) (vs:= [vi a]) tok hR (tm:= [undef,undef,.pointer (some (ga g2 0 0)),undef,undef,undef]) (.cons u (.cons u (.cons v2 (.cons u (.cons u (.cons u .nil)))))) ?_
 have hr:Tryz.f70.results.toList= [.cell 2 33]:=rfl
 rw [hr]
 simp [readResults,readResult,k2]
theorem try_con {f:FuncId} {first cap:Array Value} {H:GH} {R:GO→GH→Prop} (hf:GCall Tryz.prog f (first.toList++cap.toList) (H.push box31) (TryN H R)):
  GCall Tryz.prog 70 [.func (.func f) first cap] H R:=by
 have hname:(Tryz.f70.name== "runtime.NumGoroutine")=false:=by kernel_rfl
 have hfn:Tryz.prog.funcs[70]?=some Tryz.f70:=Tryz.func70
 obtain ⟨c0,i1,i2,i3,o1,o2,o3,hb,hok,hA,hB,hC,hD⟩:=try_parts
 refine ⟨fun xs w=>?_,fun β w args' hR hV=>?_⟩
 ·have h1:Tryz.f70.name≠ "runtime.NumGoroutine":=by simpa using hname
  simp [callFunc,hfn,h1,hb]
 refine callsIn_of_wp_marks hfn hb trivial ?_
 refine wpIn_seq ?_
 obtain ⟨v',rfl,hv⟩:∃v',args'= [v']∧VR β (.func (.func f) first cap) v':=by
  cases hV with
  |cons h t=>cases t; exact ⟨_,rfl,h⟩
 have hn:Tryz.f70.ntmps=6:=rfl
 have h0:ActR β (fa 6 (rho0 [.func (.func f) first cap]) []) ({ tmps:= [v'].toArray++Array.replicate (Tryz.f70.ntmps - [v'].toArray.size) undef,defers:= [] }:Act):=by
  rw [hn,fa_rho0 1 5 _ rfl]
  refine ⟨?_,.nil⟩
  simp only [Array.toList_append,Array.toList_replicate]
  exact (VRs.cons hv .nil).append (VRs.replicate _ (VR.undef β))
 have hw:=wpC_sound (X:=⟨Tryz.prog,T,[],6,none⟩) tok mix c0 hok (hA H (rho0 [.func (.func f) first cap]) (fun x ρ m H'=>x=.normal∧m= []∧H'=H.push box31∧ρ=upd (rho0 [.func (.func f) first cap]) 2 (.pointer (some (ga H.next 0 0)))) ⟨rfl,rfl,rfl,rfl⟩)
 refine wpIn_mono (hw β w _ none hR h0 .none) fun e r w1 hp=>?_
 obtain ⟨x,a',β1,H1,⟨ρ,m,rfl,rfl,rfl,rfl,rfl⟩,hR1,hE1,hA1,he⟩:=hp
 cases he
 have hsz:6=r.tmps.size:=by have:=hA1.tmps.length; simpa [fa] using this
 obtain ⟨f0,q0,vf⟩:=hA1.tmps.get? (i:=0) (v:=.func (.func f) first cap) (by simp [fa])
 obtain ⟨p2,q2,v2⟩:=hA1.tmps.get? (i:=2) (v:=.pointer (some (ga H.next 0 0))) (by simp [fa])
 simp only [Array.getElem?_toList] at q0 q2
 have hd:r.defers= []:=by
  have:=hA1.marks
  generalize r.defers=ds at this
  cases this; rfl
 obtain ⟨rt,rd⟩:=r
 simp only at hd hsz q0 q2
 subst hd
 show Code.wpIn _ _ _ _ _ _ _
 refine wpIn_seq ?_
 refine hB _ rt w1 p2 hsz q2 fun a1 k1 k2 k3 k4=>?_
 show Code.wpIn _ _ _ _ _ _ _
 refine wpIn_seq ?_
 obtain ⟨first',cap',rfl,hargs⟩:∃first' cap',f0=.func (.func f) first' cap'∧VRs β1 (first.toList++cap.toList) (first'.toList++cap'.toList):=by
  cases vf with
  |func hfn s1 x1 s2 x2=>
   cases hfn
   refine ⟨_,_,rfl,VRs.append (.of_getD (by simpa using s1) fun i hi=>?_) (.of_getD (by simpa using s2) fun i hi=>?_)⟩
   ·simpa using x1 i (by simpa using hi)
   ·simpa using x2 i (by simpa using hi)
 have hcall:=hf.2 β1 w1 _ hR1 hargs
 have harr:(first'.toList++cap'.toList).toArray=first'++cap':=by simp
 rw [harr] at hcall
 refine hC _ a1 w1 f first' cap' k2.symm (k3.trans q0) hf.1 (hcall.mono ?_)
 rintro e w2 ⟨x,β2,H2,hK,hR2,hE2,hEnd⟩
 obtain ⟨hK1,hK2,hK4⟩:=hK
 have v2':=v2.mono hE2.le
 have hent:Ent Tryz.prog 105:=fun xs w=>by
  have h1:Tryz.f105.name≠ "runtime.NumGoroutine":=by
   have:(Tryz.f105.name== "runtime.NumGoroutine")=false:=by kernel_rfl
   simpa using this
  obtain ⟨_,_,_,hb6,_⟩:=rest105
  have hb6':Tryz.f105.body=_:=hb6
  simp [callFunc,show Tryz.prog.funcs[105]?=some Tryz.f105 from Tryz.func105,h1,hb6']
 have hE02:=hE1.trans hR hE2
 cases hEnd with
 |ret hv2=>
  intro a3 d1 d2 d3
  show Code.wpIn _ _ _ _ _ _ _
  refine wpIn_seq ?_
  refine hD _ a3 w2 β2 H2 H.next p2 d2.symm (d3.trans k4) v2' hK2 hR2 fun w3 β3 hR3 hE3=>?_
  show Code.wpIn _ _ _ _ _ _ _
  refine wpIn_ret ?_
  show LeavesInM _ _ _ _ _ _ a3.defers _ _
  rw [d1,k1]
  refine ⟨by simp,.inr ⟨fun _=>by simp_all [Fence.wide],_,_,105,#[p2],rfl,?_,fun _ _=>trivial,idle105.mono ?_⟩⟩
  ·have:=hent #[p2] w3
   first|(simp [invoke]; done)|simpa [invoke] using this
  ·rintro e u' w' ⟨rfl,rfl,rfl⟩
   obtain ⟨v3r,hrun,hvr⟩:=res70_ok (t:=a3.tmps) (d3.trans k4) hR3 (v2'.mono hE3.le) (a:=0) (g2:=H.next) (by simp)
   exact ⟨v3r,hrun,_,β3,_,hK4,hR3,hE02.trans hR hE3,.ret hvr⟩
 |pan hv2=>
  intro a3 d1 d2 d3
  show LeavesInM _ _ _ _ _ _ a3.defers _ _
  rw [d1,k1]
  obtain ⟨n,rfl,hK5⟩:=hK4
  refine ⟨by simp,.inr ⟨fun _=>by simp_all [Fence.wide],_,_,105,#[p2],rfl,?_,fun _ _=>trivial,(catch105 hR2 v2' hv2 (by omega) hK2).mono ?_⟩⟩
  ·have:=hent #[p2] w2
   first|(simp [invoke]; done)|simpa [invoke] using this
  ·rintro e u' w' ⟨rfl,rfl,β3,H3,hR3,hE3,m1,m2,m4⟩
   obtain ⟨v3r,hrun,hvr⟩:=res70_ok (t:=a3.tmps) (d3.trans k4) hR3 (v2'.mono hE3.le) (a:=7) (g2:=H.next) m4
   exact ⟨v3r,hrun,_,β3,_,hK5 _ m1 m2,hR3,hE02.trans hR hE3,.ret hvr⟩
end Go.Gm.Tryz
end
section
namespace Go.Gm.Tryz
open Go.Proofs
structure NzS where
 rows:Int
 c1:Int
 c2:Int
 gives:Int
 deriving DecidableEq,Inhabited
@[simp] def encNz (x:NzS):List Value:= [vi x.rows,vi x.c1,vi x.c2,vi x.gives]
def cellsI (M:List Int):List Value:=M.map vi
theorem cellsI_len (M:List Int):(cellsI M).length=M.length:=by simp [cellsI]
theorem cellsI_at (M:List Int) (k:Nat) (h:k<M.length):List.take 1 (List.drop k (cellsI M))= [vi (M.getD k 0)]:=by
 unfold cellsI
 rw [List.drop_eq_getElem_cons (by simpa using h),getD_at h]
 simp
theorem cellsI_set (M:List Int) (k:Nat) (v:Int) (h:k<M.length):splice k [vi v] (cellsI M)=cellsI (M.set k v):=by
 unfold cellsI splice
 rw [List.map_set,List.set_eq_take_append_cons_drop]
 simp [h]
theorem zeros_cells (n:Nat):zeros n=cellsI (List.replicate n 0):=by simp [zeros,cellsI]
def NzOk (mask:Int) (x:NzS):Prop:=0≤x.c1∧x.c1≤360∧0≤x.c2∧x.c2≤360∧0≤x.gives∧x.gives≤6000∧gbin T .and 3 (vi x.rows) (vi mask)=some (vi x.rows)
def FairL (L:List NzS):Prop:=∀x∈L,∀y∈L,(x.c1=y.c1→x.gives=y.gives)∧(x.c2=y.c2→x.gives=y.gives)
structure Met (M:List Int) (L:List NzS):Prop where
 len:M.length=722
 bd:∀k,0≤M.getD k 0∧M.getD k 0≤6001
 m1:∀x∈L,M.getD x.c1.toNat 0=x.gives+1
 m2:∀x∈L,M.getD (361+x.c2.toNat) 0=x.gives+1
theorem getD_set (M:List Int) (k j:Nat) (v:Int) (h:k<M.length):(M.set k v).getD j 0=if k=j then v else M.getD j 0:=by
 simp only [List.getD_eq_getElem?_getD,List.getElem?_set]
 by_cases hk:k=j
 ·subst hk; simp [h]
 ·simp [hk]
def met0:List Int:=List.replicate 722 0
theorem met0_ok:Met met0 []:=by
 refine ⟨by unfold met0; exact List.length_replicate,fun k=>?_,fun x hx=>(by cases hx),fun x hx=>by cases hx⟩
 unfold met0
 rw [List.getD_eq_getElem?_getD,List.getElem?_replicate]
 split
 ·exact ⟨Int.le_refl _,by decide⟩
 ·exact ⟨Int.le_refl _,by decide⟩
theorem zeros_met:zeros 722=cellsI met0:=zeros_cells 722
def stp (M:List Int) (x:NzS):Nat→List Int
 |0=>M
 |1=>M.set x.c1.toNat (x.gives+1)
 |_=>(M.set x.c1.toNat (x.gives+1)).set (361+x.c2.toNat) (x.gives+1)
theorem stp_len (M:List Int) (x:NzS) (j:Nat):(stp M x j).length=M.length:=by
 unfold stp; split<;>simp
theorem Met.step {M:List Int} {L:List NzS} {x:NzS} {mask:Int} (h:Met M L) (o:NzOk mask x) (h1:0<M.getD x.c1.toNat 0→M.getD x.c1.toNat 0=x.gives+1) (h2:0<M.getD (361+x.c2.toNat) 0→M.getD (361+x.c2.toNat) 0=x.gives+1) (hok:∀y∈L,NzOk mask y) (hF:FairL L):
  Met (stp M x 2) (L++ [x])∧FairL (L++ [x]):=by
 obtain ⟨o1,o2,o3,o4,o5,o6,_⟩:=o
 have hl:=h.len
 have hg:∀k,(stp M x 2).getD k 0=if 361+x.c2.toNat=k then x.gives+1 else if x.c1.toNat=k then x.gives+1 else M.getD k 0:=fun k=>by
  show ((M.set x.c1.toNat (x.gives+1)).set (361+x.c2.toNat) (x.gives+1)).getD k 0=_
  rw [getD_set _ _ _ _ (by rw [List.length_set]; omega),getD_set _ _ _ _ (by omega)]
 have f1:∀y∈L,x.c1=y.c1→x.gives=y.gives:=fun y hy e=>by
  have:=h.m1 y hy
  rw [←e] at this
  have oy:=hok y hy
  have:=h1 (by have:=oy.2.2.2.2.1; omega)
  omega
 have f2:∀y∈L,x.c2=y.c2→x.gives=y.gives:=fun y hy e=>by
  have:=h.m2 y hy
  rw [←e] at this
  have oy:=hok y hy
  have:=h2 (by have:=oy.2.2.2.2.1; omega)
  omega
 refine ⟨⟨by rw [stp_len]; exact hl,fun k=>?_,fun y hy=>?_,fun y hy=>?_⟩,fun y hy z hz=>?_⟩
 ·rw [hg]
  have:=h.bd k
  split
  ·omega
  ·split<;>omega
 ·rw [hg]
  rcases List.mem_append.1 hy with hy|hy
  ·have oy:=hok y hy
   rw [if_neg (by have:=oy.2.1; have:=oy.1; omega)]
   split
   ·rename_i e
    have:=f1 y hy (by have:=oy.1; omega)
    omega
   ·exact h.m1 y hy
  ·simp at hy; subst hy
   rw [if_neg (by omega),if_pos rfl]
 ·rw [hg]
  rcases List.mem_append.1 hy with hy|hy
  ·have oy:=hok y hy
   split
   ·rename_i e
    have:=f2 y hy (by have:=oy.2.2.1; omega)
    omega
   ·rw [if_neg (by omega)]; exact h.m2 y hy
  ·simp at hy; subst hy
   rw [if_pos rfl]
 ·rcases List.mem_append.1 hy with hy'|hy'<;>rcases List.mem_append.1 hz with hz'|hz'
  ·exact hF y hy' z hz'
  ·obtain rfl:=List.mem_singleton.1 hz'
   exact ⟨fun e=>(f1 y hy' e.symm).symm,fun e=>(f2 y hy' e.symm).symm⟩
  ·obtain rfl:=List.mem_singleton.1 hy'
   exact ⟨f1 z hz',f2 z hz'⟩
  ·obtain rfl:=List.mem_singleton.1 hy'
   obtain rfl:=List.mem_singleton.1 hz'
   exact ⟨fun _=>rfl,fun _=>rfl⟩
theorem weigh_con (mask:Int) (L:List NzS) (hl:L.length≤100000) (hL:∀x∈L,NzOk mask x) (a:Option Addr) (fl:Nat) (H:GH) (hE:Elems H a 4 encNz L):
  GCall Tryz.prog 72 [.slice a L.length fl,vi mask] H fun x H'=>Sub H H'∧((x=.ret (.tuple #[])∧FairL L)∨∃n,x=.pan (.iface 160 (.agg #[vi n]))):=by
 refine gcall_wp tok mix fok72 (F:=g72) (c:=_) rfl (n:=57) rfl (rs:= []) rfl ?_
 simp (disch:=omega)
 generalize hH1:H.push _=H1
 have hs1:Sub H H1:=by subst hH1; exact Sub.push (.refl H) _
 have k1:H1.get H.next=some (.arr { cells:=cellsI met0,ty:=164 }):=by subst hH1; simp [zeros_met]
 have hn1:H1.next=H.next+1:=by subst hH1; simp
 clear hH1
 have hE1:=hE.mono hs1
 refine wp_up tok mix (by kernel_rfl) L.length (fun i ρ m H'=>ρ 1=vi mask∧ρ 4=.pointer (some (ga H.next 0 0))∧ρ 9=.slice a L.length fl∧ρ 10=vi L.length∧ρ 11=vi i∧m= []∧H1.next≤H'.next∧(∀g,g<H1.next→g≠H.next→H'.get g=H1.get g)∧
  FairL (L.take i)∧∃M,H'.get H.next=some (.arr { cells:=cellsI M,ty:=164 })∧Met M (L.take i)) (i0:=0) (by omega) (by
   simp
   exact ⟨fun x hx=>(by cases hx),_,k1,met0_ok⟩) ?_
 rintro i ρ m H2 hi ⟨e1,e4,e9,e10,e11,rfl,hn2,hk2,hF,M,kM,hM⟩
 simp (disch:=omega) [e10,e11]
 refine wpB_dec (fun hlt=>?_) (fun hge=>?_)
 ·have hE2:Elems H2 a 4 encNz L:=by
   refine ⟨hE1.len,fun c hc=>?_,hE1.nil⟩
   obtain ⟨q1,q2⟩:=hE1.ok c hc
   have q3:=(hE.ok c hc).1
   refine ⟨by omega,?_⟩
   rw [←q2]
   simp only [GH.read]
   rw [hk2 _ (by omega) (by omega)]
  obtain ⟨b,rfl,hab,hrd⟩:=hE2.at i hlt
  have hx:=hL _ (List.getElem_mem hlt)
  obtain ⟨o1,o2,o3,o4,o5,o6,o7⟩:=hx
  have hlt':(i:Int)<L.length:=by omega
  simp (disch:=omega) [e1,e9,e11,hrd,o7]
  generalize hH3:GH.put _ _ _=H3
  have hs3:Sub H2 H3:=by subst hH3; exact (Sub.push (.refl H2) _).put (by omega) _
  have kx:H3.get H2.next=some (.arr { cells:= [vi L[i].rows,vi L[i].c1,vi L[i].c2,vi L[i].gives],ty:=130 }):=by subst hH3; simp
  have hn3:H3.next=H2.next+1:=by subst hH3; simp
  clear hH3
  have kM3:=(hs3.2 _ (by omega)).trans kM
  refine wp_up tok mix (by kernel_rfl) 2 (fun j ρ m H'=>ρ 1=vi mask∧ρ 4=.pointer (some (ga H.next 0 0))∧ρ 6=.pointer (some (ga H2.next 0 0))∧ρ 9=.slice (some b) L.length fl∧ρ 10=vi L.length∧ρ 11=vi i∧ρ 23=.agg #[vi L[i].c1,vi L[i].c2]∧ρ 24=vi j∧m= []∧H3.next≤H'.next∧(∀g,g<H3.next→g≠H.next→H'.get g=H3.get g)∧
   H'.get H.next=some (.arr { cells:=cellsI (stp M L[i] j),ty:=164 })∧(1≤j→0<M.getD L[i].c1.toNat 0→M.getD L[i].c1.toNat 0=L[i].gives+1)∧(2≤j→0<M.getD (361+L[i].c2.toNat) 0→M.getD (361+L[i].c2.toNat) 0=L[i].gives+1)) (i0:=0) (by omega) (by
    simp [e1,e4,e9,e10,e11]
    exact kM3) ?_
  clear e1 e4 e9 e10 e11
  rintro j ρ m H4 hj ⟨e1,e4,e6,e9,e10,e11,e23,e24,rfl,hn4,hk4,k4,hc1,hc2⟩
  have kx4:=(hk4 _ (by omega) (by omega)).trans kx
  have hml:=hM.len
  have hsub:Sub H H4:=⟨by omega,fun g hg=>by rw [hk4 g (by omega) (by omega),hs3.2 g (by omega),hk2 g (by omega) (by omega),hs1.2 g hg]⟩
  simp (disch:=omega) [e24]
  refine wpB_dec (fun hlt2=>?_) (fun hge2=>?_)
  ·obtain rfl|rfl:j=0∨j=1:=by omega
   ·have hb1:=hM.bd L[i].c1.toNat
    have q1:L[i].c1.toNat+1≤M.length:=by omega
    have q2:=cellsI_at M L[i].c1.toNat (by omega)
    have q3:=cellsI_set M L[i].c1.toNat (L[i].gives+1) (by omega)
    have q4:stp M L[i] 0=M:=rfl
    rw [q4] at k4
    simp (disch:=omega) [e24,e23,e4,k4,cellsI_len,q1,q2]
    have eM:M.getD L[i].c1.toNat 0=M[L[i].c1.toNat]:=getD_at q1
    rw [eM] at hb1
    refine planG_bool (fun hp=>?_) (fun hp=>?_)<;>(try simp only [decide_eq_true_eq,decide_eq_false_iff_not] at hp)
    ·by_cases hne:M[L[i].c1.toNat]=L[i].gives+1
     ·have h0:0<L[i].gives+1:=by omega
      simp (disch:=omega) [hne,h0,e1,e4,e6,e9,e10,e11,e23,e24,k4,kx4,cellsI_len,q1,q2,q3,wrap64]
      refine ⟨by omega,fun g hg hne=>by rw [if_neg hne]; exact hk4 g hg hne,?_⟩
      rfl
     ·simp (disch:=omega) [hp,hne,e4,e6,k4,kx4,cellsI_len,q1,q2,wrap64]
      exact hsub
    ·simp (disch:=omega) [hp,e1,e4,e6,e9,e10,e11,e23,e24,k4,kx4,cellsI_len,q1,q3,wrap64]
     refine ⟨by omega,fun g hg hne=>by rw [if_neg hne]; exact hk4 g hg hne,?_⟩
     rfl
   ·have q0:361+L[i].c2.toNat<(stp M L[i] 1).length:=by rw [stp_len]; omega
    have eS:(stp M L[i] 1).getD (361+L[i].c2.toNat) 0=M.getD (361+L[i].c2.toNat) 0:=by
     show (M.set L[i].c1.toNat (L[i].gives+1)).getD _ 0=_
     rw [getD_set _ _ _ _ (by omega),if_neg (by omega)]
    have hb1:=hM.bd (361+L[i].c2.toNat)
    have q1:361+L[i].c2.toNat+1≤M.length:=by omega
    have q2:=cellsI_at (stp M L[i] 1) (361+L[i].c2.toNat) q0
    have q3:=cellsI_set (stp M L[i] 1) (361+L[i].c2.toNat) (L[i].gives+1) q0
    have q5:=stp_len M L[i] 1
    have eM:M.getD (361+L[i].c2.toNat) 0=M[361+L[i].c2.toNat]:=getD_at q1
    rw [eS,eM] at q2
    rw [eM] at hb1
    have hc1':=hc1 (by omega)
    simp (disch:=omega) [e24,e23,e4,k4,cellsI_len,q1,q2,q5]
    refine planG_bool (fun hp=>?_) (fun hp=>?_)<;>(try simp only [decide_eq_true_eq,decide_eq_false_iff_not] at hp)
    ·by_cases hne:M[361+L[i].c2.toNat]=L[i].gives+1
     ·have h0:0<L[i].gives+1:=by omega
      simp (disch:=omega) [hne,h0,e1,e4,e6,e9,e10,e11,e23,e24,k4,kx4,cellsI_len,q1,q2,q3,q5,wrap64]
      refine ⟨by omega,fun g hg hne=>by rw [if_neg hne]; exact hk4 g hg hne,rfl,?_⟩
      rw [getD_at (show L[i].c1.toNat<M.length by omega)] at hc1'
      exact hc1'
     ·simp (disch:=omega) [hp,hne,e4,e6,k4,kx4,cellsI_len,q1,q2,q5,wrap64]
      exact hsub
    ·simp (disch:=omega) [hp,e1,e4,e6,e9,e10,e11,e23,e24,k4,kx4,cellsI_len,q1,q3,q5,wrap64]
     refine ⟨by omega,fun g hg hne=>by rw [if_neg hne]; exact hk4 g hg hne,rfl,?_⟩
     rw [getD_at (show L[i].c1.toNat<M.length by omega)] at hc1'
     exact hc1'
  ·have:j=2:=by omega
   subst this
   have hx':=hL _ (List.getElem_mem hlt)
   obtain ⟨hM2,hF2⟩:=hM.step hx' (hc1 (by omega)) (hc2 (by omega)) (fun y hy=>hL y (List.mem_of_mem_take hy)) hF
   have ht:L.take (i+1)=L.take i++ [L[i]]:=List.take_succ_eq_append_getElem hlt
   rw [←ht] at hM2 hF2
   simp (disch:=omega) [e1,e4,e9,e10,e11,wrap64]
   exact ⟨hlt,by omega,fun g hg hne=>by rw [hk4 g (by omega) hne,hs3.2 g (by omega),hk2 g hg hne],hF2,_,k4,hM2⟩
 ·have:i=L.length:=by omega
  subst this
  rw [List.take_length] at hF
  simp
  refine ⟨⟨by omega,fun g hg=>by rw [hk2 g (by omega) (by omega),hs1.2 g hg]⟩,?_⟩
  exact hF
end Go.Gm.Tryz
end
section
namespace Go.Gm.Tryz
open Go.Proofs
def maskN (s:List Int):Nat:=s.foldl (fun m n=>m|||2^n.toNat) 0
theorem or_small:∀m<16,∀n<4,m|||2^n<16:=by decide
theorem maskAt {m0:Nat} (h0:m0<16):∀ {s:List Int},(∀x∈s,0≤x∧x<4)→s.foldl (fun m n=>m|||2^n.toNat) m0<16:=by
 intro s
 induction s generalizing m0 with
 |nil=>intro _; exact h0
 |cons x s ih=>
  intro h
  have hx:=h x (by simp)
  exact ih (or_small m0 h0 x.toNat (by omega)) fun y hy=>h y (List.mem_cons_of_mem _ hy)
theorem or_len:∀k<5,∀m<2^k,∀n<k,m|||2^n<2^k:=by decide
theorem mask_len {k m0:Nat} (hk:k<5) (h0:m0<2^k):∀ {s:List Int},(∀x∈s,0≤x∧x<k)→s.foldl (fun m n=>m|||2^n.toNat) m0<2^k:=by
 intro s
 induction s generalizing m0 with
 |nil=>intro _; exact h0
 |cons x s ih=>
  intro h
  have hx:=h x (by simp)
  exact ih (or_len k hk m0 h0 x.toNat (by omega)) fun y hy=>h y (List.mem_cons_of_mem _ hy)
def isI (o:Option Value) (k:Int):Bool:=match o with
 |some (.int .i64 n)=>decide (n=k)
 |_=>false
theorem isI_ok {o:Option Value} {k:Int} (h:isI o k=true):o=some (vi k):=by
 unfold isI at h
 split at h
 ·simp only [decide_eq_true_eq] at h; rw [h]
 ·cases h
theorem orChk:((List.range 16).all fun m=>(List.range 4).all fun n=>isI (gbin T .or 3 (vi (m:Nat)) (vi (2^n:Nat))) (m|||2^n:Nat))=true:=by kernel_rfl
theorem shlChk:((List.range 5).all fun n=>isI (gbin T .shl 3 (vi 1) (vi (n:Nat))) (2^n:Nat))=true:=by kernel_rfl
theorem andChk:((List.range 5).all fun k=>(List.range (2^k)).all fun m=>isI (gbin T .and 3 (vi (m:Nat)) (vi (2^k - 1:Nat))) (m:Nat))=true:=by kernel_rfl
theorem g_or (m:Nat) (hm:m<16) (n:Nat) (hn:n<4):gbin T .or 3 (vi (m:Nat)) (vi (2^n:Nat))=some (vi (m|||2^n:Nat)):=
 isI_ok (List.all_eq_true.1 (List.all_eq_true.1 orChk m (List.mem_range.2 hm)) n (List.mem_range.2 hn))
theorem g_shl (n:Nat) (hn:n<5):gbin T .shl 3 (vi 1) (vi (n:Nat))=some (vi (2^n:Nat)):=
 isI_ok (List.all_eq_true.1 shlChk n (List.mem_range.2 hn))
theorem g_and (k:Nat) (hk:k<5) (m:Nat) (hm:m<2^k):gbin T .and 3 (vi (m:Nat)) (vi (2^k - 1:Nat))=some (vi (m:Nat)):=
 isI_ok (List.all_eq_true.1 (List.all_eq_true.1 andChk k (List.mem_range.2 hk)) m (List.mem_range.2 hm))
def nzOf (t:Tbl) (s:List Int):NzS:=⟨(maskN s:Nat),countsI t 1 s,countsI t 2 s,givesI t s⟩
theorem counts_bd {t:Tbl} (ht:isTableB t=true) {s:List Int} (hs:SetOk t s) (sys:Int):0≤countsI t sys s∧countsI t sys s≤360:=by
 have key:∀l:List Int,(∀n∈l,0≤n∧n<t.rows.length)→0≤(l.map fun n=>unitI (rowAt t n) sys).sum∧(l.map fun n=>unitI (rowAt t n) sys).sum≤60*l.length:=by
  intro l
  induction l with
  |nil=>intro _; simp
  |cons n l ih=>
   intro h
   have hm:=h n (by simp)
   have h1:=unit_bd ht hm.1 hm.2 sys
   have h2:=ih fun x hx=>h x (List.mem_cons_of_mem _ hx)
   simp only [List.map_cons,List.sum_cons,List.length_cons]
   omega
 have:=key s hs.2
 have:=hs.1
 unfold countsI
 omega
theorem allSets_len2 {m:Nat} (hm:m≤4):(allSets m).length≤28672:=by
 have:∀j,j≤7→((List.range j).flatMap fun k=>setsFrom m k []).length≤j*4096:=by
  intro j
  induction j with
  |zero=>intro _; simp
  |succ j ih=>
   intro hj
   have h1:=ih (by omega)
   have h2:(setsFrom m j []).length≤4096:=Nat.le_trans (setsFrom_len j _) (pow_bd hm (by omega))
   rw [List.range_succ,List.flatMap_append,List.length_append]
   simp only [List.flatMap_cons,List.flatMap_nil,List.append_nil]
   omega
 exact this 7 (Nat.le_refl _)
theorem all_con (l:TLoc) (t:Tbl) (ht:isTableB t=true) (h4:t.rows.length≤4) (H:GH) (hT:TblIn H l t):
  GCall Tryz.prog 37 [tblV l t] H fun x H'=>Sub H H'∧∃v,x=.ret v∧OwnL H' H.next v 130 4 encNz ((allSets t.rows.length).map (nzOf t)):=by
 rcases l with ⟨⟨ra,rf⟩⟩
 refine gcall_wp tok mix fok37 (F:=g37) (c:=_) rfl (n:=40) rfl (rs:= [.tmp 2]) rfl ?_
 have hrows:=table_rows ht
 simp (disch:=omega)
 generalize hH1:GH.push (GH.push H _) _=H1
 have hs1:Sub H H1:=by subst hH1; exact (Sub.push (.refl H) _).push _
 have k1:H1.get H.next=some (.arr { cells:= [.slice ra t.rows.length rf,vi t.draw],ty:=24 }):=by subst hH1; simp
 have k3:H1.get (H.next+1)=some (.arr { cells:= [.slice none 0 0],ty:=95 }):=by subst hH1; simp
 have hn1:H1.next=H.next+2:=by subst hH1; simp
 clear hH1
 have hra:∀b,ra=some b→b.block<H.next:=fun b hb=>(Elems.ok hT b hb).1
 have hT1:TblIn H1 ⟨⟨ra,rf⟩⟩ t:=hT.mono hs1
 with_reducible refine (sets_con ⟨⟨_,_⟩⟩ t _).go ?_
 simp only [opsK_ret,wpOps_nil,seqQ_normal,putd_some]
 generalize hHd:GH.push H1 _=Hd
 have hsd:Sub H1 Hd:=by subst hHd; exact Sub.push (.refl H1) _
 have hd1:Hd.get H1.next=some (.arr { cells:= [.slice ra t.rows.length rf,vi t.draw],ty:=24 }):=by subst hHd; simp
 have hnd:Hd.next=H1.next+1:=by subst hHd; simp
 clear hHd
 have k1d:=(hsd.2 _ (by omega)).trans k1
 have k3d:=(hsd.2 _ (by omega)).trans k3
 have hTd:TblIn Hd ⟨⟨ra,rf⟩⟩ t:=hT1.mono hsd
 refine wp_iterOut tok mix rfl rfl (gf:=97) (first:= #[]) (captured:= #[.pointer (some (ga H1.next 0 0))]) (by simp) 37 (by kernel_rfl) (by kernel_rfl) (fun H v x l o o' a b c=>setR_put a b c)
  (sets_iter t hrows.1 hd1 (by omega))
  (fun k Hk Ok=>∃v,(∀g,Ok g↔g=H.next+1∨blkOf v=some g)∧Hk.get (H.next+1)=some (.arr { cells:= [v],ty:=95 })∧OwnL Hk Hd.next v 130 4 encNz (((allSets t.rows.length).map (nzOf t)).take k))
  (fun x Hk Ok=>False)
  ?_ ?_ (fun g=>g=H.next+1) ?_ ?_ ?_ ⟨.slice none 0 0,fun g=>by simp,k3d,by simp [OwnL.nil]⟩ 4 ?_ ?_ ?_ ?_
 ·rintro k Hx Hy Ok ⟨v,h2,h3,h4⟩ h5 h6 h7
  have hlt:∀g,Ok g→Hy.get g=Hx.get g:=fun g hg=>h7 g (h5 g hg) (.inl hg)
  exact ⟨v,h2,(hlt _ ((h2 _).2 (.inl rfl))).trans h3,h4.frame h6 fun g hg=>hlt g ((h2 g).2 (.inr hg))⟩
 ·rintro x Hx Hy Ok h; exact h.elim
 ·rintro g rfl; omega
 ·rintro g rfl h; omega
 ·rintro g rfl; omega
 ·intro l Hk v; simp
 ·rintro k hk Hk Ok v l d gt ⟨w,h2,h3,hown⟩ hfr hv hvb hl1 hl2 hol hgl
  obtain ⟨a,fl,rfl,hE⟩:=hv
  have h6:Hd.next≤Hk.next:=hfr.next
  have m1:Hk.get H.next=some (.arr { cells:= [.slice ra t.rows.length rf,vi t.draw],ty:=24 }):=(hfr.keep _ (by omega) (by omega)).trans k1d
  have hTk:TblIn Hk ⟨⟨ra,rf⟩⟩ t:=Elems.frm hTd hfr (fun b hb=>by have:=hra b hb; omega)
  have hset:SetOk t (allSets t.rows.length)[k]:=allSets_mem (List.getElem_mem hk)
  have hnz:((allSets t.rows.length).map (nzOf t)).take (k+1)=((allSets t.rows.length).map (nzOf t)).take k++ [nzOf t (allSets t.rows.length)[k]]:=by
   rw [List.take_succ_eq_append_getElem (by simpa using hk)]; simp
  have hak:((allSets t.rows.length).map (nzOf t)).length≤28672∧k≤(allSets t.rows.length).length:=by
   have:=allSets_len2 h4
   refine ⟨by simpa using this,by omega⟩
  generalize (allSets t.rows.length)[k]=s at hset hnz hE ⊢
  have hmk:Hk.next≠H.next:=by omega
  simp (disch:=omega) [m1]
  generalize hKa:GH.push Hk _=Ka
  have hsa:Sub Hk Ka:=by subst hKa; exact Sub.push (.refl Hk) _
  have ka:Ka.get Hk.next=some (.arr { cells:= [vi 0,vi 0,vi 0,vi 0],ty:=130 }):=by subst hKa; simp
  have hna:Ka.next=Hk.next+1:=by subst hKa; simp
  clear hKa
  have ma:=(hsa.2 _ (by omega)).trans m1
  with_reducible refine (counts_con ⟨⟨ra,rf⟩⟩ t ht 1 rfl s hset a fl Ka (hTk.mono hsa) (hE.mono hsa)).go ?_
  simp (disch:=omega) [ma]
  with_reducible refine (counts_con ⟨⟨ra,rf⟩⟩ t ht 2 rfl s hset a fl Ka (hTk.mono hsa) (hE.mono hsa)).go ?_
  simp (disch:=omega) [ma]
  with_reducible refine (gives_con ⟨⟨ra,rf⟩⟩ t ht s hset a fl Ka (hTk.mono hsa) (hE.mono hsa)).go ?_
  simp (disch:=omega) [ka]
  refine wp_up tok mix (by kernel_rfl) s.length (fun i ρ m H'=>ρ 3=.pointer (some (ga (H.next+1) 0 0))∧ρ 5=.pointer (some (ga Hk.next 0 0))∧ρ 22=.slice a s.length fl∧ρ 23=vi s.length∧ρ 24=vi i∧m= []∧H'.next=Hk.next+1∧(∀g,g<Hk.next→H'.get g=Hk.get g)∧
   H'.get Hk.next=some (.arr { cells:= [vi (maskN (s.take i):Nat),vi (countsI t 1 s),vi (countsI t 2 s),vi (givesI t s)],ty:=130 })) (i0:=0) (by omega) (by
    simp
    refine ⟨hna,fun g hg=>?_,rfl⟩
    rw [if_neg (by omega),hsa.2 g hg]) ?_
  rintro i ρ m H4 hi ⟨e3,e5,e22,e23,e24,rfl,hn4,hk4,k4⟩
  have hs4:Sub Hk H4:=⟨by omega,hk4⟩
  simp (disch:=omega) [e23,e24]
  refine wpB_dec (fun hlt=>?_) (fun hge=>?_)
  ·obtain ⟨b,rfl,hab,hrd⟩:=(hE.mono hs4).at i hlt
   have hsi:=hset.2 _ (List.getElem_mem hlt)
   have hm16:maskN (s.take i)<16:=maskAt (by decide) fun x hx=>by have:=hset.2 x (List.mem_of_mem_take hx); omega
   have g1:=g_shl (s[i]).toNat (by omega)
   have g2:=g_or _ hm16 (s[i]).toNat (by omega)
   rw [Int.toNat_of_nonneg hsi.1] at g1
   rw [show ((2^(s[i]).toNat:Nat):Int)=(2:Int)^(s[i]).toNat from by simp] at g2
   have hms:maskN (s.take (i+1))=maskN (s.take i)|||2^(s[i]).toNat:=by
    unfold maskN; rw [List.take_succ_eq_append_getElem hlt,List.foldl_append]; rfl
   have hlt':(i:Int)<s.length:=by omega
   have hs6:=hset.1
   simp (disch:=omega) [e3,e5,e22,e23,e24,hrd,k4,g1,g2,wrap64]
   refine ⟨by omega,hn4,fun g hg=>?_,?_⟩
   ·rw [if_neg (by omega)]; exact hk4 g hg
   ·rw [hms]
  ·have:i=s.length:=by omega
   subst this
   rw [List.take_length] at k4
   have m3:=(hk4 (H.next+1) (by omega)).trans h3
   simp (disch:=omega) [e3,e5,m3,k4]
   have hlen:=hown.len
   simp only [List.length_take] at hlen
   have hl9:lenOfV w≤28672:=by rw [hlen]; omega
   have c8:32*(1+lenOfV w)≤1000000:=by omega
   have c9:1+lenOfV w≤1000000:=by omega
   have hown4:=hown.sub hs4
   obtain ⟨w',H5,happ,hown',hnx,hfr',hbl⟩:=(hown4.push (.arr { cells:= [vi (maskN s:Nat),vi (countsI t 1 s),vi (countsI t 2 s),vi (givesI t s)],ty:=130 })).app (fun _=>rfl) (fun _=>rfl) (by decide) (nzOf t s) (by simp; omega)
   simp only [encNz,nzOf] at happ
   simp only [GH.next_push] at hnx hbl
   have hbw:∀g,blkOf w=some g→Hd.next≤g∧g<Hk.next:=fun g hg=>hown.blk_lt hg
   have m5:H5.get (H.next+1)=some (.arr { cells:= [w],ty:=95 }):=by
    rw [hfr' _ (by simp; omega) (fun hc=>by have:=hbw _ hc; omega),GH.get_push_lt _ _ (by omega)]; exact m3
   obtain ⟨wb,wf,rfl⟩:=hown'.slice
   have hkl:((((allSets t.rows.length).map (nzOf t)).take k)++ [nzOf t s]).length=k+1:=by
    simp; omega
   rw [hkl] at happ hown' hbl
   simp (disch:=omega) [c8,c9,happ,m5,e3]
   have hbn:∀g,blkOf (.slice wb (k+1) wf)=some g→blkOf w=some g∨H4.next≤g:=fun g hg=>(hbl g hg).imp id fun h=>by omega
   have hbo:∀g,blkOf (.slice wb (k+1) wf)=some g→Hd.next≤g∧g<H5.next:=fun g hg=>hown'.blk_lt hg
   refine ⟨fun g=>g=H.next+1∨blkOf (.slice wb (k+1) wf)=some g,⟨by simp; omega,fun g hg hno=>?_,fun g hg=>?_,fun g hg=>?_⟩,_,⟨fun g=>Iff.rfl,rfl,?_⟩⟩
   ·have q1:g≠H.next+1:=fun h=>hno ((h2 g).2 (.inl h))
    have q2:blkOf w≠some g:=fun h=>hno ((h2 g).2 (.inr h))
    rw [GH.get_put_ne _ _ q1,hfr' g (by simp; omega) q2,GH.get_push_lt _ _ (by omega),hk4 g hg]
   ·rcases hg with h|h
    ·exact .inl ((h2 g).2 (.inl h))
    ·rcases hbn g h with h|h
     ·exact .inl ((h2 g).2 (.inr h))
     ·exact .inr (by omega)
   ·rcases hg with h|h
    ·simp; omega
    ·have:=hbo g h; simp; omega
   ·rw [hnz]
    exact hown'.frame (by simp) fun g hg=>GH.get_put_ne _ _ (by have:=hbo g hg; omega)
 ·rintro H' O' mk hf hmk1 hmk2 hom hgm ⟨w,h2,h3,hown⟩
  rw [List.take_of_length_le (by simp)] at hown
  obtain ⟨wb,wf,rfl⟩:=hown.slice
  simp (disch:=omega) [hgm,h3]
  have hn:=hf.next
  refine ⟨⟨by simp; omega,fun g hg=>?_⟩,?_⟩
  ·rw [GH.get_put_ne _ _ (by omega),hf.keep g (by omega) (by omega),hsd.2 g (by omega),hs1.2 g hg]
  ·have hx:=(hown.weaken (M:=H.next) (by omega)).frame (H':=H'.put mk (.marks false)) (by simp) fun g hg=>GH.get_put_ne _ _ (fun hc=>by subst hc; exact hom ((h2 g).2 (.inr hg)))
   simpa using hx
 ·rintro x H' O' mk hf hmk1 hmk2 hom hgm h; exact h.elim
end Go.Gm.Tryz
end
section
namespace Go.Gm.Tryz
open Go.Proofs
def watersL (t:Tbl) (s:Int):List Int:=(List.range 361).map fun (n:Nat)=>waterI t s n
theorem watersL_len (t:Tbl) (s:Int):(watersL t s).length=361:=by simp [watersL]
theorem watersL_at {t:Tbl} {s:Int} {n:Nat} (h:n<(watersL t s).length):(watersL t s)[n]=waterI t s n:=by simp [watersL]
def watV (t:Tbl) (s:Int) (i:Nat) (n:Nat):Int:=match ((allSets t.rows.length).take i).find? (fun x=>decide (countsI t s x=n)) with|some x=>givesI t x|none=> -1
def watL (t:Tbl) (s:Int) (i:Nat):List Int:=(List.range 361).map (watV t s i)
theorem watL_len (t:Tbl) (s:Int) (i:Nat):(watL t s i).length=361:=by simp [watL]
theorem watL_at {t:Tbl} {s:Int} {i n:Nat} (h:n<(watL t s i).length):(watL t s i)[n]=watV t s i n:=by simp [watL]
theorem watL_zero (t:Tbl) (s:Int):watL t s 0=List.replicate 361 (-1):=by
 apply List.ext_getElem (by rw [watL_len,List.length_replicate])
 intro n h1 h2
 rw [watL_at,List.getElem_replicate]
 simp [watV]
theorem watL_all {t:Tbl} (ht:isTableB t=true) {s:Int} (hs:isSystemI s=true):watL t s (allSets t.rows.length).length=watersL t s:=by
 apply List.ext_getElem (by simp [watL,watersL])
 intro n h1 h2
 rw [watL_at,watersL_at]
 have hn:n<361:=by simpa [watL] using h1
 have hu:nisUnitsI n=true:=by simp [nisUnitsI,inI]; omega
 unfold watV waterI setArgs firstSet alikeSets
 rw [ht,hs,hu,List.take_length,List.head?_filter]
 rfl
theorem countsI_bd {t:Tbl} (h:isTableB t=true) {l:List Int} (hl:SetOk t l) (s:Int):0≤countsI t s l∧countsI t s l≤360:=by
 have h6:=hl.1
 have:∀ {l:List Int},(∀n∈l,0≤n∧n<t.rows.length)→0≤countsI t s l∧countsI t s l≤60*l.length:=by
  intro l
  induction l with
  |nil=>intro _; simp [countsI]
  |cons x l ih=>
   intro hm
   have h1:=ih fun n hn=>hm n (by simp [hn])
   have h2:=unit_bd h (hm x (by simp)).1 (hm x (by simp)).2 s
   unfold countsI at h1 ⊢
   simp only [List.map_cons,List.sum_cons,List.length_cons]
   omega
 have:=this hl.2
 omega
theorem watL_succ {t:Tbl} (ht:isTableB t=true) (s:Int) {i:Nat} (hi:i<(allSets t.rows.length).length):
  watL t s (i+1)=if watV t s i (countsI t s (allSets t.rows.length)[i]).toNat<0 then (watL t s i).set (countsI t s (allSets t.rows.length)[i]).toNat (givesI t (allSets t.rows.length)[i]) else watL t s i:=by
 have hok:=allSets_ok (t:=t) (List.getElem_mem hi)
 have hc:=countsI_bd ht hok s
 have htk:(allSets t.rows.length).take (i+1)=(allSets t.rows.length).take i++ [(allSets t.rows.length)[i]]:=List.take_succ_eq_append_getElem hi
 have hmem:∀n x,((allSets t.rows.length).take i).find? (fun x=>decide (countsI t s x=(n:Nat)))=some x→0≤givesI t x:=fun n x hx=>
  (givesI_bd ht (allSets_ok (List.mem_of_mem_take (List.mem_of_find?_eq_some hx)))).1
 have hv:∀n:Nat,watV t s (i+1) n=if watV t s i n<0∧countsI t s (allSets t.rows.length)[i]=n then givesI t (allSets t.rows.length)[i] else watV t s i n:=by
  intro n
  unfold watV
  rw [htk,List.find?_append]
  cases hf:((allSets t.rows.length).take i).find? (fun x=>decide (countsI t s x=n)) with
  |some x=>
   have:=hmem n x hf
   simp only [Option.some_or]
   rw [if_neg (by omega)]
  |none=>
   simp only [Option.none_or,List.find?_cons,List.find?_nil]
   by_cases hq:countsI t s (allSets t.rows.length)[i]=n
   ·simp [hq]
   ·simp [hq]
 obtain ⟨c,hcn⟩:=Int.eq_ofNat_of_zero_le hc.1
 rw [hcn] at hv hc ⊢
 simp only [Int.toNat_natCast]
 split
 ·rename_i hneg
  apply List.ext_getElem (by simp [watL])
  intro n h1 h2
  rw [watL_at,hv,List.getElem_set]
  by_cases hq:c=n
  ·subst hq; rw [if_pos ⟨hneg,rfl⟩,if_pos rfl]
  ·rw [if_neg (fun h=>hq (by have:=h.2; omega)),if_neg hq,watL_at]
 ·rename_i hneg
  apply List.ext_getElem (by simp [watL])
  intro n h1 h2
  rw [watL_at,hv,watL_at]
  rw [if_neg (fun h=>?_)]
  have:c=n:=by have:=h.2; omega
  subst this
  exact hneg h.1
theorem gop_makeSlice25 {ρ:Operand→Value} {H:GH} {x y:Operand} {n:Nat} (hx:ρ x=vi n) (hy:ρ y=vi n) (hn:n≤1000):
  gop T ρ H (.makeSlice 25 x y)=some (.val (.slice (some (ga H.next 0 0)) n 1) (H.push (.arr { cells:=replicateL n [vi 0],ty:=3 }))):=by
 have e:gop T ρ H (.makeSlice 25 x y)=gMakeSlice T ρ H 25 x y:=rfl
 rw [e]
 unfold gMakeSlice
 rw [hx,hy]
 simp [kindOf,limit]
 omega
theorem allSets_len {m:Nat} (hm:m≤4):(allSets m).length≤28672:=by
 have:∀j,j≤7→((List.range j).flatMap fun k=>setsFrom m k []).length≤j*4096:=by
  intro j
  induction j with
  |zero=>intro _; simp
  |succ j ih=>
   intro hj
   have:=ih (by omega)
   have h2:(setsFrom m j []).length≤4096:=Nat.le_trans (setsFrom_len j _) (pow_bd hm (by omega))
   rw [List.range_succ,List.flatMap_append]
   simp only [List.flatMap_cons,List.flatMap_nil,List.append_nil,List.length_append]
   omega
 exact this 7 (by omega)
set_option maxRecDepth 20000 in
theorem rwaters_con (l:TLoc) (t:Tbl) (ht:isTableB t=true) (hrows:t.rows.length≤4) (s:Int) (hs:isSystemI s=true) (H:GH) (hT:TblIn H l t):GCall Tryz.prog 107 [tblV l t,vi s] H fun x H'=>Sub H H'∧∃v,x=.ret v∧OwnL H' H.next v 3 1 encI (watersL t s):=by
 rcases l with ⟨⟨ra,rf⟩⟩
 refine gcall_wp tok mix fok107 (F:=g107) (c:=_) rfl (n:=50) rfl (rs:= [.tmp 4]) rfl ?_
 simp
 rw [gop_makeSlice25 (n:=361) (by simp) (by simp) (by omega)]
 generalize hH1:GH.push H _=H1
 have hs1:Sub H H1:=by subst hH1; exact Sub.push (.refl H) _
 have k1:H1.get H.next=some (.arr { cells:= [.slice ra t.rows.length rf,vi t.draw],ty:=24 }):=by subst hH1; simp
 have hn1:H1.next=H.next+1:=by subst hH1; simp
 clear hH1
 have hT1:=hT.mono hs1
 generalize hH2:GH.push H1 _=H2
 have hs2:Sub H1 H2:=by subst hH2; exact Sub.push (.refl H1) _
 have ho2:OwnL H2 H1.next (.slice (some (ga H1.next 0 0)) 361 1) 3 1 encI (List.replicate 361 (0:Int)):=by
  have hg:H2.get H1.next=some (.arr { cells:=(List.replicate 361 (0:Int)).flatMap encI,ty:=3 }):=by subst hH2; rw [GH.get_push_same,replicate_flat]; rfl
  have hn:H2.next=H1.next+1:=by subst hH2; rfl
  have:=OwnL.mk (N:=H1.next) (enc:=encI) (sz:=1) (l:=List.replicate 361 (0:Int)) (by decide) (Nat.le_refl _) (by omega) hg
  rwa [List.length_replicate] at this
 have hn2:H2.next=H1.next+1:=by subst hH2; rfl
 clear hH2
 generalize hR:List.replicate 361 (0:Int)=R at ho2
 have hRl:R.length=361:=by rw [←hR,List.length_replicate]
 have hRm:R.map (fun _=>(-1:Int))=watL t s 0:=by rw [watL_zero,←hR,List.map_replicate]
 clear hR
 have hadb:(ga H1.next 0 0).block=H1.next:=rfl
 generalize ga H1.next 0 0=ad at ho2 hadb ⊢
 simp
 refine wp_up tok mix (by kernel_rfl) R.length (fun i ρ m H'=>ρ 1=vi s∧ρ 2=.pointer (some (ga H.next 0 0))∧ρ 5=.slice (some ad) 361 1∧ρ 6=vi i∧m= []∧Sub H1 H'∧OwnL H' H1.next (.slice (some ad) 361 1) 3 1 encI (upto (fun _=>(-1:Int)) R i)) (i0:=0) (by omega)
  ⟨by simp,by simp,by simp,by simp,rfl,hs2,by rw [upto_zero]; exact ho2⟩ ?_
 rintro i ρ m H3 hi ⟨e1,e2,e5,e6,rfl,hs3,ho3⟩
 simp [e5,e6]
 rcases Nat.lt_or_ge i R.length with hlt|hge
 ·rw [hRl] at hlt
  obtain ⟨H4,hw4,ho4,hn4,hs4⟩:=ho3.wr (fun _=>rfl) (i:=i) (k:=0) (by rw [upto_len]; omega) (c:=vi (-1)) (new:= []) (by simp) (y:=(-1:Int)) (by simp [splice])
  rw [←upto_succ (fun _=>(-1:Int)) (by omega)] at ho4
  have hltI:(i:Int)<361:=by omega
  simp (disch:=omega) [hltI,e1,e2,e5,e6,hw4,wrap64]
  exact ⟨by omega,⟨by have:=hs3.1; omega,fun g hg=>by rw [hs4 g (by omega),hs3.2 g hg]⟩,ho4⟩
 have hlt:¬(i:Int)<361:=by omega
 simp [hlt]
 have:i=R.length:=by omega
 subst this
 rw [upto_all,hRm] at ho3
 have hg3:=(hs3.2 H.next (by omega)).trans k1
 have hlt3:H.next<H3.next:=by have:=hs3.1; omega
 simp (disch:=omega) [e2,hg3]
 have hSets:=r3Sets_con ⟨⟨ra,rf⟩⟩ t hrows H3 (hT1.mono hs3)
 refine hSets.mono ?_
 rintro x H4 ⟨hs4,v,rfl,hL⟩
 have ho4:=ho3.sub hs4
 have hlen:=allSets_len hrows
 obtain ⟨ls,hl1,hl2,hl3⟩:=hL
 obtain ⟨al,fl,rfl,hEl⟩:=hl1.elems (fun _=>rfl)
 have hll:ls.length=(allSets t.rows.length).length:=by rw [←hl2,List.length_map]
 simp
 refine wp_up tok mix (by kernel_rfl) ls.length (fun i ρ m H'=>ρ 1=vi s∧ρ 2=.pointer (some (ga H.next 0 0))∧ρ 5=.slice (some ad) 361 1∧ρ 7=.slice al ls.length fl∧ρ 8=vi i∧m= []∧H4.next≤H'.next∧(∀g,g<H4.next→g≠H1.next→H'.get g=H4.get g)∧OwnL H' H1.next (.slice (some ad) 361 1) 3 1 encI (watL t s i)) (i0:=0) (by omega)
  ⟨by simp [e1],by simp [e2],by simp [e5],by simp,by simp,rfl,Nat.le_refl _,fun _ _ _=>rfl,ho4⟩ ?_
 rintro i ρ m H5 hi ⟨d1,d2,d5,d7,d8,rfl,hn5,hk5,ho5⟩
 simp [d7,d8]
 have hs14:Sub H1 H4:=hs3.trans hs4
 have hs15:Sub H1 H5:=⟨by have:=hs14.1; omega,fun g hg=>by rw [hk5 g (by have:=hs14.1; omega) (by omega),hs14.2 g hg]⟩
 refine wpB_dec (fun hlt=>?_) (fun hge=>?_)
 ·have hk45:∀ {α:Type} {a:Option Addr} {sz:Nat} {enc:α→List Value} {x:List α},Elems H4 a sz enc x→(∀c,a=some c→c.block≠H1.next)→Elems H5 a sz enc x:=fun e hne=>by
   refine ⟨e.len,fun c hc=>?_,e.nil⟩
   obtain ⟨y1,y2⟩:=e.ok c hc
   refine ⟨by omega,?_⟩
   rw [←y2]
   simp only [GH.read]
   rw [hk5 _ y1 (hne c hc)]
  have hbo:=ho4.blk_some
  obtain ⟨B,hB1,hB2⟩:=ho4.blk_ty hbo
  rw [hadb] at hB1
  have hls5:Elems H5 al 1 encPL ls:=hk45 hEl fun c hc hcb=>by
   subst hc
   have:=hl1.blk_some
   obtain ⟨A,hA1,hA2⟩:=hl1.blk_ty this
   rw [hcb,hB1] at hA1
   cases hA1
   rw [hB2] at hA2
   cases hA2
  obtain ⟨b,rfl,hb,hrd⟩:=hls5.at i hlt
  have hps:(ls[i]).2=(allSets t.rows.length)[i]'(by omega):=by
   have:(ls.map Prod.snd)[i]'(by simpa using hlt)=(allSets t.rows.length)[i]'(by omega):=by simp only [hl2]
   rwa [List.getElem_map] at this
  have hil:i<(allSets t.rows.length).length:=by omega
  have hok:=allSets_ok (t:=t) (List.getElem_mem hil)
  have hcb:=countsI_bd ht hok s
  have hsu:=watL_succ ht s hil
  have hil4:=hl3 _ (List.getElem_mem hlt)
  have hI5:Elems H5 (ls[i]).1.a 1 encI (allSets t.rows.length)[i]:=by
   have:=hk45 hil4.1 fun c hc hcb=>by have:=(hil4.2 c hc).1; have:=(ho3.blk_lt ho3.blk_some).2; omega
   rwa [hps] at this
  have hg5:=(hs15.2 H.next (by omega)).trans k1
  have hlt5:H.next<H5.next:=by have:=hs15.1; omega
  have hil2:(ls[i]).2.length=((allSets t.rows.length)[i]'hil).length:=by rw [hps]
  have hcon:=r3Counts_con ⟨⟨ra,rf⟩⟩ t ht s _ hok (ls[i]).1.a (ls[i]).1.fl H5 (hT1.mono hs15) hI5
  have hgiv:=r3Gives_con ⟨⟨ra,rf⟩⟩ t ht _ hok (ls[i]).1.a (ls[i]).1.fl H5 (hT1.mono hs15) hI5
  rw [←hil2] at hcon hgiv
  obtain ⟨cn,hcn⟩:=Int.eq_ofNat_of_zero_le hcb.1
  rw [hcn] at hcon hcb hsu
  simp only [Int.toNat_natCast] at hsu
  obtain ⟨a5,ha5,hba5,hr5⟩:=(ho5.elems' (fun _=>rfl)).at cn (by rw [watL_len]; omega)
  rw [watL_at] at hr5
  cases ha5
  simp (disch:=omega) [d1,d2,d7,d8,hg5,hrd]
  refine hcon.go ?_
  simp (disch:=omega) [d5,hr5]
  have hk5':∀H6:GH,H6.next=H5.next→(∀g,g≠ad.block→H6.get g=H5.get g)→H4.next≤H6.next∧∀g,g<H4.next→g≠H1.next→H6.get g=H4.get g:=fun H6 h1 h2=>
   ⟨by omega,fun g hg hne=>by rw [h2 g (by omega),hk5 g hg hne]⟩
  refine wpB_bool (fun h6=>?_) (fun h6=>?_)<;>(try simp only [decide_eq_true_eq,decide_eq_false_iff_not] at h6)
  ·rw [if_pos h6] at hsu
   obtain ⟨H6,hw6,ho6,hn6,hs6⟩:=ho5.wr (fun _=>rfl) (i:=cn) (k:=0) (by rw [watL_len]; omega) (c:=vi (givesI t (allSets t.rows.length)[i])) (new:= []) (by simp) (y:=givesI t (allSets t.rows.length)[i]) (by simp [splice])
   rw [←hsu] at ho6
   simp (disch:=omega) [d2,d5,d7,d8,hg5,hrd]
   refine hgiv.go ?_
   simp (disch:=omega) [d1,d2,d5,d7,d8,hw6,wrap64]
   exact ⟨hlt,(hk5' H6 hn6 hs6).1,(hk5' H6 hn6 hs6).2,ho6⟩
  ·rw [if_neg h6] at hsu
   simp (disch:=omega) [d1,d2,d5,d7,d8,wrap64]
   exact ⟨hlt,hn5,hk5,by rw [hsu]; exact ho5⟩
 ·have:i=ls.length:=by omega
  subst this
  rw [hll,watL_all ht hs] at ho5
  simp [d5]
  exact ⟨hs1.trans hs15,ho5.weaken (by omega)⟩
end Go.Gm.Tryz
end
section
namespace Go.Gm.Tryz
open Go.Proofs
def vecs (b:Book) (s:Stand) (bk dy:List Int) (v1 v2 vl vo vg va vw vb vd:Value):List OS:=
 [⟨v1,3,1,(watersL b.tbl 1).map encI⟩,⟨v2,3,1,(watersL b.tbl 2).map encI⟩,⟨vl,4,1,s.lives.map encB⟩,⟨vo,3,1,s.owners.map encI⟩,⟨vg,41,5,s.grants.map encSt⟩,⟨va,3,1,s.last.map encI⟩,⟨vw,3,1,s.waits.map encI⟩,⟨vb,3,1,bk.map encI⟩,⟨vd,3,1,dy.map encI⟩]
structure RIn (H:GH) (N:Nat) (l:BLoc) (b:Book) (sg:Nat) (s:Stand) (bk dy:List Int) (v1 v2 vl vo vg va vw vb vd:Value):Prop where
 r:RecIn H N sg 168 (bookC l b) (vecs b s bk dy v1 v2 vl vo vg va vw vb vd)
 book:BookIn H l b
 bt:∀a,l.t.rows.a=some a→a.block<N
 bo:∀a,l.owners.a=some a→a.block<N
 be:∀a,l.events.a=some a→a.block<N
def RegS (H:GH) (N:Nat) (l:BLoc) (b:Book) (sg:Nat) (s:Stand) (O:Nat→Prop):Prop:=
 ∃v1 v2 vl vo vg va vw vb vd,RIn H N l b sg s (s.fell.map Prod.fst) (s.fell.map Prod.snd) v1 v2 vl vo vg va vw vb vd∧∀g,O g↔RecOwn sg (vecs b s (s.fell.map Prod.fst) (s.fell.map Prod.snd) v1 v2 vl vo vg va vw vb vd) g
section
variable {H H1:GH} {N:Nat} {l:BLoc} {b:Book} {sg:Nat} {s s1:Stand} {bk dy bk1 dy1:List Int} {O:Nat→Prop} {v1 v2 vl vo vg va vw vb vd:Value}
theorem RIn.g (h:RIn H N l b sg s bk dy v1 v2 vl vo vg va vw vb vd):H.get sg=some (.arr { cells:=bookC l b++ [v1,v2,vl,vo,vg,va,vw,vb,vd],ty:=168 }):=h.r.g
theorem RIn.sgl (h:RIn H N l b sg s bk dy v1 v2 vl vo vg va vw vb vd):N≤sg∧sg<H.next:=h.r.sgl
theorem RIn.w1 (h:RIn H N l b sg s bk dy v1 v2 vl vo vg va vw vb vd):OwnL H N v1 3 1 encI (watersL b.tbl 1):=ownL_id.1 (h.r.at (k:=0) (show 0<9 by decide))
theorem RIn.w2 (h:RIn H N l b sg s bk dy v1 v2 vl vo vg va vw vb vd):OwnL H N v2 3 1 encI (watersL b.tbl 2):=ownL_id.1 (h.r.at (k:=1) (show 1<9 by decide))
theorem RIn.lives (h:RIn H N l b sg s bk dy v1 v2 vl vo vg va vw vb vd):OwnL H N vl 4 1 encB s.lives:=ownL_id.1 (h.r.at (k:=2) (show 2<9 by decide))
theorem RIn.owners (h:RIn H N l b sg s bk dy v1 v2 vl vo vg va vw vb vd):OwnL H N vo 3 1 encI s.owners:=ownL_id.1 (h.r.at (k:=3) (show 3<9 by decide))
theorem RIn.grants (h:RIn H N l b sg s bk dy v1 v2 vl vo vg va vw vb vd):OwnL H N vg 41 5 encSt s.grants:=ownL_id.1 (h.r.at (k:=4) (show 4<9 by decide))
theorem RIn.last (h:RIn H N l b sg s bk dy v1 v2 vl vo vg va vw vb vd):OwnL H N va 3 1 encI s.last:=ownL_id.1 (h.r.at (k:=5) (show 5<9 by decide))
theorem RIn.waits (h:RIn H N l b sg s bk dy v1 v2 vl vo vg va vw vb vd):OwnL H N vw 3 1 encI s.waits:=ownL_id.1 (h.r.at (k:=6) (show 6<9 by decide))
theorem RIn.back (h:RIn H N l b sg s bk dy v1 v2 vl vo vg va vw vb vd):OwnL H N vb 3 1 encI bk:=ownL_id.1 (h.r.at (k:=7) (show 7<9 by decide))
theorem RIn.days (h:RIn H N l b sg s bk dy v1 v2 vl vo vg va vw vb vd):OwnL H N vd 3 1 encI dy:=ownL_id.1 (h.r.at (k:=8) (show 8<9 by decide))
theorem RIn.ne (h:RIn H N l b sg s bk dy v1 v2 vl vo vg va vw vb vd) (k:Nat) (hk:k<9):blkOf ((vecs b s bk dy v1 v2 vl vo vg va vw vb vd)[k]'hk).v≠some sg:=h.r.ne hk
theorem RIn.own_ (_h:RIn H N l b sg s bk dy v1 v2 vl vo vg va vw vb vd) (k:Nat) (hk:k<9) {g:Nat} (hb:blkOf ((vecs b s bk dy v1 v2 vl vo vg va vw vb vd)[k]'hk).v=some g):RecOwn sg (vecs b s bk dy v1 v2 vl vo vg va vw vb vd) g:=.inr ⟨_,List.getElem_mem hk,hb⟩
theorem RIn.sub (h:RIn H N l b sg s bk dy v1 v2 vl vo vg va vw vb vd) (hs:Sub H H1):RIn H1 N l b sg s bk dy v1 v2 vl vo vg va vw vb vd:=⟨h.r.sub hs,h.book.mono hs,h.bt,h.bo,h.be⟩
theorem RegS.lt (h:RegS H N l b sg s O):∀g,O g→N≤g∧g<H.next:=by
 obtain ⟨v1,v2,vl,vo,vg,va,vw,vb,vd,h1,h2⟩:=h
 exact fun g hg=>h1.r.lt ((h2 g).1 hg)
theorem RegS.sub (h:RegS H N l b sg s O) (hs:Sub H H1):RegS H1 N l b sg s O∧Frm O O H H1:=by
 have hlt:=h.lt
 obtain ⟨v1,v2,vl,vo,vg,va,vw,vb,vd,h1,h2⟩:=h
 exact ⟨⟨_,_,_,_,_,_,_,_,_,h1.sub hs,h2⟩,Frm.of_sub (fun g hg=>(hlt g hg).2) hs⟩
theorem RIn.keep (h:RIn H N l b sg s bk dy v1 v2 vl vo vg va vw vb vd) (hn:H.next≤H1.next) (hs:∀k,k<N→H1.get k=H.get k):BookIn H1 l b:=
 ⟨Elems.below h.book.t h.bt hn hs,Elems.below h.book.owners h.bo hn hs,Elems.below h.book.events h.be hn hs⟩
theorem RIn.wr (h:RIn H N l b sg s bk dy v1 v2 vl vo vg va vw vb vd) (k:Nat) (hk:k<9) {ls:List (List Value)} (hn:H.next≤H1.next)
  (hx:OwnL H1 N ((vecs b s bk dy v1 v2 vl vo vg va vw vb vd)[k]'hk).v ((vecs b s bk dy v1 v2 vl vo vg va vw vb vd)[k]'hk).ty ((vecs b s bk dy v1 v2 vl vo vg va vw vb vd)[k]'hk).sz id ls)
  (hs:∀j,j<H.next→blkOf ((vecs b s bk dy v1 v2 vl vo vg va vw vb vd)[k]'hk).v≠some j→H1.get j=H.get j)
  (he:(vecs b s bk dy v1 v2 vl vo vg va vw vb vd).set k { (vecs b s bk dy v1 v2 vl vo vg va vw vb vd)[k]'hk with ls:=ls }=vecs b s1 bk1 dy1 v1 v2 vl vo vg va vw vb vd):RIn H1 N l b sg s1 bk1 dy1 v1 v2 vl vo vg va vw vb vd∧(∀g,RecOwn sg (vecs b s1 bk1 dy1 v1 v2 vl vo vg va vw vb vd) g↔RecOwn sg (vecs b s bk dy v1 v2 vl vo vg va vw vb vd) g):=by
 refine ⟨⟨by rw [←he]; exact h.r.wr hk hn hx hs,h.keep hn fun j hj=>hs j (by have:=h.sgl; omega) fun hc=>by have:=((h.r.at hk).blk_lt hc).1; omega,h.bt,h.bo,h.be⟩,fun g=>?_⟩
 rw [←he]
 exact RecOwn.wr hk
theorem RIn.upd (h:RIn H N l b sg s bk dy v1 v2 vl vo vg va vw vb vd) (k:Nat) (hk:k<9) {v:Value} {ls:List (List Value)} (hn:H.next≤H1.next)
  (hx:OwnL H1 N v ((vecs b s bk dy v1 v2 vl vo vg va vw vb vd)[k]'hk).ty ((vecs b s bk dy v1 v2 vl vo vg va vw vb vd)[k]'hk).sz id ls)
  (hs:∀j,j<H.next→blkOf ((vecs b s bk dy v1 v2 vl vo vg va vw vb vd)[k]'hk).v≠some j→H1.get j=H.get j)
  (hb:∀j,blkOf v=some j→blkOf ((vecs b s bk dy v1 v2 vl vo vg va vw vb vd)[k]'hk).v=some j∨H.next≤j)
  {w1 w2 wl wo wg wa ww wb wd:Value} (he:(vecs b s bk dy v1 v2 vl vo vg va vw vb vd).set k { (vecs b s bk dy v1 v2 vl vo vg va vw vb vd)[k]'hk with v:=v,ls:=ls }=vecs b s1 bk1 dy1 w1 w2 wl wo wg wa ww wb wd):
  RIn (H1.put sg (.arr { cells:=bookC l b++ [w1,w2,wl,wo,wg,wa,ww,wb,wd],ty:=168 })) N l b sg s1 bk1 dy1 w1 w2 wl wo wg wa ww wb wd∧(∀g,RecOwn sg (vecs b s1 bk1 dy1 w1 w2 wl wo wg wa ww wb wd) g→RecOwn sg (vecs b s bk dy v1 v2 vl vo vg va vw vb vd) g∨H.next≤g):=by
 have hr:=h.r.upd hk hn hx hs hb
 rw [he] at hr
 refine ⟨⟨hr,h.keep hn fun j hj=>?_,h.bt,h.bo,h.be⟩,fun g hg=>?_⟩
 ·rw [GH.get_put_ne _ _ (by have:=h.sgl; omega)]
  exact hs j (by have:=h.sgl; omega) fun hc=>by have:=((h.r.at hk).blk_lt hc).1; omega
 ·rw [←he] at hg
  exact RecOwn.upd hk hb hg
theorem RegS.of {w1 w2 wl wo wg wa ww wb wd:Value} (_h:RIn H N l b sg s bk dy v1 v2 vl vo vg va vw vb vd) (hO:∀g,O g↔RecOwn sg (vecs b s bk dy v1 v2 vl vo vg va vw vb vd) g) (h1:RIn H1 N l b sg s1 (s1.fell.map Prod.fst) (s1.fell.map Prod.snd) w1 w2 wl wo wg wa ww wb wd)
  (hn:H.next≤H1.next) (hs:∀g,g<H.next→¬O g→H1.get g=H.get g) (hown:∀g,RecOwn sg (vecs b s1 (s1.fell.map Prod.fst) (s1.fell.map Prod.snd) w1 w2 wl wo wg wa ww wb wd) g→RecOwn sg (vecs b s bk dy v1 v2 vl vo vg va vw vb vd) g∨H.next≤g):∃O',Frm O O' H H1∧RegS H1 N l b sg s1 O':=
 ⟨_,⟨hn,hs,fun g hg=>(hown g hg).imp (hO g).2 id,fun _g hg=>(h1.r.lt hg).2⟩,_,_,_,_,_,_,_,_,_,h1,fun _g=>Iff.rfl⟩
end
section
variable {H:GH} {N:Nat} {l:BLoc} {b:Book} {sg:Nat} {s:Stand} {bk dy:List Int} {O:Nat→Prop} {v1 v2 vl vo vg va vw vb vd:Value}
theorem rWater_con (h:RIn H N l b sg s bk dy v1 v2 vl vo vg va vw vb vd) {sys u:Int} (hs:isSystemI sys=true) (hu:0≤u∧u≤360):C 111 [.pointer (some (ga sg 0 0)),vi sys,vi u] H (vi (waterI b.tbl sys u)) H:=by
 rcases l with ⟨⟨⟨ra,rf⟩⟩,⟨oa,of'⟩,⟨va',vf'⟩⟩
 refine con_wp tok mix fok111 (F:=g111) (c:=_) rfl (n:=23) rfl (rs:= [.tmp 6]) rfl (anch_closed rfl) ?_
 have hg:=h.g
 obtain ⟨u,rfl⟩:=Int.eq_ofNat_of_zero_le hu.1
 simp only [isSystemI,decide_eq_true_eq] at hs
 obtain ⟨a1,f1,rfl,hE1⟩:=h.w1.elems (fun _=>rfl)
 obtain ⟨a2,f2,rfl,hE2⟩:=h.w2.elems (fun _=>rfl)
 simp only [watersL_len] at hg
 obtain ⟨a1,rfl,_,hr1⟩:=hE1.at u (by rw [watersL_len]; omega)
 obtain ⟨a2,rfl,_,hr2⟩:=hE2.at u (by rw [watersL_len]; omega)
 rw [watersL_at] at hr1 hr2
 simp
 by_cases h1:sys=1
 ·subst h1
  simp (disch:=omega) [hg,hr1]
 ·have h2:sys=2:=by omega
  subst h2
  simp (disch:=omega) [hg,hr2]
theorem used_take (b:Book) (s:Stand) {i:Nat} (h:i<s.grants.length):((s.grants.take (i+1)).map (useG b)).sum=((s.grants.take i).map (useG b)).sum+useG b s.grants[i]:=by
 rw [List.take_succ_eq_append_getElem h,List.map_append,List.sum_append]; simp
theorem rUsed_con (h:RIn H N l b sg s bk dy v1 v2 vl vo vg va vw vb vd) (hW:Wg b s) (hlen:s.grants.length≤1000):C 134 [.pointer (some (ga sg 0 0))] H (vi (usedI b s)) H:=by
 rcases l with ⟨⟨⟨ra,rf⟩⟩,⟨oa,of'⟩,⟨va',vf'⟩⟩
 refine con_wp tok mix fok134 (F:=g134) (c:=_) rfl (n:=44) rfl (rs:= [.tmp 2]) rfl (anch_closed rfl) ?_
 have hg:=h.g
 have hR:=h
 obtain ⟨ag,fg,rfl,hE⟩:=h.grants.elems (fun _=>rfl)
 simp
 refine wp_up tok mix (by kernel_rfl) s.grants.length (fun i ρ m H1=>ρ 0=.pointer (some (ga sg 0 0))∧ρ 3=vi ((s.grants.take i).map (useG b)).sum∧ρ 4=vi i∧m= []∧H1=H) (i0:=0) (by omega) (by simp) ?_
 rintro i ρ m H1 hi ⟨e0,e3,e4,rfl,rfl⟩
 simp (disch:=omega) [e0,e4,hg]
 refine wpB_dec (fun hlt=>?_) (fun hge=>?_)
 ·obtain ⟨a,rfl,hal,hrd⟩:=hE.at i hlt
  have hm:=hW.gr _ (List.getElem_mem hlt)
  have hb1:=used_bd b (s.grants.take i)
  have hb2:=useG_bd b s.grants[i]
  have hl:(s.grants.take i).length=i:=by simp; omega
  have hut:=used_take b s hlt
  simp (disch:=omega) [e0,e4,hg,hlt,hrd]
  refine wpB_bool (fun h5=>?_) (fun h5=>?_)<;>(try simp only [Bool.not_eq_true',Bool.not_eq_false',decide_eq_true_eq,decide_eq_false_iff_not] at h5)
  ·have hu:useG b s.grants[i]=waterI b.tbl s.grants[i].system s.grants[i].units:=by unfold useG; rw [if_neg h5]
   simp (disch:=omega) [e0,e3,e4,hg,hrd]
   refine (rWater_con hR hm.1 ⟨by omega,hm.2.2⟩).go ?_
   rw [←hu]
   rw [hl] at hb1
   simp (disch:=omega) [e0,e4,wrap64]
   simp only [List.map_take] at hb1 hut ⊢
   rw [wrap64 _ (by omega) (by omega)]
   exact hut.symm
  ·have hu:useG b s.grants[i]=0:=by unfold useG; rw [if_pos (by omega)]
   simp (disch:=omega) [e0,e3,e4,wrap64]
   simp only [List.map_take] at hut ⊢
   rw [hut,hu]; simp
 ·have:i=s.grants.length:=by omega
  subst this
  rw [List.take_length] at e3
  simp [e3,usedI]
theorem rFree_con (h:RIn H N l b sg s bk dy v1 v2 vl vo vg va vw vb vd) (hW:Wg b s) (hlen:s.grants.length≤1000) (hs:0≤b.supply∧b.supply≤10000):C 112 [.pointer (some (ga sg 0 0))] H (vi (freeI b s)) H:=by
 rcases l with ⟨⟨⟨ra,rf⟩⟩,⟨oa,of'⟩,⟨va',vf'⟩⟩
 refine con_wp tok mix fok112 (F:=g112) (c:=_) rfl (n:=11) rfl (rs:= [.tmp 2]) rfl (anch_closed rfl) ?_
 have hg:=h.g
 have hb:=used_bd b s.grants
 simp (disch:=omega) [hg]
 refine (rUsed_con h hW hlen).go ?_
 rw [freeI_eq hs hlen]
 unfold usedI
 simp (disch:=omega) [hg,wrap64]
end
end Go.Gm.Tryz
end
section
namespace Go.Gm.Tryz
open Go.Proofs
section
variable {H:GH} {N:Nat} {l:BLoc} {b:Book} {sg:Nat} {s:Stand} {O:Nat→Prop} {v1 v2 vl vo vg va vw vb vd:Value}
theorem rgrant_con (h:RegS H N l b sg s O) (hlen:s.grants.length≤1000) (hl2:s.last.length≤1000) (p e sy u:Int):
  GCall Tryz.prog 113 [.pointer (some (ga sg 0 0)),vi p,vi e,vi sy,vi u] H fun x H'=>x=.ret (.tuple #[])∧∃O',Frm O O' H H'∧RegS H' N l b sg (addG s p e sy u) O':=by
 rcases l with ⟨⟨⟨ra,rf⟩⟩,⟨oa,of'⟩,⟨va',vf'⟩⟩
 obtain ⟨v1,v2,vl,vo,vg,va,vw,vb,vd,h,hO⟩:=h
 refine gcall_wp tok mix fok113 (F:=g113) (c:=_) rfl (n:=33) rfl (rs:= []) rfl ?_
 have hg:=h.g
 have hsl:=h.sgl.2
 have hsN:=h.sgl.1
 have hlg:=h.grants.len
 have hla:=h.last.len
 obtain ⟨vg',H1,happ,ho1,hn1,hf1,hb1⟩:=(h.grants.push (.arr { cells:= [vi 1,vi p,vi e,vi sy,vi u],ty:=41 })).app (by simp) (by simp) (by decide) ⟨1,p,e,sy,u⟩ (by simp; omega)
 simp only [encSt] at happ
 have c8:40*(1+s.grants.length)≤1000000:=by omega
 have c9:1+s.grants.length≤1000000:=by omega
 have hbg:blkOf vg≠some sg:=h.ne 4 (by decide)
 have hg1:H1.get sg=some (.arr { cells:=bookC ⟨⟨⟨ra,rf⟩⟩,⟨oa,of'⟩,⟨va',vf'⟩⟩ b++ [v1,v2,vl,vo,vg,va,vw,vb,vd],ty:=168 }):=by
  rw [hf1 sg (by simp; omega) hbg,GH.get_push_lt _ _ hsl]; exact hg
 simp only [GH.next_push] at hn1
 obtain ⟨ag,fg,rfl⟩:=ho1.slice
 simp (disch:=omega) [hg,hlg,c8,c9,happ,hg1]
 obtain ⟨hS1,hW1⟩:=h.upd 4 (by decide) (H1:=H1) (s1:= { s with grants:=s.grants++ [⟨1,p,e,sy,u⟩] }) (by omega) (ownL_id.2 ho1) (fun k hk hne=>by rw [hf1 k (by simp; omega) hne,GH.get_push_lt _ _ hk]) (fun k hk=>(hb1 k hk).imp id fun h=>by simp at h; omega) rfl
 simp only [bookC,List.cons_append,List.nil_append,List.length_append,List.length_cons,List.length_nil,Nat.zero_add] at hS1 hW1 hb1
 generalize hH2:H1.put sg _=H2 at hS1 ⊢
 have hf2:∀k,k<H.next→¬O k→H2.get k=H.get k:=by
  intro k hk ho
  rw [hO] at ho
  subst hH2
  rw [GH.get_put_ne _ _ (fun hc=>ho (.inl hc)),hf1 k (by simp; omega) (fun hc=>ho (h.own_ 4 (by decide) (hc))),GH.get_push_lt _ _ hk]
 have hn2:H.next+1≤H2.next:=by subst hH2; exact hn1
 clear hH2 hf1 happ hg1
 have hg2:=hS1.g
 have hsl2:=hS1.sgl.2
 obtain ⟨va1,H3,happ3,ho3,hn3,hf3,hb3⟩:=(hS1.last.push (.arr { cells:= [vi 0],ty:=3 })).app (by simp) (by simp) (by decide) 0 (by simp; omega)
 simp only [encI] at happ3
 have d8:8*(1+s.last.length)≤1000000:=by omega
 have d9:1+s.last.length≤1000000:=by omega
 have hg3:=(hf3 sg (by simp; omega) (hS1.ne 5 (by decide))).trans ((GH.get_push_lt _ _ hsl2).trans hg2)
 simp only [GH.next_push] at hn3
 obtain ⟨aa,fa',rfl⟩:=ho3.slice
 simp (disch:=omega) [hla,d8,d9,happ3,hg3]
 obtain ⟨hS2,hW2⟩:=hS1.upd 5 (by decide) (H1:=H3) (s1:=addG s p e sy u) (by omega) (ownL_id.2 ho3) (fun k hk hne=>by rw [hf3 k (by simp; omega) hne,GH.get_push_lt _ _ hk]) (fun k hk=>(hb3 k hk).imp id fun h=>by simp at h; omega) rfl
 have hfin:=RegS.of h hO hS2 (by simp; omega) (fun k hk ho=>by
  have ho':=ho
  rw [hO] at ho'
  rw [GH.get_put_ne _ _ (fun hc=>ho' (.inl hc)),hf3 k (by simp; omega) (fun hc=>ho' (h.own_ 5 (by decide) (hc))),GH.get_push_lt _ _ (by omega),hf2 k hk ho]) (fun k hk=>(hW2 k hk).elim (hW1 k) fun h=>.inr (by omega))
 simpa [addG] using hfin
theorem rserve_con (h:RegS H N l b sg s O) (hw:Wf b s) (hG:Wg b s) (hsu:0≤b.supply∧b.supply≤10000):
  GCall Tryz.prog 116 [.pointer (some (ga sg 0 0))] H fun x H'=>x=.ret (.tuple #[])∧∃O',Frm O O' H H'∧RegS H' N l b sg (serve b s) O':=by
 rcases l with ⟨⟨⟨ra,rf⟩⟩,⟨oa,of'⟩,⟨va',vf'⟩⟩
 refine gcall_wp tok mix fok116 (F:=g116) (c:=_) rfl (n:=48) rfl (rs:= []) rfl ?_
 simp
 refine wp_loop tok mix (by kernel_rfl) (fun k ρ m H1=>∃s1 O1,k=s1.waits.length∧ρ 0=.pointer (some (ga sg 0 0))∧m= []∧Frm O O1 H H1∧RegS H1 N ⟨⟨⟨ra,rf⟩⟩,⟨oa,of'⟩,⟨va',vf'⟩⟩ b sg s1 O1∧serveS b k s1=serve b s∧Wf b s1∧Wg b s1) ⟨s,O,rfl,by simp,rfl,Frm.refl (fun g hg=>(h.lt g hg).2),h,rfl,hw,hG⟩ ?_
 rintro k ρ m H1 ⟨s1,O1,rfl,e0,rfl,hf,h1,hsv,hw1,hG1⟩
 have h1':=h1
 obtain ⟨v1,v2,vl,vo,vg,va,vw,vb,vd,h1,hO⟩:=h1
 have hg:=h1.g
 have hsl:=h1.sgl.2
 obtain ⟨aw,fw,rfl,hE⟩:=h1.waits.elems (fun _=>rfl)
 simp (disch:=omega) [e0,hg]
 cases hws:s1.waits with
 |nil=>
  simp
  rw [hws] at hsv
  exact ⟨O1,hf,by rw [←hsv]; exact h1'⟩
 |cons w ws=>
  have hpos:(0:Int)<(ws.length:Int)+1:=by omega
  obtain ⟨aw,rfl,hwl,hwr⟩:=hE.at 0 (by rw [hws]; simp)
  have hw0:s1.waits[0]'(by rw [hws]; simp)=w:=by simp [hws]
  rw [hw0] at hwr
  obtain ⟨hwn0,hwn1⟩:=hw1.w w (by rw [hws]; simp)
  have hwu:=hG1.wa w (by rw [hws]; simp)
  obtain ⟨av,rfl,hvl,hvr⟩:=h1.book.events.at w.toNat (by omega)
  have hev:evAt b w=b.events[w.toNat]:=getD_at (by omega)
  have hlw:s1.waits.length=ws.length+1:=by rw [hws]; rfl
  simp (disch:=omega) [hlw,e0,hg,hwr,hvr]
  generalize hH2:GH.put _ _ _=H2
  have hs2:Sub H1 H2:=by subst hH2; exact (Sub.push (.refl H1) _).put (Nat.le_refl _) _
  have hb2:H2.get H1.next=some (.arr { cells:=encEv (evAt b w),ty:=56 }):=by subst hH2; rw [hev]; simp
  have hl2:H1.next<H2.next:=by subst hH2; simp
  clear hH2
  have h2:=h1.sub hs2
  rw [←hev]
  have hlen100:=hw1.len
  refine (rWater_con h2 hwu.1 ⟨by omega,hwu.2.2⟩).go ?_
  simp (disch:=omega) [e0]
  refine (rFree_con h2 hG1 (by omega) hsu).go ?_
  obtain ⟨h4S,hf4⟩:=h1'.sub hs2
  simp
  refine wpB_bool (fun h5=>?_) (fun h5=>?_)<;>(try simp only [decide_eq_true_eq,decide_eq_false_iff_not] at h5)
  ·simp
   refine ⟨O1,hf.trans hf4,?_⟩
   have:serve b s=s1:=by rw [←hsv,hlw]; simp only [serveS,hws]; rw [if_pos h5]
   rw [this]
   exact h4S
  ·simp (disch:=omega) [e0,hb2]
   refine (rgrant_con h4S (by omega) (by have:=hw1.last; omega) _ _ _ _).mono ?_
   rintro x H5 ⟨rfl,O5,hf5,h5'⟩
   obtain ⟨u1,u2,ul,uo,ug,ua,uw,ub,ud,h6,hO5⟩:=h5'
   have hg6:=h6.g
   have hw6:=h6.waits
   have hsl6:=h6.sgl.2
   have hsN6:=h6.sgl.1
   obtain ⟨a6,f6,rfl⟩:=hw6.slice
   have hlw6:(addG s1 (evAt b w).person (-1) (evAt b w).system (evAt b w).units).waits=w::ws:=hws
   rw [hlw6] at hw6
   cases a6 with
   |none=>
    obtain ⟨_,_,h7,h8⟩:=hw6.elems (fun _=>rfl)
    cases h7
    have:=h8.nil rfl
    cases this
   |some a6=>
   obtain ⟨hfl,_,ht6⟩:=hw6.tail (fun _=>rfl)
   subst hfl
   simp only [List.length_cons,Nat.add_sub_cancel] at ht6
   have hrs:=(ht6.elems' (fun _=>rfl)).readS
   obtain ⟨v7,H7,happ7,ho7,hn7,hf7,hb7⟩:=(OwnL.nil (H:=H5) (N:=N) (ty:=3) (sz:=1) (enc:=encI)).apps (fun _=>rfl) (fun _=>rfl) (by decide) ws (by omega)
   simp only [List.nil_append] at ho7
   have hg7:H7.get sg=_:=(hf7 sg hsl6 (by simp)).trans hg6
   have hwl100:ws.length≤100:=by have:=hw1.len; omega
   have c1:(1:Int)≤(ws.length:Int)+1:=by omega
   have d8:8*ws.length≤1000000:=by omega
   have d9:ws.length≤1000000:=by omega
   obtain ⟨a7,f7,rfl⟩:=ho7.slice
   simp (disch:=omega) [e0,hg6,hlw6,c1,hrs,happ7,hg7,d8,d9]
   obtain ⟨hS6,hW6⟩:=h6.upd 6 (by decide) (H1:=H7) (s1:= { addG s1 (evAt b w).person (-1) (evAt b w).system (evAt b w).units with waits:=ws }) hn7 (ownL_id.2 ho7) (fun k hk _=>hf7 k hk (by simp)) (fun k hk=>(hb7 k hk).imp (fun h=>by simp at h) id) rfl
   simp only [bookC,List.cons_append,List.nil_append] at hS6
   have hfin:=RegS.of h6 hO5 hS6 (by simpa using hn7) (fun k hk ho=>by
    rw [hO5] at ho
    rw [GH.get_put_ne _ _ (fun hc=>ho (.inl hc)),hf7 k hk (by simp)]) hW6
   obtain ⟨O7,hf7',h7⟩:=hfin
   have hlt:freeI b s1≥waterI b.tbl (evAt b w).system (evAt b w).units:=by omega
   refine ⟨ws.length,by omega,_,rfl,O7,((hf.trans hf4).trans hf5).trans hf7',h7,?_,?_,Wg.serve1 s1 w ws hG1 hws⟩
   ·rw [←hsv,hlw]
    simp only [serveS,hws]
    rw [if_neg h5]
   ·refine ⟨fun n hn=>hw1.w n (by rw [hws]; exact List.mem_cons_of_mem _ hn),?_,?_,hw1.own,hw1.ev,?_⟩
    ·have:=hw1.len
     simp [addG]; omega
    ·have:=hw1.last
     simp [addG]; omega
    ·have:=hw1.fe
     simpa [addG] using this
end
end Go.Gm.Tryz
end
section
namespace Go.Gm.Tryz
open Go.Proofs
section
variable {H:GH} {N:Nat} {l:BLoc} {b:Book} {sg:Nat} {s:Stand} {O:Nat→Prop}
theorem rend_con (h:RegS H N l b sg s O) (hw:Wf b s) (hG:Wg b s) (hsu:0≤b.supply∧b.supply≤10000) (g:Nat) (hgl:g<s.grants.length) (hge3:(s.grants[g]).is≠3) (day:Int):
  GCall Tryz.prog 108 [.pointer (some (ga sg 0 0)),vi g,vi day] H fun x H'=>x=.ret (.tuple #[])∧∃O',Frm O O' H H'∧RegS H' N l b sg (endS b s g day) O':=by
 rcases l with ⟨⟨⟨ra,rf⟩⟩,⟨oa,of'⟩,⟨va',vf'⟩⟩
 obtain ⟨v1,v2,vl,vo,vg,va,vw,vb,vd,h,hO⟩:=h
 refine gcall_wp tok mix fok108 (F:=g108) (c:=_) rfl (n:=42) rfl (rs:= []) rfl ?_
 have hg:=h.g
 have hsl:=h.sgl.2
 have hsN:=h.sgl.1
 have hlb:=h.back.len
 have hld:=h.days.len
 rw [List.length_map] at hlb hld
 have hfe:s.fell.length≤1000:=by have:=hw.fe; have:=hw.len; have:=List.countP_le_length (p:=fun x:GSt=>decide (x.is=3)) (l:=s.grants); omega
 obtain ⟨ag,fg,rfl,hE⟩:=h.grants.elems (fun _=>rfl)
 obtain ⟨ag,rfl,hgb,_⟩:=hE.at g hgl
 have hge:s.grants.getD g default=s.grants[g]:=getD_at hgl
 have hbk:=h.grants.blk_some
 have hbgs:ag.block≠sg:=fun hc=>h.ne 4 (by decide) (hbk.trans (congrArg some hc))
 obtain ⟨H1,hw1,ho1,hn1,hs1⟩:=h.grants.wr (fun _=>rfl) (i:=g) (k:=0) hgl (c:=vi 3) (new:= []) (by simp) (y:= { s.grants[g] with is:=3 }) (by simp [splice])
 obtain ⟨H2,hw2,ho2,hn2,hs2⟩:=ho1.wr (fun _=>rfl) (i:=g) (k:=1) (by simpa using hgl) (c:=vi (-1)) (new:= []) (by simp) (y:= { s.grants[g] with is:=3,person:= -1 }) (by simp [splice])
 have hset:(s.grants.set g { s.grants[g] with is:=3 }).set g { s.grants[g] with is:=3,person:= -1 }=s.grants.set g { s.grants[g] with is:=3,person:= -1 }:=by simp
 rw [hset] at ho2
 have hg1:=(hs1 sg (Ne.symm hbgs)).trans hg
 have hg2:=(hs2 sg (Ne.symm hbgs)).trans hg1
 have hlt:(g:Int)<s.grants.length:=by omega
 obtain ⟨hS1,hW1⟩:=h.wr 4 (by decide) (H1:=H2) (s1:= { s with grants:=s.grants.set g { s.grants[g] with is:=3,person:= -1 } }) (by omega) (ownL_id.2 ho2) (fun k hk hne=>by
  have hka:k≠ag.block:=fun hc=>hne (hbk.trans (congrArg some hc.symm))
  rw [hs2 k hka,hs1 k hka]) rfl
 obtain ⟨vb',H3,happ,ho3,hn3,hf3,hb3⟩:=(hS1.back.push (.arr { cells:= [vi g],ty:=3 })).app (by simp) (by simp) (by decide) (g:Int) (by simp; omega)
 simp only [encI] at happ
 have d8:8*(1+s.fell.length)≤1000000:=by omega
 have d9:1+s.fell.length≤1000000:=by omega
 have hsl2:=hS1.sgl.2
 simp only [GH.next_push] at hn3
 have hg3:=(hf3 sg (by simp; omega) (hS1.ne 7 (by decide))).trans ((GH.get_push_lt _ _ hsl2).trans hS1.g)
 have hl3:=ho3.len
 obtain ⟨af,ff,rfl⟩:=ho3.slice
 obtain ⟨hS2,hW2⟩:=hS1.upd 7 (by decide) (H1:=H3) (s1:= { s with grants:=s.grants.set g { s.grants[g] with is:=3,person:= -1 } }) (bk1:=s.fell.map Prod.fst++ [(g:Int)]) (dy1:=s.fell.map Prod.snd) (by omega) (ownL_id.2 ho3) (fun k hk hne=>by rw [hf3 k (by simp; omega) hne,GH.get_push_lt _ _ hk]) (fun k hk=>(hb3 k hk).imp id fun h=>by simp at h; omega) rfl
 simp only [bookC,List.cons_append,List.nil_append,List.length_append,List.length_map,List.length_cons,List.length_nil,Nat.zero_add] at hS2 hW2 hb3
 generalize hH4:H3.put sg _=H4 at hS2
 have hf4:∀k,k<H.next→¬O k→H4.get k=H.get k:=by
  intro k hk ho
  rw [hO] at ho
  have hka:k≠ag.block:=fun hc=>ho (h.own_ 4 (by decide) (hbk.trans (congrArg some hc.symm)))
  subst hH4
  rw [GH.get_put_ne _ _ (fun hc=>ho (.inl hc)),hf3 k (by simp; omega) (fun hc=>ho (h.own_ 7 (by decide) (hc))),GH.get_push_lt _ _ (by omega),hs2 k hka,hs1 k hka]
 have hn4:H2.next+1≤H4.next:=by subst hH4; exact hn3
 have hsl4:=hS2.sgl.2
 have hsN4:=hS2.sgl.1
 obtain ⟨vd',H5,happ5,ho5,hn5,hf5,hb5⟩:=(hS2.days.push (.arr { cells:= [vi day],ty:=3 })).app (by simp) (by simp) (by decide) day (by simp; omega)
 simp only [encI] at happ5
 simp only [GH.next_push] at hn5
 have hg5:=(hf5 sg (by simp; omega) (hS2.ne 8 (by decide))).trans ((GH.get_push_lt _ _ hsl4).trans hS2.g)
 have hg4:=hS2.g
 obtain ⟨ad,fd,rfl⟩:=ho5.slice
 simp only [bookC,List.cons_append,List.nil_append] at hg3 hg4 hg5
 simp (disch:=omega) [hg,hw1,hg1,hw2,hg2,hlb,hld,d8,d9,happ,hg3,hH4,happ5,hg4,hg5]
 have he:({ s with grants:=s.grants.set g { s.grants[g] with is:=3,person:= -1 },fell:=s.fell++ [((g:Int),day)] }:Stand)=endG s g day:=by unfold endG; rw [hge]
 obtain ⟨hS5,hW5⟩:=hS2.upd 8 (by decide) (H1:=H5) (s1:= { s with grants:=s.grants.set g { s.grants[g] with is:=3,person:= -1 },fell:=s.fell++ [((g:Int),day)] }) (bk1:=s.fell.map Prod.fst++ [(g:Int)]) (dy1:=s.fell.map Prod.snd++ [day]) (by omega) (ownL_id.2 ho5) (fun k hk hne=>by rw [hf5 k (by simp; omega) hne,GH.get_push_lt _ _ hk]) (fun k hk=>(hb5 k hk).imp id fun h=>by simp at h; omega) rfl
 have eb:s.fell.map Prod.fst++ [(g:Int)]=(s.fell++ [((g:Int),day)]).map Prod.fst:=by simp
 have ed:s.fell.map Prod.snd++ [day]=(s.fell++ [((g:Int),day)]).map Prod.snd:=by simp
 simp only [bookC,List.cons_append,List.nil_append,List.length_append,List.length_map,List.length_cons,List.length_nil,Nat.zero_add] at hS5 hW5
 rw [eb,ed] at hS5
 have hn5':H.next≤H5.next:=by omega
 have hfin:=RegS.of h hO hS5 (by simpa using hn5') (fun k hk ho=>by
  have ho':=ho
  rw [hO] at ho'
  rw [GH.get_put_ne _ _ (fun hc=>ho' (.inl hc)),hf5 k (by simp; omega) (fun hc=>ho' (h.own_ 8 (by decide) hc)),GH.get_push_lt _ _ (by omega),hf4 k hk ho]) (fun k hk=>(hW5 k (by rw [eb,ed]; exact hk)).elim (fun h=>(hW2 k h).elim (fun h=>.inl ((hW1 k).1 h)) fun h=>.inr (by omega)) fun h=>.inr (by omega))
 obtain ⟨O4,hf4',h4⟩:=hfin
 rw [he] at h4
 refine (rserve_con h4 (endG_wf hw hgl hge3 day) (hG.endG hgl day) hsu).mono ?_
 rintro x H6 ⟨rfl,O6,hf6,h6⟩
 simp
 exact ⟨O6,hf4'.trans hf6,h6⟩
end
end Go.Gm.Tryz
end
section
namespace Go.Gm.Tryz
open Go.Proofs
section
variable {H : GH} {N : Nat} {l : BLoc} {b : Book} {sg : Nat} {s : Stand} {O : Nat → Prop} {bk dy : List Int} {v1 v2 vl vo vg va vw vb vd : Value}
theorem rowned_con (h : RIn H N l b sg s bk dy v1 v2 vl vo vg va vw vb vd) {n : Int} (hn : 0 ≤ n) : C 110 [.pointer (some (ga sg 0 0)), vi n] H (.bool (existsB s n)) H := by
  rcases l with ⟨⟨⟨ra, rf⟩⟩, ⟨oa, of'⟩, ⟨va', vf'⟩⟩
  refine con_wp tok mix fok110 (F := g110) (c := _) rfl (n := 22) rfl (rs := [.tmp 4]) rfl (anch_closed rfl) ?_
  have hg := h.g
  obtain ⟨ag, fg, rfl, hE⟩ := h.owners.elems (fun _ => rfl)
  simp (disch := omega) [hg]
  refine contG_bool (fun h5 => ?_) (fun h5 => ?_) <;> (try simp only [decide_eq_true_eq, decide_eq_false_iff_not] at h5)
  · obtain ⟨a, rfl, hal, hrd⟩ := hE.at n.toNat (by omega)
    have e : s.owners[n.toNat]?.getD 0 = s.owners[n.toNat] := by rw [List.getElem?_eq_getElem (by omega)]; rfl
    simp (disch := omega) [hg, h5, hrd, existsB]
  · simp [h5, existsB]
theorem rfits_con (h : RIn H N l b sg s bk dy v1 v2 vl vo vg va vw vb vd) (hw : Wf b s) (hG : Wg b s) (hsu : 0 ≤ b.supply ∧ b.supply ≤ 10000) (e : Ev) (hu : isSystemI e.system = true ∧ 1 ≤ e.units ∧ e.units ≤ 360) : C 109 [.pointer (some (ga sg 0 0)), evV e] H (.bool (fitsB b s e)) H := by
  rcases l with ⟨⟨⟨ra, rf⟩⟩, ⟨oa, of'⟩, ⟨va', vf'⟩⟩
  refine con_wp tok mix fok109 (F := g109) (c := _) rfl (n := 28) rfl (rs := [.tmp 4]) rfl (anch_closed rfl) ?_
  simp
  have hlen := hw.len
  have h1 := h.sub (Sub.push (.refl H) (.arr { cells := [vi e.kind, vi e.day, vi e.person, vi e.other, vi e.estate, vi e.grant, vi e.system, vi e.units], ty := 56 }))
  refine (rWater_con h1 hu.1 ⟨by omega, hu.2.2⟩).go ?_
  simp
  refine contG_bool (fun h5 => ?_) (fun h5 => ?_) <;> (try simp only [decide_eq_true_eq, decide_eq_false_iff_not] at h5)
  · simp [h5]
    refine (rFree_con h1 hG (by omega) hsu).go ?_
    simp
    refine contG_bool (fun h6 => ?_) (fun h6 => ?_) <;> (try simp only [decide_eq_true_eq, decide_eq_false_iff_not] at h6)
    · have hg3 := h1.g
      have hsl := h1.sgl.2
      obtain ⟨aw, fw, rfl, _⟩ := h1.waits.elems (fun _ => rfl)
      simp [h6, hg3]
      simp [fitsB, h5, h6]
    · simp [h6]
      simp [fitsB, h6]
  · simp [h5]
    simp [fitsB, h5]
theorem rown_con (h : RIn H N l b sg s bk dy v1 v2 vl vo vg va vw vb vd) (hO : ∀ g, O g ↔ RecOwn sg (vecs b s bk dy v1 v2 vl vo vg va vw vb vd) g) (hlen : s.grants.length ≤ 1000) (n : Nat) (hn : n < s.owners.length) (p : Int) :
    GCall Tryz.prog 115 [.pointer (some (ga sg 0 0)), vi n, vi p] H fun x H' => x = .ret (.tuple #[]) ∧ Frm O O H H' ∧ RIn H' N l b sg (ownS s n p) bk dy v1 v2 vl vo vg va vw vb vd ∧ (∀ g, O g ↔ RecOwn sg (vecs b (ownS s n p) bk dy v1 v2 vl vo vg va vw vb vd) g) := by
  rcases l with ⟨⟨⟨ra, rf⟩⟩, ⟨oa, of'⟩, ⟨va', vf'⟩⟩
  refine gcall_wp tok mix fok115 (F := g115) (c := _) rfl (n := 41) rfl (rs := []) rfl ?_
  have hg := h.g
  have hsl := h.sgl.2
  obtain ⟨ao, fo, rfl, hE⟩ := h.owners.elems (fun _ => rfl)
  obtain ⟨ao, rfl, hob, _⟩ := hE.at n hn
  obtain ⟨ag, fg, rfl, hEg⟩ := h.grants.elems (fun _ => rfl)
  have hbk := h.owners.blk_some
  obtain ⟨H1, hw1, ho1, hn1, hs1⟩ := h.owners.wr (fun _ => rfl) (i := n) (k := 0) hn (c := vi p) (new := []) (by simp) (y := p) (by simp [splice])
  have hOo : O ao.block := (hO _).2 (h.own_ 3 (by decide) (hbk))
  have hbgs : ao.block ≠ sg := fun hc => h.ne 3 (by decide) (hbk.trans (congrArg some hc))
  have hg1 := (hs1 sg (Ne.symm hbgs)).trans hg
  have hlt : (n : Int) < s.owners.length := by omega
  have hOlt : ∀ g, O g → g < H.next := fun g hg => (h.r.lt ((hO g).1 hg)).2
  simp (disch := omega) [hg, hw1]
  obtain ⟨hS1, hW1⟩ := h.wr 3 (by decide) (H1 := H1) (s1 := { s with owners := s.owners.set n p }) (bk1 := bk) (dy1 := dy) (by omega) (ownL_id.2 ho1) (fun k hk hne => hs1 k fun hc => hne (hbk.trans (congrArg some hc.symm))) rfl
  refine wp_up tok mix (by kernel_rfl) s.grants.length (fun i ρ m H2 => ρ 0 = .pointer (some (ga sg 0 0)) ∧ ρ 1 = vi n ∧ ρ 2 = vi p ∧ ρ 6 = vi i ∧ m = [] ∧ Frm O O H H2 ∧
    RIn H2 N ⟨⟨⟨ra, rf⟩⟩, ⟨oa, of'⟩, ⟨va', vf'⟩⟩ b sg { s with owners := s.owners.set n p, grants := upto (fun x => if x.estate = (n : Int) then { x with person := p } else x) s.grants i } bk dy v1 v2 vl (.slice (some ao) s.owners.length fo) (.slice ag s.grants.length fg) va vw vb vd ∧
    (∀ g, O g ↔ RecOwn sg (vecs b { s with owners := s.owners.set n p, grants := upto (fun x => if x.estate = (n : Int) then { x with person := p } else x) s.grants i } bk dy v1 v2 vl (.slice (some ao) s.owners.length fo) (.slice ag s.grants.length fg) va vw vb vd) g)) (i0 := 0) (by omega)
    ⟨by simp, by simp, by simp, by simp, rfl, Frm.wr hOlt hOo hn1 hs1, by simpa [upto_zero] using hS1, fun g => by rw [hO g]; simpa [upto_zero] using (hW1 g).symm⟩ ?_
  rintro i ρ m H2 hi ⟨e0, e1, e2, e6, rfl, hf2, h2, hO2⟩
  have hg2 := h2.g
  simp (disch := omega) [e0, e6, hg2]
  refine wpB_dec (fun hlt2 => ?_) (fun hge => ?_)
  · obtain ⟨a2, rfl, hab, hrd⟩ := (h2.grants.elems' (fun _ => rfl)).at i (by rw [upto_len]; exact hlt2)
    rw [upto_at _ hlt2] at hrd
    have hltI : (i : Int) < s.grants.length := by omega
    have hbk2 := h2.grants.blk_some
    have hOg : O a2.block := (hO2 _).2 (h2.own_ 4 (by decide) hbk2)
    have hsu := upto_succ (fun x : GSt => if x.estate = (n : Int) then { x with person := p } else x) hlt2
    simp (disch := omega) [e0, e1, e6, hg2, hrd]
    refine wpB_bool (fun h5 => ?_) (fun h5 => ?_) <;> (try simp only [decide_eq_true_eq, decide_eq_false_iff_not] at h5)
    · obtain ⟨H4, hw4, ho4, hn4, hs4⟩ := h2.grants.wr (fun _ => rfl) (i := i) (k := 1) (by rw [upto_len]; exact hlt2) (c := vi p) (new := []) (by simp) (y := { s.grants[i] with person := p }) (by rw [upto_at _ hlt2]; simp [splice])
      simp (disch := omega) [e0, e2, e6, hg2, hw4]
      obtain ⟨h4, hW4⟩ := h2.wr 4 (by decide) (H1 := H4) (s1 := { s with owners := s.owners.set n p, grants := upto (fun x => if x.estate = (n : Int) then { x with person := p } else x) s.grants (i + 1) }) (bk1 := bk) (dy1 := dy) (by omega) (ownL_id.2 ho4) (fun k hk hne => hs4 k fun hc => hne (hbk2.trans (congrArg some hc.symm))) (by rw [hsu, if_pos h5]; simp [vecs])
      simp (disch := omega) [e1, hlt2, wrap64]
      exact ⟨hf2.trans (Frm.wr hf2.lt hOg hn4 hs4), h4, fun g => (hO2 g).trans (hW4 g).symm⟩
    · simp (disch := omega) [e0, e1, e2, e6, hlt2, wrap64]
      have : (upto (fun x : GSt => if x.estate = (n : Int) then { x with person := p } else x) s.grants i).set i s.grants[i] = upto (fun x : GSt => if x.estate = (n : Int) then { x with person := p } else x) s.grants i := by
        conv => lhs; rw [← upto_at (fun x : GSt => if x.estate = (n : Int) then { x with person := p } else x) hlt2]
        exact List.set_getElem_self _
      rw [hsu, if_neg h5, this]
      exact ⟨hf2, h2, hO2⟩
  · have : i = s.grants.length := by omega
    subst this
    rw [upto_all] at h2 hO2
    simp
    exact ⟨hf2, h2, hO2⟩
theorem rpass_con (h:RegS H N l b sg s O) (hw:Wf b s) (hG:Wg b s) (hsu:0≤b.supply∧b.supply≤10000) (day:Int):
  GCall Tryz.prog 81 [.pointer (some (ga sg 0 0)),vi day] H fun x H'=>x=.ret (.tuple #[])∧∃O',Frm O O' H H'∧RegS H' N l b sg (pass b s day) O':=by
 rcases l with ⟨⟨⟨ra,rf⟩⟩,⟨oa,of'⟩,⟨va',vf'⟩⟩
 refine gcall_wp tok mix fok81 (F:=g81) (c:=_) rfl (n:=70) rfl (rs:= []) rfl ?_
 simp
 refine wp_loop tok mix (by kernel_rfl) (fun k ρ m H1=>∃s1 O1,k=opens s1∧ρ 0=.pointer (some (ga sg 0 0))∧ρ 1=vi day∧m= []∧Frm O O1 H H1∧RegS H1 N ⟨⟨⟨ra,rf⟩⟩,⟨oa,of'⟩,⟨va',vf'⟩⟩ b sg s1 O1∧passS b day k s1=pass b s day∧Wf b s1∧Wg b s1) ⟨s,O,rfl,by simp,by simp,rfl,Frm.refl (fun g hg=>(h.lt g hg).2),h,rfl,hw,hG⟩ ?_
 rintro k ρ m H1 ⟨s1,O1,rfl,e0,e1,rfl,hf,h1,hps,hw1,hG1⟩
 have h1':=h1
 obtain ⟨v1,v2,vl,vo,vg,va,vw,vb,vd,h1,hO⟩:=h1
 have hg:=h1.g
 obtain ⟨ag,fg,rfl,hEg⟩:=h1.grants.elems (fun _=>rfl)
 obtain ⟨al,fl,rfl,hEl⟩:=h1.last.elems (fun _=>rfl)
 have hlen:=hw1.len
 have hlast:=hw1.last
 simp (disch:=omega)
 refine wp_up tok mix (by kernel_rfl) s1.grants.length (fun i ρ m H2=>ρ 0=.pointer (some (ga sg 0 0))∧ρ 1=vi day∧ρ 5=vi i∧ρ 4=vi ((List.range i).foldl (findStep s1 day) (-1))∧m= []∧H2=H1) (i0:=0) (by omega) (by simp [e0,e1]) ?_
 rintro i ρ m H2 hi ⟨f0,f1,f5,f4,rfl,rfl⟩
 obtain ⟨p1,p2,p3⟩:=find_upto s1 day i hi
 have psucc:(List.range (i+1)).foldl (findStep s1 day) (-1)=findStep s1 day ((List.range i).foldl (findStep s1 day) (-1)) i:=by rw [List.range_succ,List.foldl_append]; rfl
 generalize hat:(List.range i).foldl (findStep s1 day) (-1)=at_ at f4 p1 p2 p3 psucc
 simp (disch:=omega) [f0,f5,hg]
 refine wpB_dec (fun hlt=>?_) (fun hge=>?_)
 ·obtain ⟨a2,rfl,hab,hrd⟩:=hEg.at i hlt
  obtain ⟨a3,rfl,hlb,hlr⟩:=hEl.at i (by omega)
  have hltI:(i:Int)<s1.grants.length:=by omega
  have hltL:(i:Int)<s1.last.length:=by omega
  have hgi:s1.grants.getD i default=s1.grants[i]:=getD_at hlt
  have hli:lastAt s1 i=s1.last[i]'(by omega):=by unfold lastAt; rw [Int.toNat_natCast]; exact getD_at (by omega)
  simp (disch:=omega) [f0,f5,hg,hrd]
  have skip:((s1.grants[i]).is≠2∨lastAt s1 i≥day)→(List.range (i+1)).foldl (findStep s1 day) (-1)=at_:=fun hc=>by
   rw [psucc]; unfold findStep; rw [if_pos (by rw [hgi]; exact hc)]
  refine planG_bool (fun h2=>?_) (fun h2=>?_)<;>(try simp only [decide_eq_true_eq,decide_eq_false_iff_not] at h2)
  ·simp (disch:=omega) [f0,f1,f5,hg,hlr,h2]
   refine planG_bool (fun h3=>?_) (fun h3=>?_)<;>(try simp only [decide_eq_true_eq,decide_eq_false_iff_not] at h3)
   ·simp (disch:=omega) [f4,h3]
    have h3':¬((s1.grants[i]).is≠2∨lastAt s1 i≥day):=by rw [hli]; omega
    by_cases h4:at_<0
    ·simp (disch:=omega) [f0,f1,f5,h4,wrap64]
     refine ⟨hlt,?_⟩
     rw [psucc]; unfold findStep; rw [if_neg (by rw [hgi]; exact h3'),if_pos (.inl h4)]
    ·obtain ⟨j,rfl⟩:=Int.eq_ofNat_of_zero_le (show 0≤at_ by omega)
     have hjL:j<s1.last.length:=by omega
     have hj0:¬((j:Int)<0):=by omega
     have hjI:(j:Int)<s1.last.length:=by omega
     obtain ⟨a4,ha4,hjb,hjr⟩:=hEl.at j hjL
     cases ha4
     have hlj:lastAt s1 j=s1.last[j]:=by unfold lastAt; rw [Int.toNat_natCast]; exact getD_at hjL
     simp (disch:=omega) [f0,f4,f5,h4,hg,hlr,hjr]
     refine wpB_dec (fun h5=>?_) (fun h5=>?_)
     ·simp (disch:=omega) [f0,f1,f5,wrap64]
      refine ⟨hlt,?_⟩
      rw [psucc]; unfold findStep; rw [if_neg (by rw [hgi]; exact h3'),if_pos (.inr (by rw [hli,hlj]; exact h5))]
     ·simp (disch:=omega) [f0,f1,f4,f5,wrap64]
      refine ⟨hlt,?_⟩
      rw [psucc]; unfold findStep; rw [if_neg (by rw [hgi]; exact h3'),if_neg (by rw [hli,hlj]; omega)]
   ·simp (disch:=omega) [f0,f1,f4,f5,h3,wrap64]
    exact ⟨hlt,(skip (.inr (by rw [hli]; omega))).symm⟩
  ·simp (disch:=omega) [f0,f1,f4,f5,h2,wrap64]
   exact ⟨hlt,(skip (.inl h2)).symm⟩
 ·have:i=s1.grants.length:=by omega
  subst this
  have hfa:findAt s1 day=at_:=hat
  simp [f4]
  refine wpB_dec (fun h4=>?_) (fun h4=>?_)
  ·simp
   refine ⟨O1,hf,?_⟩
   have:passS b day (opens s1) s1=s1:=by
    cases opens s1 with
    |zero=>rfl
    |succ n=>simp only [passS]; rw [if_pos (by omega)]
   rw [←hps,this]; exact h1'
  ·obtain ⟨j,rfl⟩:=Int.eq_ofNat_of_zero_le (show 0≤at_ by omega)
   have hjL:j<s1.last.length:=by omega
   have hjG:j<s1.grants.length:=by omega
   have hjI:(j:Int)<s1.last.length:=by omega
   obtain ⟨a4,rfl,hjb,hjr⟩:=hEl.at j hjL
   have hlj:lastAt s1 j=s1.last[j]:=by unfold lastAt; rw [Int.toNat_natCast]; exact getD_at hjL
   have hj2:(s1.grants[j]).is=2:=by have:=p3 (by omega); rwa [Int.toNat_natCast,getD_at hjG] at this
   have hop:=endS_opens (b:=b) hjG hj2 (IntKind.i64.wrap (lastAt s1 j+1))
   have hps2:passS b day (opens (endS b s1 j (IntKind.i64.wrap (lastAt s1 j+1)))) (endS b s1 j (IntKind.i64.wrap (lastAt s1 j+1)))=pass b s day:=by
    rw [←hps,←hop]; simp only [passS]; rw [hfa,if_neg (by omega)]; rfl
   have hw2:=endS_wf (b:=b) hw1 hjG (by rw [hj2]; decide) (IntKind.i64.wrap (lastAt s1 j+1))
   simp (disch:=omega) [f0,f4,hg,hjr]
   rw [←hlj]
   refine (rend_con h1' hw1 hG1 hsu j hjG (by rw [hj2]; decide) _).mono ?_
   rintro x H5 ⟨rfl,O5,hf5,h5⟩
   simp [f0,f1]
   exact ⟨opens (endS b s1 j (IntKind.i64.wrap (lastAt s1 j+1))),by omega,endS b s1 j (IntKind.i64.wrap (lastAt s1 j+1)),rfl,O5,hf.trans hf5,h5,hps2,hw2,hG1.endS hjG _⟩
end
end Go.Gm.Tryz
end
end
