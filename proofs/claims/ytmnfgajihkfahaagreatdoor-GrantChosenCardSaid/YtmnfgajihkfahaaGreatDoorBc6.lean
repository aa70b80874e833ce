/- Part 6 of the proof: Gr10, Gr11. -/
import Derived.Test.YtmnfgajihkfahaaGreatDoorBc5
noncomputable section
section
namespace Go.Gm.Tryz
open Go.Proofs
def da:Value:=.slice none 0 0
theorem av4 {b:Book} {s:Stand} {H:GH} {N M:Nat} {v1 v2:Value} {x y:List Int} (_h1:bg H N v1 3 1 ca x) (_h2:bg H M v2 3 1 ca y) (hd:∀k,ak v1=some k→ak v2≠some k):
  ∀(i j:Nat) (hi:i<(ia b s [] [] v1 v2 da da da da da da da).length) (hj:j<(ia b s [] [] v1 v2 da da da da da da da).length),i≠j→∀k,ak (ia b s [] [] v1 v2 da da da da da da da)[i].v=some k→ak (ia b s [] [] v1 v2 da da da da da da da)[j].v≠some k:=by
 have hb:∀(i:Nat) (hi:i<9),2≤i→ak ((ia b s [] [] v1 v2 da da da da da da da)[i]'hi).v=none:=by
  intro i hi h2
  have:i=2∨i=3∨i=4∨i=5∨i=6∨i=7∨i=8:=by omega
  rcases this with rfl|rfl|rfl|rfl|rfl|rfl|rfl<;>rfl
 intro i j hi hj hij k hk hc
 have hi9:i<9:=hi
 have hj9:j<9:=hj
 by_cases h2i:2≤i
 ·have:=(hb i hi9 h2i).symm.trans hk; cases this
 by_cases h2j:2≤j
 ·have:=(hb j hj9 h2j).symm.trans hc; cases this
 have:(i=0∧j=1)∨(i=1∧j=0):=by omega
 rcases this with ⟨rfl,rfl⟩|⟨rfl,rfl⟩
 ·exact hd k hk hc
 ·exact hd k hc hk
theorem RIn.reg {H:GH} {N:Nat} {l:BLoc} {b:Book} {sg:Nat} {s t:Stand} {v1 v2 vl vo vg va vw vb vd:Value} (h:RIn H N l b sg s (s.fell.map Prod.fst) (s.fell.map Prod.snd) v1 v2 vl vo vg va vw vb vd) (e:t=s):∃O,eo H N l b sg t O:=by
 subst e
 exact ⟨_,_,_,_,_,_,_,_,_,_,h,fun g=>Iff.rfl⟩
theorem al7 {H:GH} {l:BLoc} {b:Book} (hb:BookIn H l b) (hB:aq b=true) (hrows:b.tbl.rows.length≤4):
  ay Tryz.prog 142 [dl l b] H fun x H'=>Sub H H'∧∃N sg O,H.next≤N∧x=.ret (.pointer (some (ga sg 0 0)))∧eo H' N l b sg (start b) O:=by
 rcases l with ⟨⟨⟨ra,rf⟩⟩,⟨oa,of'⟩,⟨va',vf'⟩⟩
 have hbo:=l8 hB
 have hp:=hbo.persons
 have ho:=hbo.owners
 refine an tok mix ar1 (F:=atv) (c:=_) rfl (n:=40) rfl (rs:= [.tmp 2]) rfl ?_
 simp
 generalize hH1:GH.push _ _=H1
 have hs1:Sub H H1:=by subst hH1; exact Sub.push (.refl H) _
 have hb1:H1.get H.next=some (.arr { cells:= [.slice ra b.tbl.rows.length rf,vi b.tbl.draw,vi b.supply,vi b.term,vi b.persons,.slice oa b.owners.length of',.slice va' b.events.length vf'],ty:=28 }):=by
  subst hH1; simp
 have hn1:H1.next=H.next+1:=by subst hH1; simp
 clear hH1
 have hbi:=hb.mono hs1
 have hw1:=aat ⟨⟨ra,rf⟩⟩ b.tbl (xj hB) hrows 1 rfl H1 hbi.t
 refine hw1.mono ?_
 rintro x H2 ⟨hs2,v1,rfl,ho1⟩
 have hn2:=hs2.1
 have hb2:=(hs2.2 H.next (by omega)).trans hb1
 have hw2:=aat ⟨⟨ra,rf⟩⟩ b.tbl (xj hB) hrows 2 rfl H2 (hbi.mono hs2).t
 simp (disch:=omega) [hb2]
 refine hw2.mono ?_
 rintro x H3 ⟨hs3,v2,rfl,ho2⟩
 have hn3:=hs3.1
 have hb3:=(hs3.2 H.next (by omega)).trans hb2
 obtain ⟨a1,q1,rfl⟩:=ho1.slice
 obtain ⟨a2,q2,rfl⟩:=ho2.slice
 obtain ⟨P,hP⟩:∃P:Nat,b.persons=P:=⟨b.persons.toNat,by omega⟩
 simp (disch:=omega) [hb3]
 generalize hH4:GH.push H3 _=H4
 have hs4:Sub H3 H4:=by subst hH4; exact Sub.push (.refl H3) _
 have hn4:H4.next=H3.next+1:=by subst hH4; simp
 have hsub:=hs1.trans (hs2.trans (hs3.trans hs4))
 have hR4:RIn H4 H1.next ⟨⟨⟨ra,rf⟩⟩,⟨oa,of'⟩,⟨va',vf'⟩⟩ b H3.next ⟨[],[],[],[],[],[]⟩ [] [] (.slice a1 (gx b.tbl 1).length q1) (.slice a2 (gx b.tbl 2).length q2) da da da da da da da:=by
  have hnil:∀ {ty sz:Nat},bg H4 H1.next da ty sz id []:=.inl ⟨rfl,rfl⟩
  refine ⟨⟨?_,⟨by omega,by omega⟩,?_,av4 (ho1.sub (hs3.trans hs4)) (ho2.sub hs4) fun k hk hc=>?_⟩,hb.mono hsub,fun a ha=>?_,fun a ha=>?_,fun a ha=>?_⟩
  ·subst hH4; rw [GH.get_push_same]; rfl
  ·intro o hom
   simp only [ia,List.mem_cons,List.mem_nil_iff,or_false] at hom
   rcases hom with rfl|rfl|rfl|rfl|rfl|rfl|rfl|rfl|rfl
   ·exact ⟨cr.2 (ho1.sub (hs3.trans hs4)),by simp⟩
   ·exact ⟨cr.2 ((ho2.sub hs4).weaken (by omega)),by simp⟩
   all_goals exact ⟨hnil,by simp⟩
  ·have:=(ho1.blk_lt hk).2
   have:=(ho2.blk_lt hc).1
   omega
  ·have:=(hb.t.ok a ha).1; omega
  ·have:=(hb.owners.ok a ha).1; omega
  ·have:=(hb.events.ok a ha).1; omega
 have hb4:=(hs4.2 H.next (by omega)).trans hb3
 clear hH4
 refine cv tok mix (by kernel_rfl) P (fun i ρ m H5=>ρ 1=.pointer (some (ga H.next 0 0))∧ρ 3=.pointer (some (ga H3.next 0 0))∧ρ 4=vi i∧m= []∧Sub H H5∧H5.get H.next=H4.get H.next∧
  ∃vl,RIn H5 H1.next ⟨⟨⟨ra,rf⟩⟩,⟨oa,of'⟩,⟨va',vf'⟩⟩ b H3.next ⟨List.replicate i true,[],[],[],[],[]⟩ [] [] (.slice a1 (gx b.tbl 1).length q1) (.slice a2 (gx b.tbl 2).length q2) vl da da da da da da) (i0:=0) (by omega)
  ⟨by simp,by simp,by simp,rfl,hsub,rfl,_,hR4⟩ ?_
 rintro i ρ m H5 hi ⟨e1,e3,e4,rfl,hs5,hk5,vl,h5⟩
 have hb5:=hk5.trans hb4
 have hg5:=h5.g
 have hsl5:=h5.sgl.2
 have hsN5:=h5.sgl.1
 have hlt5:H.next<H5.next:=by omega
 simp only [bq,List.cons_append,List.nil_append] at hg5
 simp (disch:=omega) [e1,e4,hb5]
 by_cases hlt:i<P
 ·have hltI:(i:Int)<b.persons:=by omega
  have hlv:=h5.lives.len
  simp only [List.length_replicate] at hlv
  obtain ⟨vl',H6,happ,ho6,hn6,hf6,hb6⟩:=(h5.lives.push (.arr { cells:= [.bool true],ty:=4 })).app (by simp) (by simp) (by decide) true (by simp; omega)
  simp only [aku] at happ
  have d8:1*(1+i)≤1000000:=by omega
  have d9:1+i≤1000000:=by omega
  have hg6:=(hf6 H3.next (by simp; omega) (h5.ne 2 (by decide))).trans ((GH.get_push_lt _ _ hsl5).trans hg5)
  have hb6':=(hf6 H.next (by simp; omega) (fun hc=>by have:=(h5.lives.blk_lt hc).1; omega)).trans (GH.get_push_lt _ _ hlt5)
  simp only [GH.next_push] at hn6
  obtain ⟨al,fl,rfl⟩:=ho6.slice
  simp (disch:=omega) [hltI,e1,e3,e4,hg5,hlv,d9,happ,hg6,aj]
  obtain ⟨hS6,_⟩:=h5.upd 2 (by decide) (H1:=H6) (s1:=⟨List.replicate i true++ [true],[],[],[],[],[]⟩) (bk1:= []) (dy1:= []) (by omega) (cr.2 ho6) (fun k hk hne=>by rw [hf6 k (by simp; omega) hne,GH.get_push_lt _ _ hk]) (fun k hk=>(hb6 k hk).imp id fun h=>by simp at h; omega) rfl
  simp only [bq,List.cons_append,List.nil_append,List.length_append,List.length_cons,List.length_nil,Nat.zero_add,List.length_replicate] at hS6
  have hrep:List.replicate i true++ [true]=List.replicate (i+1) true:=by rw [List.replicate_succ']
  rw [hrep] at hS6
  refine ⟨hlt,⟨?_,fun g hg=>?_⟩,?_,_,hS6⟩
  ·have:=hs5.1; simp; omega
  ·rw [GH.get_put_ne _ _ (by omega),hf6 g (by have:=hs5.1; simp; omega) (fun hc=>by have:=(h5.lives.blk_lt hc).1; omega),GH.get_push_lt _ _ (by have:=hs5.1; omega),hs5.2 g hg]
  ·rw [hb6',hk5]
 ·have hge:¬(i:Int)<b.persons:=by omega
  have:i=P:=by omega
  subst this
  have hbo5:=(hb.owners.mono hs5)
  have hrs:=hbo5.readS
  obtain ⟨v7,H7,happ7,ho7,hn7,hf7,hb7⟩:=(bg.nil (H:=H5) (N:=H1.next) (ty:=3) (sz:=1) (enc:=ca)).apps (fun _=>rfl) (fun _=>rfl) (by decide) b.owners (by omega)
  simp only [List.nil_append] at ho7
  have hg7:=(hf7 H3.next hsl5 (by simp)).trans hg5
  have d8:8*b.owners.length≤1000000:=by omega
  have d9:b.owners.length≤1000000:=by omega
  obtain ⟨a7,f7,rfl⟩:=ho7.slice
  simp (disch:=omega) [hge,e1,e3,hg5,hb5,da,hrs,d8,d9,happ7,hg7]
  obtain ⟨hS7,_⟩:=h5.upd 3 (by decide) (H1:=H7) (s1:=⟨List.replicate i true,b.owners,[],[],[],[]⟩) (bk1:= []) (dy1:= []) hn7 (cr.2 ho7) (fun k hk _=>hf7 k hk (by simp)) (fun k hk=>(hb7 k hk).imp (fun h=>by simp at h) id) rfl
  simp only [bq,List.cons_append,List.nil_append] at hS7
  have hst:start b=⟨List.replicate i true,b.owners,[],[],[],[]⟩:=by unfold start; rw [hP,Int.toNat_natCast]
  have hRS:=hS7.reg (s:=⟨List.replicate i true,b.owners,[],[],[],[]⟩) hst
  refine ⟨⟨?_,fun g hg=>?_⟩,H1.next,by omega,H3.next,rfl,hRS⟩
  ·have:=hs5.1; simp; omega
  ·rw [GH.get_put_ne _ _ (by omega),hf7 g (by have:=hs5.1; omega) (by simp),hs5.2 g hg]
end Go.Gm.Tryz
end
section
namespace Go.Gm.Tryz
open Go.Proofs
def UpR (H:GH) (l:BLoc) (b:Book) (day:Int) (x:GO) (H':GH):Prop:=match upS b day with
 | .inr s=>∃N sg O,H.next≤N∧x=.ret (.tuple #[.pointer (some (ga sg 0 0)),vi (-1)])∧eo H' N l b sg s O∧Wf b s∧Wg b s
 | .inl n=>∃sg,x=.ret (.tuple #[.pointer (some (ga sg 0 0)),vi n])
theorem an0 {H:GH} {l:BLoc} {b:Book} (hb:BookIn H l b) (hB:aq b=true) (hrows:b.tbl.rows.length≤4) (day:Int):
  ay Tryz.prog 87 [dl l b,vi day] H fun x H'=>Sub H H'∧UpR H l b day x H':=by
 rcases l with ⟨⟨⟨ra,rf⟩⟩,⟨oa,of'⟩,⟨va',vf'⟩⟩
 have hbo:=l8 hB
 have hp:=hbo.persons
 have ho:=hbo.owners
 have hv:=hbo.events
 have hsu:=aaf hB
 refine an tok mix a0o (F:=g87) (c:=_) rfl (n:=52) rfl (rs:= [.tmp 4,.tmp 5]) rfl ?_
 simp
 generalize hH1:H.push _=H1
 have hs1:Sub H H1:=by subst hH1; exact Sub.push (.refl H) _
 have hb1:H1.get H.next=some (.arr { cells:= [.slice ra b.tbl.rows.length rf,vi b.tbl.draw,vi b.supply,vi b.term,vi b.persons,.slice oa b.owners.length of',.slice va' b.events.length vf'],ty:=28 }):=by subst hH1; simp
 have hn1:H1.next=H.next+1:=by subst hH1; simp
 clear hH1
 have hbi:=hb.mono hs1
 refine (al7 hbi hB hrows).mono ?_
 rintro x H2 ⟨hs2,N,sg,O2,hN,rfl,h2⟩
 have hn2:=hs2.1
 have hb2:=(hs2.2 H.next (by omega)).trans hb1
 simp
 refine cv tok mix (by kernel_rfl) b.events.length (fun i ρ m H3=>ρ 1=vi day∧ρ 2=.pointer (some (ga H.next 0 0))∧ρ 6=.pointer (some (ga sg 0 0))∧ρ 7=vi i∧m= []∧
  ∃s O3,Frm O2 O3 H2 H3∧eo H3 N ⟨⟨⟨ra,rf⟩⟩,⟨oa,of'⟩,⟨va',vf'⟩⟩ b sg s O3∧J b (b.events.take i) s∧Wg b s∧iu b day (b.events.drop i) i s=upS b day) (i0:=0) (by omega)
  ⟨by simp,by simp,by simp,by simp,by simp,start b,O2,Frm.refl (fun g hg=>(h2.lt g hg).2),h2,J.start hB,Wg.start b,rfl⟩ ?_
 rintro i ρ m H3 hi ⟨e1,e2,e6,e7,rfl,s,O3,f3,h3,hJ3,hG3,hup⟩
 have hw3:=hJ3.wf
 have hkeep:∀ {O4:Nat→Prop} {H4:GH},Frm O2 O4 H2 H4→Sub H H4:=fun {O4 H4} f=>
  ⟨Nat.le_trans hs1.1 (Nat.le_trans hs2.1 f.next),fun g hg=>by rw [f.keep g (by omega) (fun hc=>by have:=(h2.lt g hc).1; omega),hs2.2 g (by omega),hs1.2 g hg]⟩
 have hbk:∀ {O4:Nat→Prop} {H4:GH},Frm O2 O4 H2 H4→H4.get H.next=some (.arr { cells:= [.slice ra b.tbl.rows.length rf,vi b.tbl.draw,vi b.supply,vi b.term,vi b.persons,.slice oa b.owners.length of',.slice va' b.events.length vf'],ty:=28 })∧H.next<H4.next:=fun {O4 H4} f=>
  ⟨(f.keep H.next (by omega) (fun hc=>by have:=(h2.lt _ hc).1; omega)).trans hb2,by have:=f.next; omega⟩
 obtain ⟨hb3,hlt3⟩:=hbk f3
 simp (disch:=omega) [e2,e7,hb3]
 have hend:∀(O4:Nat→Prop) (H4:GH) (t:Stand),Frm O2 O4 H2 H4→eo H4 N ⟨⟨⟨ra,rf⟩⟩,⟨oa,of'⟩,⟨va',vf'⟩⟩ b sg t O4→Wf b t→Wg b t→Sum.inr t=upS b day→Sub H H4∧UpR H ⟨⟨⟨ra,rf⟩⟩,⟨oa,of'⟩,⟨va',vf'⟩⟩ b day (.ret (.tuple #[.pointer (some (ga sg 0 0)),vi (-1)])) H4:=fun O4 H4 t f4 h4 hw hg ht=>
  ⟨hkeep f4,by unfold UpR; rw [←ht]; exact ⟨N,sg,O4,by omega,rfl,h4,hw,hg⟩⟩
 by_cases hlt:i<b.events.length
 ·have hltI:(i:Int)<b.events.length:=by omega
  obtain ⟨a,ha,hab,hrd⟩:=(hb.mono (hkeep f3)).events.at i hlt
  simp only at ha
  subst ha
  rw [List.drop_eq_getElem_cons hlt,iu] at hup
  have hev:=xk (s:=pass b s b.events[i].day) hbo.persons (hJ3.pass b.events[i].day).ll (hbo.ev i hlt)
  have hevB:=hbo.ev i hlt
  have hati:=abr hlt
  obtain ⟨e,hE⟩:∃e,b.events[i]=e:=⟨_,rfl⟩
  rw [hE] at hup hev hrd hevB hati
  simp (disch:=omega) [e1,e2,e7,hb3,hlt,hrd]
  refine ba (fun hd=>?_) (fun hd=>?_)
  ·rw [if_neg (by omega)] at hup
   simp (disch:=omega) [e2,e6,e7,hb3,hrd]
   refine (zv h3 hw3 hG3 hsu e.day).mono ?_
   rintro x H5 ⟨rfl,O5,f5,h5⟩
   have f25:=f3.trans f5
   obtain ⟨hb5,hlt5⟩:=hbk f25
   have hw5:Wf b (pass b s e.day):=qr hw3
   have hG5:Wg b (pass b s e.day):=hG3.pass e.day
   have hsh5:=yj b s e.day
   obtain ⟨a5,ha5,hab5,hrd5⟩:=(hb.mono (hkeep f25)).events.at i hlt
   simp only at ha5
   cases ha5
   rw [hE] at hrd5
   have h5':=h5
   obtain ⟨v1,v2,vl,vo,vg,va,vw,vb,vd,h5i,_⟩:=h5'
   simp (disch:=omega) [e2,e6,e7,hb5,hrd5]
   refine (apr h5i hw5 hG5 hsu hev hevB).go ?_
   simp
   cases hgo:cu b (pass b s e.day) e with
   |false=>
    rw [if_neg (by rw [hgo]; decide)] at hup
    simp [e6,e7]
    exact ⟨hkeep f25,by unfold UpR; rw [←hup]; exact ⟨sg,rfl⟩⟩
   |true=>
    rw [if_pos hgo] at hup
    have hJ5:=hJ3.pass e.day
    have ho5:=hJ5.ow
    have htl:(b.events.take i).length=i:=by simp; omega
    have hJ6:=hJ5.do_ hbo hevB hgo hati hlt (by omega) (by omega)
    have hG6:=hG5.do_ hevB hgo hev.kind hev.grant hati
    have htk:b.events.take (i+1)=b.events.take i++ [e]:=by rw [←hE]; exact List.take_succ_eq_append_getElem hlt
    simp [e6,e7]
    refine (ayt h5 hw5 hG5 hsu hlt hE hev hgo hJ6.wf hG6).mono ?_
    rintro x H6 ⟨rfl,O6,f6,h6⟩
    simp (disch:=omega) [e1,e2,e6,e7,aj]
    exact ⟨_,O6,f25.trans f6,h6,by rw [htk]; exact hJ6.serve,hG6.serve,hup⟩
  ·rw [if_pos (by omega)] at hup
   simp (disch:=omega) [e1,e6]
   refine (zv h3 hw3 hG3 hsu day).mono ?_
   rintro x H5 ⟨rfl,O5,f5,h5⟩
   simp [e6]
   exact hend O5 H5 _ (f3.trans f5) h5 (qr hw3) (hG3.pass day) hup
 ·have hnI:¬(i:Int)<b.events.length:=by omega
  have:i=b.events.length:=by omega
  subst this
  rw [List.drop_length,iu] at hup
  simp (disch:=omega) [e1,e6,hlt]
  refine (zv h3 hw3 hG3 hsu day).mono ?_
  rintro x H5 ⟨rfl,O5,f5,h5⟩
  simp [e6]
  exact hend O5 H5 _ (f3.trans f5) h5 (qr hw3) (hG3.pass day) hup
def nt (b:Book):Bool:=aq b&&(dw b).isNone
theorem ade (l:BLoc) (b:Book) (H:GH) (hb:BookIn H l b) (hB:aq b=true) (hrows:b.tbl.rows.length≤4):C 63 [dl l b] H (vi (match dw b with|some n=>n|none=> -1)) H:=by
 rcases l with ⟨⟨⟨ra,rf⟩⟩,⟨oa,of'⟩,⟨va',vf'⟩⟩
 refine au tok mix az8 (F:=g63) (c:=_) rfl (n:=11) rfl (rs:= [.tmp 2]) rfl (ac rfl) ?_
 simp
 generalize hH1:H.push _=H1
 have hs1:Sub H H1:=by subst hH1; exact Sub.push (.refl H) _
 clear hH1
 refine (an0 (hb.mono hs1) hB hrows 36500).mono ?_
 rintro x H2 ⟨hs2,hu⟩
 unfold UpR at hu
 unfold dw
 cases hU:upS b 36500 with
 |inl n=>
  rw [hU] at hu
  obtain ⟨sg,rfl⟩:=hu
  simp
  exact hs1.trans hs2
 |inr s=>
  rw [hU] at hu
  obtain ⟨N,sg,O,_,rfl,_⟩:=hu
  simp
  exact hs1.trans hs2
theorem wm (l:BLoc) (b:Book) (H:GH) (hb:BookIn H l b) (hsh:nw b=true):C 32 [dl l b] H (.bool (nt b)) H:=by
 have h15:b.tbl.rows.length≤15:=by simp [nw] at hsh; omega
 rcases l with ⟨⟨⟨ra,rf⟩⟩,⟨oa,of'⟩,⟨va',vf'⟩⟩
 refine au tok mix azo (F:=g32) (c:=_) rfl (n:=10) rfl (rs:= [.tmp 2]) rfl (ac rfl) ?_
 simp
 generalize hH1:H.push _=H1
 have hs1:Sub H H1:=by subst hH1; exact Sub.push (.refl H) _
 have hb1:H1.get H.next=some (.arr { cells:= [.slice ra b.tbl.rows.length rf,vi b.tbl.draw,vi b.supply,vi b.term,vi b.persons,.slice oa b.owners.length of',.slice va' b.events.length vf'],ty:=28 }):=by subst hH1; simp
 have hn1:H.next<H1.next:=by subst hH1; simp
 clear hH1
 have hbi:=hb.mono hs1
 with_reducible refine (py ⟨⟨⟨_,_⟩⟩,⟨_,_⟩,⟨_,_⟩⟩ b _ hbi (by omega)).go ?_
 simp
 cases hB:aq b
 ·simp [nt,hB]
  exact hs1
 ·have hrows:b.tbl.rows.length≤4:=by
   have ht:=xj hB
   simp [nw,ht] at hsh
   omega
  simp (disch:=omega) [hb1]
  with_reducible refine (ade ⟨⟨⟨_,_⟩⟩,⟨_,_⟩,⟨_,_⟩⟩ b _ hbi hB hrows).go ?_
  simp
  cases hw:dw b with
  |none=>simp [nt,hB,hw]; exact hs1
  |some n=>
   have:=u5 hw
   have hn:¬n<0:=by omega
   simp [nt,hB,hw,hn]
   exact hs1
theorem ag9 {H:GH} {l:BLoc} {b:Book} (hb:BookIn H l b) (hB:aq b=true) (hrows:b.tbl.rows.length≤4) {day:Int} {s:Stand} (hu:upS b day=.inr s):
  ay Tryz.prog 33 [dl l b,vi day] H fun x H'=>Sub H H'∧∃N sg O,H.next≤N∧x=.ret (.pointer (some (ga sg 0 0)))∧eo H' N l b sg s O∧Wf b s∧Wg b s:=by
 rcases l with ⟨⟨⟨ra,rf⟩⟩,⟨oa,of'⟩,⟨va',vf'⟩⟩
 refine an tok mix azp (F:=g33) (c:=_) rfl (n:=14) rfl (rs:= [.tmp 4]) rfl ?_
 simp
 generalize hH1:H.push _=H1
 have hs1:Sub H H1:=by subst hH1; exact Sub.push (.refl H) _
 clear hH1
 refine (an0 (hb.mono hs1) hB hrows day).mono ?_
 rintro x H2 ⟨hs2,hU⟩
 unfold UpR at hU
 rw [hu] at hU
 obtain ⟨N,sg,O,hN,rfl,h1,h2,h3⟩:=hU
 simp
 exact ⟨hs1.trans hs2,N,by have:=hs1.1; omega,sg,rfl,⟨O,h1⟩,h2,h3⟩
end Go.Gm.Tryz
end
end
