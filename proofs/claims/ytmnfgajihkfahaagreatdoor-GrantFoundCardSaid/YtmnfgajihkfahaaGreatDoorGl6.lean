/- The function GrantFound, called with any register and any day, returns true, and never panics: by the model of the language, for every input that the card fits, and under the card's conditions alone. -/
import Derived.Test.YtmnfgajihkfahaaGreatDoorBa6
import Derived.Test.YtmnfgajihkfahaaGreatDoorTie
noncomputable section
section
namespace Go.Gm.Tryz
open Go.Proofs
theorem day_step {b:Book} (hB:aq b=true) {i:Nat} (hi:i+1<b.events.length):b.events[i].day≤b.events[i+1].day:=by
 simp only [aq,Bool.and_eq_true,List.all_eq_true,List.mem_range] at hB
 have:=hB.1.2 (i+1) hi
 unfold mc at this
 rw [bc hi,Nat.add_sub_cancel,bc (show i<b.events.length by omega)] at this
 simp at this
 exact this.2
theorem day_mono {b:Book} (hB:aq b=true) {i:Nat}:∀(k:Nat) (h:i+k<b.events.length),(b.events[i]'(by omega)).day≤b.events[i+k].day:=by
 intro k
 induction k with
 |zero=>intro h; exact Int.le_refl _
 |succ k ih=>intro h; exact Int.le_trans (ih (by omega)) (day_step hB h)
theorem Cut.mem {b:Book} (hB:aq b=true) {d:Int} {n:Nat} (h:Cut b d n) {e:Ev}:e∈b.events.take n↔e∈b.events∧e.day≤d:=by
 constructor
 ·exact fun he=>⟨List.mem_of_mem_take he,h.lo e he⟩
 ·rintro ⟨he,hd⟩
  obtain ⟨i,hi,rfl⟩:=List.mem_iff_getElem.1 he
  by_cases hc:i<n
  ·exact List.mem_take_iff_getElem.2 ⟨i,by omega,rfl⟩
  ·have h1:=h.hi (by omega)
   have h2:=day_mono hB (i:=n) (i - n) (by omega)
   have e:n+(i - n)=i:=by omega
   simp only [e] at h2
   omega
end Go.Gm.Tryz
end
section
namespace Go.Gm.Tryz
open Go.Proofs
theorem pass_unfold (b:Book) (s:Stand) (d:Int):pass b s d=if lm s d<0 then s else pass b (endS b s (lm s d).toNat (IntKind.i64.wrap (bl s (lm s d)+1))) d:=by
 unfold pass
 split
 ·rename_i h
  cases k9 s with
  |zero=>rfl
  |succ n=>simp only [lj]; rw [if_pos h]
 ·rename_i h
  rcases aih s d with ⟨h1,_⟩|⟨j,e1,h2,h3,h4⟩
  ·omega
  have hop:=acn (b:=b) (s:=s) (g:=j) h2 (by have:=h3.1; rwa [gAt,bc h2] at this) (IntKind.i64.wrap (bl s (lm s d)+1))
  have ej:(lm s d).toNat=j:=by omega
  rw [ej,←hop]
  simp only [lj]
  rw [if_neg h,ej]
theorem pass_done (b:Book) (d:Int):∀(n:Nat) (s:Stand),k9 s=n→lm (pass b s d) d<0:=by
 intro n
 induction n with
 |zero=>
  intro s hn
  rcases aih s d with ⟨h1,_⟩|⟨j,e1,h2,h3,h4⟩
  ·rw [pass_unfold,if_pos h1]; exact h1
  ·have hop:=acn (b:=b) (s:=s) (g:=j) h2 (by have:=h3.1; rwa [gAt,bc h2] at this) 0
   omega
 |succ n ih=>
  intro s hn
  rw [pass_unfold]
  split
  ·assumption
  ·rename_i h
   rcases aih s d with ⟨h1,_⟩|⟨j,e1,h2,h3,h4⟩
   ·omega
   have hop:=acn (b:=b) (s:=s) (g:=j) h2 (by have:=h3.1; rwa [gAt,bc h2] at this) (IntKind.i64.wrap (bl s (lm s d)+1))
   have ej:(lm s d).toNat=j:=by omega
   refine ih _ ?_
   rw [ej]
   omega
theorem pass_last (b:Book) (s:Stand) (d:Int) {i:Nat} (hi:i<(pass b s d).grants.length) (h2:(gAt (pass b s d) i).is=2):d≤bl (pass b s d) i:=by
 rcases aih (pass b s d) d with ⟨_,h⟩|⟨j,e1,_⟩
 ·have:=h i hi
  unfold El at this
  omega
 ·have:=pass_done b d _ s rfl
  omega
section
variable {b:Book} {s:Stand} {done:List Ev}
end
theorem Fd_up {b:Book} (hB:aq b=true) {d:Int} {u:Stand} (h:upS b d=.inr u):∃n,Cut b d n∧J b (b.events.take n) u∧Fd b (b.events.take n) u∧∀i,i<u.grants.length→(gAt u i).is=2→d≤bl u i:=by
 obtain ⟨n,t,h1,h2,h3,rfl⟩:=ay6 hB (I:=Fd b) (I':=Fd b) (Fd.start b) (fun _ _ _ _ _ h=>h.pass _) (fun _ _ h=>h.serve) (fun n hn s _ _ hF hev _ hg hn'=>hF.do_ hev (aks hB (List.getElem_mem hn)) (aew hB) hg hn') h
 exact ⟨n,h1,h2.pass d,h3.pass d,fun i hi h2=>pass_last b t d hi h2⟩
theorem found_plain {b:Book} (hB:aq b=true) {d:Int} {u:Stand} (h:upS b d=.inr u) {i:Nat} (hi:i<u.grants.length):
  ((gAt u i).is=1→(gAt u i).estate= -1→bnb b (gAt u i).person i d=true)∧((gAt u i).is=2→bne b (gAt u i).person d=true):=by
 obtain ⟨n,hc,_,hF,hl⟩:=Fd_up hB h
 refine ⟨fun h1 h2=>?_,fun h1=>?_⟩
 ·obtain ⟨e,he,k⟩:=hF.st i hi h1 h2
  have:=(hc.mem hB).1 he
  exact List.any_eq_true.2 ⟨e,this.1,by simp only [decide_eq_true_eq]; exact ⟨this.2,k⟩⟩
 ·obtain ⟨e,he,k1,k2,k3⟩:=hF.op i hi h1
  have hm:=(hc.mem hB).1 he
  have:=hl i hi h1
  exact List.any_eq_true.2 ⟨e,hm.1,by simp only [decide_eq_true_eq]; exact ⟨k1,k2,by omega,by omega⟩⟩
end Go.Gm.Tryz
end
section
namespace Go.Gm.Tryz
open Go.Proofs
theorem zt {b:Book} (h:nt b=true):aq b=true∧dw b=none:=by
 simp only [nt,Bool.and_eq_true,Option.isNone_iff_eq_none] at h
 exact h
theorem qv {b:Book} (h:nw b=true):b.tbl.rows.length≤15∧b.events.length≤14∧b.owners.length≤8∧(aq b=true→b.tbl.rows.length≤4):=by
 have h':=h
 simp [nw] at h'
 refine ⟨by omega,by omega,by omega,fun hB=>?_⟩
 have ht:=xj hB
 simp [ht] at h'
 omega
end Go.Gm.Tryz
end
section
namespace Go.Gm.Tryz
open Go.Proofs
def diedTo (b:Book) (p d:Int) (i:Nat):Bool:=(b.events.take i).any fun e=>decide (e.kind=3∧e.day≤d∧e.person=p)
end Go.Gm.Tryz
end
section
namespace Go.Gm.Tryz
open Go.Proofs
def anyTo (f:Ev→Bool) (l:List Ev) (i:Nat):Bool:=(l.take i).any f
theorem anyTo_zero {f:Ev→Bool} {l:List Ev}:anyTo f l 0=false:=rfl
theorem anyTo_all {f:Ev→Bool} {l:List Ev}:anyTo f l l.length=l.any f:=by rw [anyTo,List.take_length]
theorem anyTo_succ {f:Ev→Bool} {l:List Ev} {i:Nat} (h:i<l.length) (h0:anyTo f l i=false):anyTo f l (i+1)=f l[i]:=by
 unfold anyTo at h0 ⊢
 rw [List.take_succ_eq_append_getElem h,List.any_append,h0,Bool.false_or]
 simp
theorem anyTo_true {f:Ev→Bool} {l:List Ev} {i:Nat} (h:anyTo f l i=true):anyTo f l l.length=true:=by
 obtain ⟨e,he,hp⟩:=List.any_eq_true.1 h
 rw [anyTo_all]
 exact List.any_eq_true.2 ⟨e,List.mem_of_mem_take he,hp⟩
theorem came_con (l:BLoc) (b:Book) (p n d:Int) (f:Ev→Bool) (hfe:∀x:Ev,f x=decide (x.day≤d∧x.person=p∧(x.kind=1∨x.kind=8∨(x.kind=7∧x.grant=n)))) (H:GH) (hb:BookIn H l b) (hl:b.events.length≤1000):C 38 [dl l b,vi p,vi n,vi d] H (.bool (anyTo f b.events b.events.length)) H:=by
 rcases l with ⟨⟨⟨ra,rf⟩⟩,⟨oa,of'⟩,⟨va,vf⟩⟩
 refine au tok mix a90 (F:=g38) (c:=_) rfl (n:=54) rfl (rs:= [.tmp 8]) rfl (ac rfl) ?_
 simp
 generalize hH1:GH.push H _=H1
 have hs1:Sub H H1:=by subst hH1; exact Sub.push (.refl H) _
 have k0:H1.get H.next=some (.arr { cells:=bq ⟨⟨⟨ra,rf⟩⟩,⟨oa,of'⟩,⟨va,vf⟩⟩ b,ty:=28 }):=by subst hH1; simp
 have hn1:H1.next=H.next+1:=by subst hH1; simp
 have hb1:=hb.mono hs1
 clear hH1
 refine cv tok mix (by kernel_rfl) b.events.length (fun i ρ m H'=>ρ 1=vi p∧ρ 2=vi n∧ρ 3=vi d∧ρ 4=.pointer (some (ga H.next 0 0))∧ρ 9=vi i∧m= []∧Sub H1 H'∧anyTo f b.events i=false) (i0:=0) (by omega) (by simp [anyTo_zero]) ?_
 rintro i ρ m H2 hi ⟨e1,e2,e3,e4,e9,rfl,hs2,hlo⟩
 have k2:=(hs2.2 H.next (by omega)).trans k0
 simp (disch:=omega) [e4,e9,k2]
 by_cases hlt:i<b.events.length
 ·obtain ⟨a,ha,hab,hrd⟩:=(hb1.mono hs2).events.at i hlt
  simp only at ha
  subst ha
  have key:=anyTo_succ hlt hlo
  have hlt':(i:Int)<b.events.length:=by omega
  simp (disch:=omega) [hlt,e4,e9,k2,hrd]
  generalize hH5:GH.put _ _ _=H5
  have hs5:Sub H2 H5:=by subst hH5; exact ⟨by simp,fun g hg=>by simp (disch:=omega)⟩
  have k5:H5.get H2.next=some (.arr { cells:=jb b.events[i],ty:=57 }):=by subst hH5; simp
  clear hH5
  have hr:anyTo f b.events (i+1)=true→(anyTo f b.events b.events.length=true∧Sub H H5):=fun h=>⟨anyTo_true h,hs1.trans (hs2.trans hs5)⟩
  have hc:anyTo f b.events (i+1)=false→(i<b.events.length∧Sub H1 H5∧anyTo f b.events (i+1)=false):=fun h=>⟨hlt,hs2.trans hs5,h⟩
  rw [key,hfe] at hr hc
  have yes:(b.events[i].day≤d∧b.events[i].person=p∧(b.events[i].kind=1∨b.events[i].kind=8∨(b.events[i].kind=7∧b.events[i].grant=n)))→(anyTo f b.events b.events.length=true∧Sub H H5):=fun h=>hr (decide_eq_true h)
  have no:¬(b.events[i].day≤d∧b.events[i].person=p∧(b.events[i].kind=1∨b.events[i].kind=8∨(b.events[i].kind=7∧b.events[i].grant=n)))→(i<b.events.length∧Sub H1 H5∧anyTo f b.events (i+1)=false):=fun h=>by rw [key,hfe]; exact hc (decide_eq_false h)
  clear hr hc key hlo hfe
  by_cases c1:b.events[i].day≤d
  ·by_cases c2:b.events[i].person=p
   ·by_cases c3:b.events[i].kind=1
    ·simp (disch:=omega) [e1,e3,k5,c1,c2,c3]
     exact yes ⟨c1,c2,.inl c3⟩
    ·by_cases c4:b.events[i].kind=8
     ·simp (disch:=omega) [e1,e3,k5,c1,c2,c4]
      exact yes ⟨c1,c2,.inr (.inl c4)⟩
     ·by_cases c5:b.events[i].kind=7
      ·by_cases c6:b.events[i].grant=n
       ·simp (disch:=omega) [e1,e2,e3,k5,c1,c2,c5,c6]
        exact yes ⟨c1,c2,.inr (.inr ⟨c5,c6⟩)⟩
       ·simp (disch:=omega) [e1,e2,e3,e4,e9,k5,c1,c2,c5,c6,aj]
        exact (no (by omega)).2
      ·simp (disch:=omega) [e1,e2,e3,e4,e9,k5,c1,c2,c3,c4,c5,aj]
       exact (no (by omega)).2
   ·simp (disch:=omega) [e1,e2,e3,e4,e9,k5,c1,c2,aj]
    exact (no (by omega)).2
  ·simp (disch:=omega) [e1,e2,e3,e4,e9,c1,aj]
   exact (no (by omega)).2
 ·have:i=b.events.length:=by omega
  subst this
  simp
  exact ⟨hlo,hs1.trans hs2⟩
theorem left_con (l:BLoc) (b:Book) (p d:Int) (hbo:0≤b.term∧b.term≤1000) (hev:∀e∈b.events,0≤e.day∧e.day≤36500) (f:Ev→Bool) (hfe:∀x:Ev,f x=decide (x.kind=3∧x.other=p∧x.day≤d∧d≤x.day+b.term)) (H:GH) (hb:BookIn H l b) (hl:b.events.length≤1000):C 39 [dl l b,vi p,vi d] H (.bool (anyTo f b.events b.events.length)) H:=by
 rcases l with ⟨⟨⟨ra,rf⟩⟩,⟨oa,of'⟩,⟨va,vf⟩⟩
 refine au tok mix a91 (F:=g39) (c:=_) rfl (n:=45) rfl (rs:= [.tmp 6]) rfl (ac rfl) ?_
 simp
 generalize hH1:GH.push H _=H1
 have hs1:Sub H H1:=by subst hH1; exact Sub.push (.refl H) _
 have k0:H1.get H.next=some (.arr { cells:=bq ⟨⟨⟨ra,rf⟩⟩,⟨oa,of'⟩,⟨va,vf⟩⟩ b,ty:=28 }):=by subst hH1; simp
 have hn1:H1.next=H.next+1:=by subst hH1; simp
 have hb1:=hb.mono hs1
 clear hH1
 refine cv tok mix (by kernel_rfl) b.events.length (fun i ρ m H'=>ρ 1=vi p∧ρ 2=vi d∧ρ 3=.pointer (some (ga H.next 0 0))∧ρ 7=vi i∧m= []∧Sub H1 H'∧anyTo f b.events i=false) (i0:=0) (by omega) (by simp [anyTo_zero]) ?_
 rintro i ρ m H2 hi ⟨e1,e2,e3,e7,rfl,hs2,hlo⟩
 have k2:=(hs2.2 H.next (by omega)).trans k0
 have hn2:=hs2.1
 simp (disch:=omega) [e3,e7,k2]
 by_cases hlt:i<b.events.length
 ·obtain ⟨a,ha,hab,hrd⟩:=(hb1.mono hs2).events.at i hlt
  simp only at ha
  subst ha
  have key:=anyTo_succ hlt hlo
  have hlt':(i:Int)<b.events.length:=by omega
  have hday:=hev _ (List.getElem_mem hlt)
  simp (disch:=omega) [hlt,e3,e7,k2,hrd]
  generalize hH5:GH.put _ _ _=H5
  have hs5:Sub H2 H5:=by subst hH5; exact ⟨by simp,fun g hg=>by simp (disch:=omega)⟩
  have k5:H5.get H2.next=some (.arr { cells:=jb b.events[i],ty:=57 }):=by subst hH5; simp
  have k6:=(hs5.2 H.next (by omega)).trans k2
  clear hH5
  have yes:(b.events[i].kind=3∧b.events[i].other=p∧b.events[i].day≤d∧d≤b.events[i].day+b.term)→(anyTo f b.events b.events.length=true∧Sub H H5):=fun h=>⟨anyTo_true (i:=i+1) (by rw [key,hfe]; exact decide_eq_true h),hs1.trans (hs2.trans hs5)⟩
  have no:¬(b.events[i].kind=3∧b.events[i].other=p∧b.events[i].day≤d∧d≤b.events[i].day+b.term)→(i<b.events.length∧Sub H1 H5∧anyTo f b.events (i+1)=false):=fun h=>⟨hlt,hs2.trans hs5,by rw [key,hfe]; exact decide_eq_false h⟩
  clear key hlo hfe
  by_cases c1:b.events[i].kind=3
  ·by_cases c2:b.events[i].other=p
   ·by_cases c3:b.events[i].day≤d
    ·by_cases c4:d≤b.events[i].day+b.term
     ·simp (disch:=omega) [e1,e2,e3,k5,k6,c1,c2,c3,c4,aj]
      exact yes ⟨c1,c2,c3,c4⟩
     ·simp (disch:=omega) [e1,e2,e3,e7,k5,k6,c1,c2,c3,c4,aj]
      exact (no (by omega)).2
    ·simp (disch:=omega) [e1,e2,e3,e7,k5,c1,c2,c3,aj]
     exact (no (by omega)).2
   ·simp (disch:=omega) [e1,e2,e3,e7,k5,c1,c2,aj]
    exact (no (by omega)).2
  ·simp (disch:=omega) [e1,e2,e3,e7,c1,aj]
   exact (no (by omega)).2
 ·have:i=b.events.length:=by omega
  subst this
  simp
  exact ⟨hlo,hs1.trans hs2⟩
theorem found_law {H:GH} {l:BLoc} {b:Book} (hb:BookIn H l b) (hfx:FxOk H.fx) (day:Int):C 6 [dl l b,vi day] H (.bool true) H:=by
 refine au tok mix bkz (F:=g6) (c:=_) rfl (n:=80) rfl (rs:= [.tmp 4]) rfl (ac rfl) ?_
 rcases l with ⟨⟨⟨ra,rf⟩⟩,⟨oa,of'⟩,⟨va,vf⟩⟩
 simp
 generalize hH1:GH.push H _=H1
 have hs1:Sub H H1:=by subst hH1; exact Sub.push (.refl H) _
 have k0:H1.get H.next=some (.arr { cells:=bq ⟨⟨⟨ra,rf⟩⟩,⟨oa,of'⟩,⟨va,vf⟩⟩ b,ty:=28 }):=by subst hH1; simp
 have hn1:H1.next=H.next+1:=by subst hH1; simp
 have hf1:FxOk H1.fx:=by subst hH1; exact hfx
 have hb1:=hb.mono hs1
 clear hH1
 with_reducible refine (uc ⟨⟨⟨_,_⟩⟩,⟨_,_⟩,⟨_,_⟩⟩ b _ hb1).go ?_
 simp
 cases hsh:nw b
 ·simp
  refine (cx hf1).go ?_
  simp
  exact hs1
 obtain ⟨h15,h14,h8,h4⟩:=qv hsh
 simp [k0]
 with_reducible refine (wm ⟨⟨⟨_,_⟩⟩,⟨_,_⟩,⟨_,_⟩⟩ b _ hb1 hsh).go ?_
 simp
 cases hR:nt b
 ·simp
  refine (cx hf1).go ?_
  simp
  exact hs1
 simp
 refine (sq _ _).go ?_
 simp
 cases hd:fu day
 ·simp
  refine (cx hf1).go ?_
  simp
  exact hs1
 obtain ⟨hB,hwr⟩:=zt hR
 obtain ⟨s,hs⟩:=yr hB hwr day
 have ho:=zo hB hwr hs hd (ok:=true) rfl
 obtain ⟨n,hn,hJ⟩:=bks hB hs
 simp (disch:=omega) [k0]
 refine (ab5 hb1 day).fx.mono ?_
 rintro x H2 ⟨⟨s2,v,rfl,hv⟩,f2⟩
 have k2:=(s2.2 H.next (by omega)).trans k0
 have hn2:=s2.1
 have hf2:FxOk H2.fx:=by rw [f2]; exact hf1
 have hs2:=hs1.trans s2
 have hb2:=hb.mono hs2
 rw [ho] at hv ⊢
 obtain ⟨a1,q1,rfl,hE1⟩:=hv
 simp only [o8] at hE1 ⊢
 have L0:s.grants.length+s.waits.length≤b.events.length:=by have:=hJ.sz; have:=List.length_take_le n b.events; have:=List.length_take_le' n b.events; simp only [size] at*; omega
 have L1:¬b.events.length<s.grants.length:=by omega
 have hbo:=l8 hB
 have hev:∀e∈b.events,0≤e.day∧e.day≤36500:=fun e he=>aks hB he
 simp (disch:=omega) [k2,L1]
 refine cv tok mix (by kernel_rfl) s.grants.length (fun i ρ m H'=>ρ 1=vi day∧ρ 2=.pointer (some (ga H.next 0 0))∧ρ 5=.slice a1 s.grants.length q1∧ρ 7=vi i∧m= []∧Sub H2 H'∧FxOk H'.fx) (i0:=0) (by omega) (by simp [hf2]) ?_
 rintro i ρ m H4 hi ⟨e1,e2,e5,e7,rfl,hs4,hf4⟩
 simp (disch:=omega) [e5,e7]
 refine ba (fun hlt=>?_) (fun hge=>?_)
 ·obtain ⟨a,rfl,hab,hrd⟩:=(hE1.mono hs4).at i hlt
  have hlt':(i:Int)<s.grants.length:=by omega
  have hb4:=hb2.mono hs4
  have hn4:=hs4.1
  have k4:=(hs4.2 H.next (by omega)).trans k2
  obtain ⟨hst,hop⟩:=found_plain hB hs hlt
  have hga:gAt s i=s.grants[i]:=bc hlt
  rw [hga] at hst hop
  simp (disch:=omega) [e5,e7,hrd]
  generalize hH5:GH.put _ _ _=H5
  have hs5:Sub H4 H5:=by subst hH5; exact ⟨by simp,fun g hg=>by simp (disch:=omega)⟩
  have k5:H5.get H4.next=some (.arr { cells:=kg s.grants[i],ty:=53 }):=by subst hH5; simp
  have hf5:FxOk H5.fx:=by subst hH5; exact hf4
  have k0:=(hs5.2 H.next (by omega)).trans k4
  clear hH5
  have hn5:=hs5.1
  have hb5:=hb4.mono hs5
  have fin:Sub H2 H5∧FxOk H5.fx:=⟨hs4.trans hs5,hf5⟩
  have hbt:0≤b.term∧b.term≤1000:=by simp only [aq,Bool.and_eq_true,inI,decide_eq_true_eq] at hB; omega
  by_cases c1:s.grants[i].is=1
  ·by_cases c2:s.grants[i].estate= -1
   ·have hc:=hst c1 c2
    have hc':anyTo (fun x:Ev=>decide (x.day≤day∧x.person=s.grants[i].person∧(x.kind=1∨x.kind=8∨(x.kind=7∧x.grant=(i:Int))))) b.events b.events.length=true:=by rw [anyTo_all]; exact hc
    simp (disch:=omega) [c1,c2,e1,e2,e7,k5,k0]
    with_reducible refine (came_con ⟨⟨⟨_,_⟩⟩,⟨_,_⟩,⟨_,_⟩⟩ b _ _ _ _ (fun _=>rfl) _ hb5 (by omega)).go ?_
    simp (disch:=omega) only [hc']
    simp (disch:=omega) [c1,c2,e1,e2,e5,e7,k5,aj]
    exact ⟨hlt,fin⟩
   ·simp (disch:=omega) [c1,c2,e1,e2,e5,e7,k5,aj]
    exact ⟨hlt,fin⟩
  ·by_cases c2:s.grants[i].is=2
   ·have hc':anyTo (fun x:Ev=>decide (x.kind=3∧x.other=s.grants[i].person∧x.day≤day∧day≤x.day+b.term)) b.events b.events.length=true:=by rw [anyTo_all]; exact hop c2
    simp (disch:=omega) [c2,e1,e2,k5,k0]
    with_reducible refine (left_con ⟨⟨⟨_,_⟩⟩,⟨_,_⟩,⟨_,_⟩⟩ b _ _ hbt hev _ (fun _=>rfl) _ hb5 (by omega)).go ?_
    simp (disch:=omega) only [hc']
    simp (disch:=omega) [e1,e2,e5,e7,aj]
    exact ⟨hlt,fin⟩
   ·simp (disch:=omega) [c1,c2,e1,e2,e5,e7,k5,aj]
    exact ⟨hlt,fin⟩
 simp (disch:=omega)
 refine (cx hf4).go ?_
 simp
 exact hs2.trans hs4
end Go.Gm.Tryz
end
section
namespace Go.Gm.Tryz
open Go.Proofs Go.Proofs.YtmnfgajihkfahaaGreatDoor Go.RowKit
theorem grantFound_spec:LawSpec Rows.grantFoundSpec 2:=⟨rfl,fun H xs h=>by
 match xs,h with
 | [_,_],_=>rfl⟩
set_option maxRecDepth 100000 in
theorem grantFound_lifted (os:Os) (started:os.Started) (H:Type) (enc:TypeId×Value→H):
  ReturnsInHanded {} Tryz.checked os 6 .any (fun w args=>(Rows.grantFoundSpec.pre enc Tryz.prog Tryz.f6 [] false w args∧laidMetH Tryz.prog li w)∧sizedMet enc Tryz.prog Tryz.f6 (OpenSpec.ofChange Rows.grantFoundSpec) false w args)
   (Rows.grantFoundSpec.post enc Tryz.prog Tryz.f6 false true false false):=by
 refine fk (C:=Tryz.checked) (X:=fun w _=>laidMetH Tryz.prog li w) (fun _ _ _ hh h=>h.of_heap hh) own started (by kernel_rfl) Tryz.func6
  (ChangeSpec.witness_shaped (enc:=enc) (C:=Tryz.checked) (os:=os) (X:=fun w _=>laidMetH Tryz.prog li w) false (World.laidAll Tryz.prog os li) #[.agg #[.slice none 0 0,.int .i64 0,.int .i64 0,.int .i64 0,.int .i64 0,.slice none 0 0,.slice none 0 0],.int .i64 0] 9 (World.laidAll_os _ _ _)
   (World.shaped_of_ZipB (by kernel_rfl) (by kernel_rfl)) (by kernel_rfl) (by kernel_rfl) (by kernel_rfl)
   (by rw [MakeChecks.laidMetH_plain _ _ _ (by kernel_rfl)]; exact laidMet_laidAll _ (by kernel_rfl) (by kernel_rfl))) ?_
 intro W base args ds gs before hsh hval _ hw hL
 obtain ⟨fx,hfx,hok,hW⟩:=anh hL hsh
 refine tw (P:=Tryz.prog) (fn:=Tryz.f6) (ds:= [sh,dI]) abw (by rw [Tryz.params6]; exact .cons abt (.cons rz .nil)) (by kernel_rfl) Tryz.underlying4 (by
  rw [Tryz.params6]
  intro t ht
  have hall:([28,3].all fun t=>Tryz.prog.readableRec t&&decide (t<Tryz.prog.types.size))=true:=by kernel_rfl
  have:=List.all_eq_true.1 hall t (by simpa using ht)
  simpa using this) grantFound_spec hW hfx ?_ hval hw
 intro G gss hG hLie
 have hfG:FxOk G.fx:=by rw [hG]; exact hok
 cases hLie with
 |cons h1 h2=>
 cases h2 with
 |cons h2 h3=>
 cases h3
 obtain ⟨l,b,e,hb,_,_,k3⟩:=yb h1
 obtain ⟨n,rfl⟩:=ew h2
 show ay Tryz.prog 6 [ahz sh _,vi n] G _
 rw [e]
 exact (found_law hb hfG n).mono fun x _ h=>h.1
theorem grantFound_inPlace:(Rows.grantFoundRow.inPlace==Tryz.prog.inPlace 6)=true:=by kernel_rfl
theorem grantFound_unf:(Rows.grantFoundRow.unfollowed==Tryz.prog.unfollowed 6)=true:=by kernel_rfl
theorem grantFound_rec:(Rows.grantFoundRow.recurses==Tryz.prog.recurses 6)=true:=by kernel_rfl
theorem grantFound_named:(Rows.grantFoundRow.named==Tryz.prog.varsNamed 6)=true:=by kernel_rfl
theorem grantFound_joined:joinedFacts Tryz.prog 6 Tryz.f6 Rows.grantFoundSpec Rows.grantFoundRow=true:=by
 unfold joinedFacts
 exact am (am (am (am (am (am (am (am (am (am (am (am (am (am (am (am (am (am (am (am (am (am (am (am (am (am (am (am (am (am (am (by kernel_rfl) (by kernel_rfl)) (by kernel_rfl)) (by kernel_rfl)) (by kernel_rfl)) (by kernel_rfl)) (by kernel_rfl)) (by kernel_rfl)) (by kernel_rfl)) grantFound_inPlace) grantFound_unf) grantFound_rec) grantFound_named) (by kernel_rfl)) (by kernel_rfl)) (by kernel_rfl)) (by kernel_rfl)) (by kernel_rfl)) (by kernel_rfl)) (by kernel_rfl)) (by kernel_rfl)) (by kernel_rfl)) (by kernel_rfl)) (by kernel_rfl)) (by kernel_rfl)) af9) (by rw [agc]; exact beq_self_eq_true _)) (by rw [anr]; exact beq_self_eq_true _)) (by kernel_rfl)) (by kernel_rfl)) (by kernel_rfl)) (by kernel_rfl)
theorem grantFound_holds:Rows.GrantFoundSaid:=
 OpenClaim.holds_of_wide 6 Tryz.f6 rfl rfl rfl rfl rfl rfl rfl ⟨rfl,rfl,rfl,rfl,rfl⟩ rfl rfl rfl rfl rfl (by kernel_rfl) Tryz.func6 grantFound_joined
  (of_decide_eq_true (by kernel_rfl)) (by unfold Func.isWrapper; first|(rw [if_pos (by decide+kernel)]; kernel_rfl)|(rw [if_neg (by decide+kernel)]; exact ⟨rfl,rfl⟩))
  (fun os started H enc _=>grantFound_lifted os started H enc)
end Go.Gm.Tryz
namespace Go.Proofs.YtmnfgajihkfahaaGreatDoor
open Go.Gm.Tryz
set_option maxRecDepth 100000 in
theorem grantFound_card_holds:Rows.GrantFoundCardSaid:=
 Claim7.holds_tied_plain_at .later [] [.data,.data,.data,.data,.pinned] true (true, "c50a2473247fd563652536c5189614d6c43fc7c925362f406516d21693885498") true
  grantFound_holds (fun _ h=>by cases h) (by kernel_rfl) (fun _ h=>by cases h) grantFound_row_tie rfl ⟨rfl,rfl⟩ anq rfl
  (fun f fn hf hfn=>by
   obtain rfl:f=6:=Option.some.inj ((show Tryz.prog.funcNamed "quinaria/quinarialaw06.GrantFound"=some 6 by kernel_rfl).symm.trans hf)|>.symm
   obtain rfl:fn=Tryz.f6:=(Option.some.inj (Tryz.func6.symm.trans hfn)).symm
   exact ⟨agv,fun j t ht=>by
    rw [Tryz.params6] at ht
    have hm:t∈ [28,3]:=by simpa using Array.mem_of_getElem? ht
    have hall:([28,3].all fun u=> !Tryz.prog.wantsStandIn u)=true:=by kernel_rfl
    exact (show Tryz.prog.wantsStandIn t=false by simpa using List.all_eq_true.1 hall t hm)⟩)
  (by kernel_rfl)
end Go.Proofs.YtmnfgajihkfahaaGreatDoor
end
end
