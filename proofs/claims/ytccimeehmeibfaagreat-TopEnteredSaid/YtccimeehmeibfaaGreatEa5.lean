/- What is entered at a desk, event by event, is what the layers say. -/
import Derived.Test.YtccimeehmeibfaaGreatEa4
import Derived.KernelRfl
import Derived.JoinedOf
noncomputable section
section
namespace Go.Gm.Tryz
open Go.Proofs
theorem stepV_ev {e:En} (day:Int) (h1:2≤e.kind) (h2:e.kind≤9):stepV e day=.iface 191 (evV (evE e day)):=by
 unfold stepV
 simp only
 rw [if_neg (by omega),if_neg (by omega),if_neg (by omega),if_neg (by omega),if_neg (by omega),if_neg (by omega)]
theorem after_event (L:ULoc) (st:StP) (mg:Nat) (sl:SLoc) (e:En) (H:GH) (hi:SuiteIn H L st.suite) (hm:MapIn H mg st.cl) (hmg:mg<H.next) (he:isEntryB e=true) (h1:2≤e.kind) (h2:e.kind≤9) (hr:Elems H sl.a 1 encI e.nums) (hlv:st.suite.book.events.length≤900):
  GCall Tryz.prog 38 [stateV L st.suite st.day mg,enV sl e] H (AfterP L mg H (evG st (evE e st.day))):=by
 have hst:=stepV_ev st.day h1 h2
 refine gcall_wp tok mix fok38 (F:=g38) (c:=_) rfl (n:=211) rfl (rs:= [.cell 4 101]) rfl ?_
 simp
 refine (change_con sl e st.day _ he (by omega) (((hr.push _).push _).push _)).go ?_
 have hev:evG st (evE e st.day)=(if (wrongR { st.suite.book with events:=st.suite.book.events++ [evE e st.day] }).2=5 then some { st with suite:= { st.suite with book:= { st.suite.book with events:=st.suite.book.events++ [evE e st.day] } } } else none):=rfl
 have hsure:=fun b g H=>sure_con b e st.day g H
 rw [hst] at hsure ⊢
 generalize evE e st.day=x at hev hsure ⊢
 rcases L with ⟨⟨⟨r1⟩,o1,v1⟩,⟨p2,c2⟩,q2,⟨g3,c3⟩,⟨d4,u4⟩⟩
 simp (disch:=omega)
 generalize hG:GH.put _ _ _=G
 have hs:Sub H G:=by subst hG; repeat (first|exact Sub.refl _|refine Sub.put ?_ (by omega) _|refine Sub.push ?_ _)
 have k0:G.get H.next=some (.arr { cells:=suiteC ⟨⟨⟨r1⟩,o1,v1⟩,⟨p2,c2⟩,q2,⟨g3,c3⟩,⟨d4,u4⟩⟩ st.suite++ [vi st.day,.map (some mg)],ty:=101 }):=by subst hG; simp (disch:=omega)
 have k2:G.get (H.next+2)=some (.arr { cells:= [.slice none 0 0,vi 0,vi 0,vi 0,vi 0,.slice none 0 0,.slice none 0 0,.slice none 0 0,.slice none 0 0,.slice none 0 0,.slice none 0 0,vi 0,vi 0,vi 0,.slice none 0 0,vi 0,.slice none 0 0,.slice none 0 0,vi 0,.map none],ty:=101 }):=by subst hG; simp (disch:=omega)
 have k3:G.get (H.next+3)=some (.arr { cells:= [.iface 191 (evV x)],ty:=184 }):=by subst hG; simp (disch:=omega)
 have k4:G.get (H.next+4)=some (.arr { cells:=encEv x,ty:=191 }):=by subst hG; simp (disch:=omega)
 have gn:G.next=H.next+5:=by subst hG; simp
 simp only [List.cons_append,List.nil_append] at k0
 clear hG
 refine (clnEv_con st.suite.book.events (by omega) _ _ _ ((hi.book.events.mono hs).push _)).mono ?_
 rintro y H1 ⟨s1,rfl,a1,c1,w1⟩
 have a1':Sub G H1:=((Sub.refl G).push _).trans a1
 have n1:=a1.1
 simp only [GH.next_push] at n1 c1 w1
 have j0:=(a1'.2 H.next (by omega)).trans k0
 have j2:=(a1'.2 (H.next+2) (by omega)).trans k2
 have j3:=(a1'.2 (H.next+3) (by omega)).trans k3
 have j4:=(a1'.2 (H.next+4) (by omega)).trans k4
 have jx:=a1.2 G.next (by simp)
 rw [GH.get_push_same] at jx
 have hlv:=w1.len
 obtain ⟨v3,H3,happ,ho3,hn3,hf3,_⟩:=w1.app (by simp) (by intro x; rfl) (by decide) x (by omega)
 simp only [encEv] at happ
 have c8:64*(1+st.suite.book.events.length)≤1000000:=by omega
 have c9:1+st.suite.book.events.length≤1000000:=by omega
 have hs13:Sub G H3:=⟨by omega,fun g hg=>by rw [hf3 g (by omega) (fun hc=>by have:=w1.blk_lt hc; omega)]; exact a1'.2 g hg⟩
 have i0:=(hs13.2 H.next (by omega)).trans k0
 have i2:=(hs13.2 (H.next+2) (by omega)).trans k2
 have i3:=(hs13.2 (H.next+3) (by omega)).trans k3
 obtain ⟨⟨a3,fl3⟩,rfl,hE3⟩:=SlIn.of_own ho3 (fun _=>rfl)
 simp only [List.length_append,List.length_cons,List.length_nil] at happ
 simp only [encEv] at j4
 rw [gn] at jx
 rw [Nat.add_comm] at happ
 simp (disch:=omega) [jx,j4,hlv,happ,c8,c9,i0]
 have hlen:(st.suite.book.events++ [x]).length=1+st.suite.book.events.length:=by simp; omega
 rw [←hlen]
 have hsN:∀o,Sub H (H3.put H.next o):=fun o=>(hs.trans hs13).put (Nat.le_refl _) o
 have hE4:∀o,Elems (H3.put H.next o) a3 8 encEv (st.suite.book.events++ [x]):=fun o=>(hE3.put (by omega) o).1
 refine (Wrong_con (l:=⟨⟨r1⟩,o1,⟨a3,fl3⟩⟩) (b:= { st.suite.book with events:=st.suite.book.events++ [x] }) ⟨hi.book.t.mono (hsN _),hi.book.owners.mono (hsN _),hE4 _⟩).go ?_
 generalize hW:wrongR _=W at hev ⊢
 simp (disch:=omega)
 generalize hP:GH.put H3 H.next _=P
 have p0:P.get H.next=some (.arr { cells:=suiteC ⟨⟨⟨r1⟩,o1,⟨a3,fl3⟩⟩,⟨p2,c2⟩,q2,⟨g3,c3⟩,⟨d4,u4⟩⟩ { st.suite with book:= { st.suite.book with events:=st.suite.book.events++ [x] } }++ [vi st.day,.map (some mg)],ty:=101 }):=by subst hP; simp
 have hget:∀g,g≠H.next→P.get g=H3.get g:=by intro g hg; subst hP; exact GH.get_put_ne _ _ hg
 have p2':=(hget (H.next+2) (by omega)).trans i2
 have p3:=(hget (H.next+3) (by omega)).trans i3
 have hsP:Sub H P:=by subst hP; exact hsN _
 have hEP:Elems P a3 8 encEv (st.suite.book.events++ [x]):=by subst hP; exact hE4 _
 have hEl:=hE3.2
 have pn:H.next+5≤P.next:=by subst hP; simp; omega
 clear hP hE4
 simp only [List.cons_append,List.nil_append] at p0
 refine (hsure _ (H.next+3) P p3).mono ?_
 rintro z h (⟨hb,rfl,rfl⟩|⟨hb,⟨k,rfl⟩,hsub⟩)
 ·have h5:W.2=5:=by simpa using hb
  simp (disch:=omega) [p0,p2']
  rw [hev,if_pos h5]
  have hs2:∀o,Sub H (h.put (H.next+2) o):=fun o=>hsP.put (by omega) o
  refine ⟨⟨⟨⟨r1⟩,o1,⟨a3,fl3⟩⟩,⟨p2,c2⟩,q2,⟨g3,c3⟩,⟨d4,u4⟩⟩,by simp,SubX.of (hs2 _),⟨⟨hi.book.t.mono (hs2 _),hi.book.owners.mono (hs2 _),hEP.put _ fun b hb=>by have:=hEl b hb; omega⟩,⟨hi.net.pts.mono (hs2 _),hi.net.chs.mono (hs2 _)⟩,hi.opn.mono (hs2 _),⟨hi.line.gives.mono (hs2 _),hi.line.counts.mono (hs2 _)⟩,⟨hi.tree.nodes.mono (hs2 _),hi.tree.outs.mono (hs2 _)⟩⟩,hm.keep ((hs2 _).2 mg hmg),?_⟩
  rintro g ⟨b,rfl,h|h|h|h|h|h|h|h|h|h⟩
  ·exact .inl ⟨b,rfl,.inl h⟩
  ·exact .inl ⟨b,rfl,.inr (.inl h)⟩
  ·exact .inr (by have:=hEl b h; omega)
  ·exact .inl ⟨b,rfl,.inr (.inr (.inr (.inl h)))⟩
  ·exact .inl ⟨b,rfl,.inr (.inr (.inr (.inr (.inl h))))⟩
  ·exact .inl ⟨b,rfl,.inr (.inr (.inr (.inr (.inr (.inl h)))))⟩
  ·exact .inl ⟨b,rfl,.inr (.inr (.inr (.inr (.inr (.inr (.inl h))))))⟩
  ·exact .inl ⟨b,rfl,.inr (.inr (.inr (.inr (.inr (.inr (.inr (.inl h)))))))⟩
  ·exact .inl ⟨b,rfl,.inr (.inr (.inr (.inr (.inr (.inr (.inr (.inr (.inl h))))))))⟩
  ·exact .inl ⟨b,rfl,.inr (.inr (.inr (.inr (.inr (.inr (.inr (.inr (.inr h))))))))⟩
 ·have h5:¬W.2=5:=by simpa using hb
  simp
  rw [hev,if_neg h5]
  exact ⟨⟨k,rfl⟩,hsP.trans hsub⟩
end Go.Gm.Tryz
end
section
namespace Go.Gm
def OwnT {α:Type} (H:GH) (N:Nat) (v:Value) (ty:TypeId) (sz:Nat) (enc:α→List Value) (l:List α):Prop:=
 (l= []∧v=.slice none 0 0)∨∃g ver szs pre post,sz≠0∧N≤g∧g<H.next∧v=.slice (some (ga g pre.length ver)) l.length sz∧H.get g=some (.arr ⟨pre++l.flatMap enc++post,ty,ver,szs,false⟩)
section
variable {α:Type} {H:GH} {N:Nat} {v:Value} {ty:TypeId} {sz:Nat} {enc:α→List Value} {l:List α}
theorem OwnT.nil:OwnT H N (.slice none 0 0) ty sz enc []:=.inl ⟨rfl,rfl⟩
theorem OwnT.form (h:OwnT H N v ty sz enc l):∃a fl,v=.slice a l.length fl:=by
 rcases h with ⟨rfl,rfl⟩|⟨g,ver,szs,pre,post,h0,h1,h2,h3,h4⟩
 ·exact ⟨none,0,rfl⟩
 ·exact ⟨_,_,h3⟩
theorem OwnT.frame {H':GH} (h:OwnT H N v ty sz enc l) (hn:H.next≤H'.next) (hg:∀g,blkOf v=some g→H'.get g=H.get g):OwnT H' N v ty sz enc l:=by
 rcases h with h|⟨g,ver,szs,pre,post,h0,h1,h2,rfl,h4⟩
 ·exact .inl h
 ·exact .inr ⟨g,ver,szs,pre,post,h0,h1,by omega,rfl,(hg g (by simp [h0])).trans h4⟩
theorem OwnT.blk_lt (h:OwnT H N v ty sz enc l) {g:Nat} (hg:blkOf v=some g):N≤g∧g<H.next:=by
 rcases h with ⟨rfl,rfl⟩|⟨g',ver,szs,pre,post,h0,h1,h2,rfl,h4⟩
 ·cases hg
 ·simp [h0] at hg; subst hg; exact ⟨h1,h2⟩
theorem OwnT.elems (h:OwnT H N v ty sz enc l) (hs:∀x,(enc x).length=sz):∃a fl,v=.slice a l.length fl∧Elems H a sz enc l:=by
 rcases h with ⟨rfl,rfl⟩|⟨g,ver,szs,pre,post,h0,h1,h2,rfl,h4⟩
 ·exact ⟨none,0,rfl,hs,(fun b hb=>by cases hb),fun _=>rfl⟩
 ·refine ⟨_,_,rfl,hs,fun b hb=>?_,fun hb=>by cases hb⟩
  cases hb
  refine ⟨h2,?_⟩
  have hl:=flatMap_len hs l
  simp only [GH.read,ga,h4,GArr.rd,if_true]
  rw [if_pos (by simp only [List.length_append]; omega),List.append_assoc,List.drop_left,←hl,List.take_left]
theorem OwnT.take {a:Option Addr} {n fl:Nat} (h:OwnT H N (.slice a n fl) ty sz enc l) {k:Nat} (hk:k≤l.length) (hn:a≠none):OwnT H N (.slice a k fl) ty sz enc (l.take k):=by
 rcases h with ⟨rfl,h⟩|⟨g,ver,szs,pre,post,h0,h1,h2,h3,h4⟩
 ·cases h; exact absurd rfl hn
 ·cases h3
  refine .inr ⟨g,ver,szs,pre,(l.drop k).flatMap enc++post,h0,h1,h2,by rw [List.length_take,Nat.min_eq_left hk],?_⟩
  have e:l.flatMap enc=(l.take k).flatMap enc++(l.drop k).flatMap enc:=by rw [←List.flatMap_append,List.take_append_drop]
  rw [h4,e]
  simp only [List.append_assoc]
theorem OwnT.isSome {a:Option Addr} {n fl:Nat} (h:OwnT H N (.slice a n fl) ty sz enc l) (hl:l≠ []):∃b,a=some b∧fl=sz∧0<sz∧n=l.length:=by
 rcases h with ⟨rfl,h⟩|⟨g,ver,szs,pre,post,h0,h1,h2,h3,h4⟩
 ·exact absurd rfl hl
 ·cases h3; exact ⟨_,rfl,rfl,by omega,rfl⟩
theorem OwnT.app (h:OwnT H N v ty sz enc l) (hs:∀x,(enc x).length=sz) (ho:∀x,(enc x).all one=true) (hz:sz≠0) (x:α) (hN:N≤H.next):
  ∃v' H',gappend H ty sz v 1 (enc x)=some (v',H')∧OwnT H' N v' ty sz enc (l++ [x])∧H.next≤H'.next∧(∀k,k<H.next→blkOf v≠some k→H'.get k=H.get k)∧(∀k,blkOf v'=some k→blkOf v=some k∨H.next≤k):=by
 have c1:¬((enc x).length≠1*sz∨(enc x).all one=false):=by rw [hs,ho]; simp
 rcases h with ⟨rfl,rfl⟩|⟨g,ver,szs,pre,post,h0,h1,h2,rfl,h3⟩
 ·refine ⟨.slice (some (ga H.next 0 0)) 1 sz,H.push (.arr { cells:=enc x,ty:=ty }),?_,.inr ⟨H.next,0,[],[],[],hz,hN,by simp,by simp,by simp⟩,by simp,fun k hk _=>GH.get_push_lt _ _ hk,fun k hk=>.inr (by simp [hz] at hk; omega)⟩
  unfold gappend
  rw [if_neg c1]
  simp
 ·have hl:=flatMap_len hs l
  have hpl:pre.length+l.length*sz=(pre++l.flatMap enc).length:=by rw [List.length_append,hl]
  obtain ⟨SZ,hSZ⟩:∃SZ:List Nat,SZ=if pre.length+l.length*sz=(pre++l.flatMap enc++post).length then (pre++l.flatMap enc++post).length::szs else []:=⟨_,rfl⟩
  refine ⟨.slice (some (ga g pre.length (ver+1))) (l.length+1) sz,H.put g (.arr { cells:=pre++l.flatMap enc++enc x,ty:=ty,ver:=ver+1,sz:=SZ,ro:=false }),?_,
   .inr ⟨g,ver+1,SZ,pre,[],h0,h1,by simpa using h2,by simp,by rw [GH.get_put_same]; simp⟩,by simp,fun k hk hb=>GH.get_put_ne _ _ (by intro hc; subst hc; simp [h0] at hb),fun k hk=>.inl (by simpa [h0] using hk)⟩
  unfold gappend
  rw [if_neg c1]
  simp only [ga]
  rw [if_neg (by decide),if_neg hz,if_neg (by simp),h3]
  simp only [true_and]
  rw [if_pos (by simp only [List.length_append]; omega)]
  have e1:(pre++l.flatMap enc++post).take (pre.length+l.length*sz)=pre++l.flatMap enc:=by rw [hpl,List.take_left]
  rw [e1,hSZ]
  congr
end
end Go.Gm
end
section
namespace Go.Gm.Tryz
open Go.Proofs
structure EnL where
 en:En
 sl:SLoc
@[simp] def encEL (x:EnL):List Value:= [vi x.en.kind,.slice x.sl.a x.en.nums.length x.sl.fl]
structure DeskIn (H:GH) (dg:Nat) (L:ULoc) (s:Suite) (es:List EnL) (v:Value):Prop where
 obj:H.get dg=some (.arr { cells:=suiteC L s++ [v,.bool true],ty:=95 })
 lt:dg<H.next
 suite:SuiteIn H L s
 sblk:∀g,blksOf L g→g<dg
 ents:OwnL H (dg+1) v 58 2 encEL es
 nums:∀x∈es,Elems H x.sl.a 1 encI x.en.nums∧∀b,x.sl.a=some b→b.block≠dg∧blkOf v≠some b.block
theorem DeskIn.mono {H H':GH} {dg:Nat} {L:ULoc} {s:Suite} {es:List EnL} {v:Value} (h:DeskIn H dg L s es v) (hs:Sub H H'):DeskIn H' dg L s es v:=
 ⟨(hs.2 _ h.lt).trans h.obj,Nat.lt_of_lt_of_le h.lt hs.1,h.suite.mono hs,h.sblk,h.ents.sub hs,fun x hx=>⟨(h.nums x hx).1.mono hs,(h.nums x hx).2⟩⟩
def stepI (l:List Nat) (i:Nat) (k:Int):List Nat:=if k=15 then l.dropLast else l++ [i]
def standTo (ks:List Int):Nat→List Nat
 |0=> []
 |n+1=>stepI (standTo ks n) n (ks.getD n 0)
def standI (ks:List Int):List Nat:=standTo ks ks.length
def UndoOk (ks:List Int):Prop:=∀n,n<ks.length→ks.getD n 0=15→standTo ks n≠ []
def ksOf (es:List EnL):List Int:=es.map (·.en.kind)
def ints (l:List Nat):List Int:=l.map fun (n:Nat)=>(n:Int)
theorem standTo_len (ks:List Int):∀n,(standTo ks n).length≤n
 |0=>Nat.le_refl _
 |n+1=>by
  have:=standTo_len ks n
  unfold standTo stepI
  split
  ·simp; omega
  ·simp; omega
theorem standing_con (dg:Nat) (L:ULoc) (s:Suite) (es:List EnL) (v:Value) (H:GH) (hd:DeskIn H dg L s es v) (hu:UndoOk (ksOf es)) (hl:es.length≤1000):
  GCall Tryz.prog 86 [.pointer (some (ga dg 0 0))] H fun x H'=>x=.ret (.func (.func 142) #[] #[.pointer (some (ga (H.next+1) 0 0)),.pointer (some (ga H.next 0 0))])∧Sub H H'∧
   H'.get H.next=some (.arr { cells:= [.pointer (some (ga dg 0 0))],ty:=48 })∧H.next+2≤H'.next∧∃a fl,H'.get (H.next+1)=some (.arr { cells:= [.slice a (standI (ksOf es)).length fl],ty:=25 })∧Elems H' a 1 encI (ints (standI (ksOf es)))∧∀b,a=some b→H.next+2≤b.block:=by
 have hob:=hd.obj
 simp only [List.cons_append,List.nil_append] at hob
 have hdl:=hd.lt
 obtain ⟨va,vf,rfl,hE⟩:=hd.ents.elems (fun _=>rfl)
 have hen:=hd.ents
 refine gcall_wp tok mix fok86 (F:=g86) (c:=_) rfl (n:=30) rfl (rs:= [.tmp 2]) rfl ?_
 have ne1:¬dg=H.next+1:=by omega
 have ne0:¬dg=H.next:=by omega
 simp (disch:=omega) [hob,ne1]
 refine wp_up tok mix (by kernel_rfl) es.length (fun i ρ m h=>ρ 3=.pointer (some (ga (H.next+1) 0 0))∧ρ 1=.pointer (some (ga H.next 0 0))∧ρ 9=.slice va es.length vf∧ρ 10=vi es.length∧ρ 11=vi i∧m= []∧Sub H h∧h.get H.next=some (.arr { cells:= [.pointer (some (ga dg 0 0))],ty:=48 })∧H.next+2≤h.next∧
  ∃lv,h.get (H.next+1)=some (.arr { cells:= [lv],ty:=25 })∧OwnT h (H.next+2) lv 3 1 encI (ints (standTo (ksOf es) i))) (i0:=0) (by omega) ?_ ?_
 ·refine ⟨by simp,by simp,by simp,by simp,by simp,rfl,((Sub.refl H).push _).push _,by simp,by simp,.slice none 0 0,by simp (disch:=omega),OwnT.nil⟩
 rintro i ρ m h hin ⟨e3,e1,e9,e10,e11,rfl,q1,q2,q3,lv,q4,q5⟩
 simp [e10,e11]
 by_cases hlt:i<es.length
 ·obtain ⟨b,rfl,hb,hrd⟩:=(hE.mono q1).at i hlt
  have hq:(ksOf es).getD i 0=es[i].en.kind:=by unfold ksOf; rw [getD_at (by simpa using hlt)]; simp
  have hst:standTo (ksOf es) (i+1)=stepI (standTo (ksOf es) i) i es[i].en.kind:=by rw [standTo,hq]
  have hll:=standTo_len (ksOf es) i
  obtain ⟨la,lf,hlv⟩:=q5.form
  have hil:(ints (standTo (ksOf es) i)).length=(standTo (ksOf es) i).length:=by simp [ints]
  rw [hil] at hlv
  by_cases h15:es[i].en.kind=15
  ·have hne:=hu i (by simpa [ksOf] using hlt) (by rw [hq,h15])
   have hpos:0<(standTo (ksOf es) i).length:=List.length_pos_iff.2 hne
   subst hlv
   obtain ⟨lb,rfl,rfl,_,_⟩:=q5.isSome (by simpa [ints] using hne)
   have hm1:((standTo (ksOf es) i).length:Int) - 1=((standTo (ksOf es) i).length - 1:Nat):=by omega
   have hcut:=q5.take (k:=(standTo (ksOf es) i).length - 1) (by rw [hil]; omega) (by simp)
   have hmi:(ints (standTo (ksOf es) i)).take ((standTo (ksOf es) i).length - 1)=ints (standTo (ksOf es) (i+1)):=by
    rw [hst,stepI,if_pos h15,ints,ints,←List.map_take,List.dropLast_eq_take]
   rw [hmi] at hcut
   simp (disch:=omega) [e1,e3,e9,e10,e11,hlt,hrd,h15,q4,hm1,wrap64]
   have ga0:gadd lb 0=lb:=rfl
   rw [ga0]
   refine ⟨((q1.push _).put (by have:=q1.1; omega) _).put (by omega) _,q2,by omega,?_⟩
   refine hcut.frame (by simp) fun g hg=>?_
   have:=hcut.blk_lt hg
   rw [GH.get_put_ne _ _ (by omega),GH.get_put_ne _ _ (by omega),GH.get_push_lt _ _ this.2]
  ·have hi15:stepI (standTo (ksOf es) i) i es[i].en.kind=standTo (ksOf es) i++ [i]:=by rw [stepI,if_neg h15]
   have hap:ints (standTo (ksOf es) (i+1))=ints (standTo (ksOf es) i)++ [(i:Int)]:=by rw [hst,hi15]; simp [ints]
   have q6:∀o o' o'',OwnT (((h.push o).put h.next o').push o'') (H.next+2) lv 3 1 encI (ints (standTo (ksOf es) i)):=fun o o' o''=>q5.frame (by simp; try omega) fun g hg=>by
    have:=q5.blk_lt hg
    rw [GH.get_push_lt _ _ (by simp; try omega),GH.get_put_ne _ _ (by omega),GH.get_push_lt _ _ this.2]
   simp (disch:=omega) [e3,e9,e11,hlt,hrd,h15,q4]
   generalize hG:GH.push (GH.put _ _ _) _=G
   have q7:OwnT G (H.next+2) lv 3 1 encI (ints (standTo (ksOf es) i)):=by subst hG; exact q6 _ _ _
   have q8:Sub h G:=by subst hG; exact (((Sub.refl h).push _).put (Nat.le_refl _) _).push _
   have gn:=q8.1
   clear hG q6
   obtain ⟨v',H',happ,ho,hn,hf,hb'⟩:=q7.app (by simp) (by simp) (by decide) (i:Int) (by omega)
   simp only [encI] at happ
   obtain ⟨a',fl',rfl⟩:=ho.form
   have hle:(ints (standTo (ksOf es) i)++ [(i:Int)]).length=(ints (standTo (ksOf es) i)).length+1:=by simp
   rw [hle] at ho happ
   have hlen:lenOfV lv=(standTo (ksOf es) i).length:=by rw [hlv]; rfl
   have c8:8*(1+(standTo (ksOf es) i).length)≤1000000:=by omega
   have c9:1+(standTo (ksOf es) i).length≤1000000:=by omega
   have hbl:∀g,g<H.next+2→H'.get g=h.get g:=fun g hg=>by
    rw [hf g (by omega) fun hc=>by have:=q7.blk_lt hc; omega]
    exact q8.2 g (by omega)
   have hq4:=(hbl (H.next+1) (by omega)).trans q4
   simp (disch:=omega) [hlen,happ,c8,c9,e1,e3,e9,e10,e11,hq4,wrap64]
   refine ⟨?_,(hbl H.next (by omega)).trans q2,by omega,?_⟩
   ·exact (Sub.put (H:=H) (h:=H') ⟨by have:=q1.1; omega,fun g hg=>(hbl g (by omega)).trans (q1.2 g hg)⟩ (by omega) _)
   ·rw [hap]
    refine ho.frame (Nat.le_refl _) fun g hg=>?_
    have:=ho.blk_lt hg
    exact GH.get_put_ne _ _ (by omega)
 ·have:i=es.length:=by omega
  subst this
  obtain ⟨a,fl,rfl,hel⟩:=q5.elems (fun _=>rfl)
  have hab:∀b,a=some b→H.next+2≤b.block:=by
   rintro b rfl
   rcases q5 with ⟨_,h⟩|⟨g,ver,szs,pre,post,_,h1,_,h2,_⟩
   ·cases h
   ·cases h2; exact h1
  simp (disch:=omega) [e1,e3]
  have hz:standI (ksOf es)=standTo (ksOf es) es.length:=by simp [standI,ksOf]
  rw [hz]
  refine ⟨q1,q2,q3,a,⟨fl,?_⟩,hel,hab⟩
  rw [q4]
  simp [ints]
end Go.Gm.Tryz
end
section
namespace Go.Gm.Tryz
open Go.Proofs
structure StIn2 (h:GH) (t3 t1 dg:Nat) (L:ULoc) (s:Suite) (es:List EnL) (v:Value) (a:Option Addr) (fl:Nat) (idx:List Nat):Prop where
 b3:h.get t3=some (.arr { cells:= [.slice a idx.length fl],ty:=25 })
 b1:h.get t1=some (.arr { cells:= [.pointer (some (ga dg 0 0))],ty:=48 })
 el:Elems h a 1 encI (ints idx)
 dk:DeskIn h dg L s es v
theorem standing1_con (l t3 t1 dg:Nat) (L:ULoc) (s:Suite) (es:List EnL) (v:Value) (a:Option Addr) (fl:Nat) (idx:List Nat) (hidx:∀i∈idx,i<es.length) (hil:idx.length≤1000) (_hel:es.length≤1000) (Inv:Nat→GH→Prop)
  (hI:∀k h,Inv k h→StIn2 h t3 t1 dg L s es v a fl idx)
  (hr:∀k (hk:k<idx.length) h,Inv k h→GRound Tryz.prog l [vi idx[k],enV (es.getD idx[k] ⟨⟨0,[]⟩,⟨none,0⟩⟩).sl (es.getD idx[k] ⟨⟨0,[]⟩,⟨none,0⟩⟩).en] h fun x h'=>x=.ret (.bool true)∧Inv (k+1) h')
  (H:GH) (h0:Inv 0 H):GCall Tryz.prog 142 [.func (.yield l) #[] #[],.pointer (some (ga t3 0 0)),.pointer (some (ga t1 0 0))] H fun x H'=>x=.ret (.tuple #[])∧Inv idx.length H':=by
 have z:=hI 0 H h0
 refine gcall_wp tok mix fok142 (F:=g142) (c:=_) rfl (n:=24) rfl (rs:= []) rfl ?_
 simp (disch:=omega) [z.b3]
 refine wp_up tok mix (by kernel_rfl) idx.length (fun i ρ m h=>ρ 0=.func (.yield l) #[] #[]∧ρ 1=.pointer (some (ga t3 0 0))∧ρ 2=.pointer (some (ga t1 0 0))∧ρ 6=.slice a idx.length fl∧ρ 7=vi idx.length∧ρ 8=vi i∧m= []∧Inv i h) (i0:=0) (by omega) ?_ ?_
 ·exact ⟨by simp,by simp,by simp,by simp,by simp,by simp,rfl,h0⟩
 rintro i ρ m h hin ⟨e0,e1,e2,e6,e7,e8,rfl,hi⟩
 have y:=hI i h hi
 simp [e7,e8]
 by_cases hlt:i<idx.length
 ·obtain ⟨b,rfl,hb,hrd⟩:=y.el.at i (by simpa [ints] using hlt)
  have hrd2:=hrd 0 1 (by decide)
  have hix:idx[i]<es.length:=hidx _ (List.getElem_mem hlt)
  obtain ⟨va,vf,hva,hE⟩:=y.dk.ents.elems (fun _=>rfl)
  have hob:=y.dk.obj
  subst hva
  simp only [List.cons_append,List.nil_append] at hob
  obtain ⟨b2,rfl,hb2,hrd3⟩:=hE.at idx[i] hix
  have hround:=hr i hlt h hi
  rw [getD_at hix] at hround
  have hc:((idx[i]:Nat):Int)<es.length:=by omega
  simp [ints] at hrd2
  simp (disch:=omega) [hlt,e0,e2,e6,e8,hrd2,y.b1,hob,hrd3]
  refine hround.mono ?_
  rintro x h' ⟨rfl,hi'⟩
  simp (disch:=omega) [e0,e1,e2,e6,e7,e8,wrap64]
  exact hi'
 ·have:i=idx.length:=by omega
  subst this
  simp (disch:=omega) [hlt]
  exact hi
end Go.Gm.Tryz
end
section
namespace Go.Gm.Tryz
open Go.Proofs
structure AfterLaw (A:StP→En→Option StP) (K:En→Prop) (I:StP→Prop):Prop where
 call:∀(L:ULoc) (st:StP) (mg:Nat) (sl:SLoc) (e:En) (H:GH),SuiteIn H L st.suite→MapIn H mg st.cl→mg<H.next→isEntryB e=true→K e→I st→Elems H sl.a 1 encI e.nums→GCall Tryz.prog 38 [stateV L st.suite st.day mg,enV sl e] H (AfterP L mg H (A st e))
 keep:∀st e st',I st→isEntryB e=true→K e→A st e=some st'→I st'
def st0 (s:Suite):StP:=⟨s,0,fun _=>0⟩
def enAt (es:List EnL) (i:Nat):EnL:=es.getD i ⟨⟨0,[]⟩,⟨none,0⟩⟩
def standE (es:List EnL):List En:=(standI (ksOf es)).map fun i=>(enAt es i).en
def runA (A:StP→En→Option StP):StP→List En→Option StP
 |st,[]=>some st
 |st,e::l=>match A st e with
  |some st'=>runA A st' l
  |none=>none
theorem runA_take {A:StP→En→Option StP}:∀ {l:List En} {st s':StP},runA A st l=some s'→∀k,k≤l.length→∃m,runA A st (l.take k)=some m∧runA A m (l.drop k)=some s'
 | [],st,s',h,k,hk=>⟨st,by simp [runA],by simpa using h⟩
 |e::l,st,s',h,0,hk=>⟨st,rfl,h⟩
 |e::l,st,s',h,k+1,hk=>by
  simp only [runA] at h
  cases hA:A st e with
  |none=>rw [hA] at h; cases h
  |some m0=>
   rw [hA] at h
   obtain ⟨m,h1,h2⟩:=runA_take h k (by simpa using hk)
   exact ⟨m,by simp only [List.take_succ_cons,runA,hA]; exact h1,h2⟩
theorem runA_app {A:StP→En→Option StP}:∀ {l:List En} {st m:StP} {e:En},runA A st l=some m→runA A st (l++ [e])=A m e
 | [],st,m,e,h=>by
  cases h
  simp only [List.nil_append,runA]
  cases A st e<;>rfl
 |x::l,st,m,e,h=>by
  simp only [runA,List.cons_append] at h ⊢
  cases hA:A st x with
  |none=>rw [hA] at h; cases h
  |some m0=>rw [hA] at h; exact runA_app h
theorem runA_inv {A:StP→En→Option StP} {K:En→Prop} {I:StP→Prop} (hA:AfterLaw A K I):∀ {l:List En} {st s':StP},(∀e∈l,isEntryB e=true∧K e)→I st→runA A st l=some s'→I s'
 | [],st,s',_,hi,h=>by cases h; exact hi
 |e::l,st,s',hk,hi,h=>by
  simp only [runA] at h
  cases hs:A st e with
  |none=>rw [hs] at h; cases h
  |some m=>
   rw [hs] at h
   obtain ⟨h1,h2⟩:=hk e (by simp)
   exact runA_inv hA (fun x hx=>hk x (by simp [hx])) (hA.keep st e m hi h1 h2 hs) h
theorem standTo_lt (ks:List Int):∀n,∀i∈standTo ks n,i<n
 |0,i,h=>by simp [standTo] at h
 |n+1,i,h=>by
  have ih:=standTo_lt ks n
  unfold standTo stepI at h
  split at h
  ·have:=ih i (List.dropLast_subset _ h); omega
  ·rcases List.mem_append.1 h with h|h
   ·have:=ih i h; omega
   ·simp at h; omega
structure NowInv (A:StP→En→Option StP) (F:FuncId) (avs bd:Code) (d l:Nat) (gt:GT) (H:GH) (bs rs mg t3 t1 dg:Nat) (L0:ULoc) (s:Suite) (es:List EnL) (v:Value) (a:Option Addr) (fl:Nat) (Z:List Value) (k:Nat) (h:GH):Prop where
 sub:Sub H h
 st:StIn2 h t3 t1 dg L0 s es v a fl (standI (ksOf es))
 lp:h.get l=some (loopO F #[13,14] avs bd d .ready none gt)
 ord:t3<l∧t1<l∧l<h.next∧H.next≤rs∧rs<mg∧mg<bs∧bs<t1∧bs<t3
 bx:∃L st,h.get bs=some (.arr { cells:=suiteC L st.suite++ [vi st.day,.map (some mg)],ty:=101 })∧SuiteIn h L st.suite∧MapIn h mg st.cl∧runA A (st0 s) ((standE es).take k)=some st∧(∀g,blksOf L g→g≠bs∧g≠rs)
 rz:h.get rs=some (.arr { cells:=Z,ty:=101 })
 mks:h.get d=some (.marks true)
 dl:d+1=l
theorem now_con {A:StP→En→Option StP} {K:En→Prop} {I:StP→Prop} (hA:AfterLaw A K I) (dg:Nat) (L:ULoc) (s:Suite) (hs:Short s) (es:List EnL) (v:Value) (H:GH) (hd:DeskIn H dg L s es v) (hu:UndoOk (ksOf es)) (hl:es.length≤1000) (hI:I (st0 s)) (hK:∀e∈standE es,isEntryB e=true∧K e) (st:StP) (hrun:runA A (st0 s) (standE es)=some st):
  GCall Tryz.prog 37 [.pointer (some (ga dg 0 0))] H fun x H'=>∃L' mg,x=.ret (stateV L' st.suite st.day mg)∧Sub H H'∧SuiteIn H' L' st.suite∧MapIn H' mg st.cl∧mg<H'.next∧H.next≤mg∧I st:=by
 have hob:=hd.obj
 simp only [List.cons_append,List.nil_append] at hob
 have hdl:=hd.lt
 refine gcall_wp tok mix fok37 (F:=g37) (c:=_) rfl (n:=19) rfl (rs:= [.cell 2 101]) rfl ?_
 have ne0:¬dg=H.next:=by omega
 simp (disch:=omega) [hob]
 refine (cbegin_con L s hs _ (hd.suite.mono (.push (.refl _) _))).mono ?_
 rintro x H1 ⟨L1,mg,rfl,a1,h1,l1,v1,c1,m1,m2,m3⟩
 have n1:=a1.1
 simp at n1 m1
 have r0:=a1.2 H.next (by simp)
 simp at r0
 simp (disch:=omega)
 have b1:Sub H H1:=((Sub.refl H).push _).trans a1
 refine (standing_con dg L s es v _ (hd.mono ((b1.push _).put (by omega) _)) hu hl).mono ?_
 rintro x H2 ⟨rfl,a2,t1k,t2n,a,fl,t3k,hel,hab0⟩
 simp only [GH.next_put,GH.next_push] at t1k t2n t3k hab0
 simp
 generalize hρ:upd _ 12 _=ρ0
 have e2:ρ0 2=.pointer (some (ga H.next 0 0)):=by subst hρ; simp
 have e3:ρ0 3=.pointer (some (ga H1.next 0 0)):=by subst hρ; simp
 have e12:ρ0 12=.func (.func 142) #[] #[.pointer (some (ga (H1.next+2) 0 0)),.pointer (some (ga (H1.next+1) 0 0))]:=by subst hρ; simp
 clear hρ
 refine wp_rangeOut rfl rfl (gf:=142) (first:= #[]) (captured:= #[.pointer (some (ga (H1.next+2) 0 0)),.pointer (some (ga (H1.next+1) 0 0))]) (by simp [e12]) 37 ?_
 intro gt hgt
 generalize hav:Code.region 3 _ false=avs
 generalize hbd:Code.block 1 _=bd
 have hidx:∀i∈standI (ksOf es),i<es.length:=fun i hi=>by
  have:=standTo_lt (ksOf es) (ksOf es).length i hi
  simpa [ksOf] using this
 have hab:∀b,a=some b→H1.next<b.block∧b.block<H2.next:=fun b hb=>⟨by have:=hab0 b hb; omega,(hel.ok b hb).1⟩
 have hil:(standI (ksOf es)).length≤1000:=by have:=standTo_len (ksOf es) (ksOf es).length; simp only [ksOf,List.length_map] at this; unfold standI; simp only [ksOf,List.length_map]; omega
 refine (standing1_con (H2.next+1) (H1.next+2) (H1.next+1) dg L s es v a fl (standI (ksOf es)) hidx hil hl (NowInv A 37 avs bd H2.next (H2.next+1) gt H H1.next H.next mg (H1.next+2) (H1.next+1) dg L s es v a fl [.slice none 0 0,vi 0,vi 0,vi 0,vi 0,.slice none 0 0,.slice none 0 0,.slice none 0 0,.slice none 0 0,.slice none 0 0,.slice none 0 0,vi 0,vi 0,vi 0,.slice none 0 0,vi 0,.slice none 0 0,.slice none 0 0,vi 0,.map none]) (fun k h hk=>hk.st) ?_ _ ?_).mono ?_
 ·intro k hk h hinv
  have hek:(standI (ksOf es))[k]<es.length:=hidx _ (List.getElem_mem hk)
  obtain ⟨Lk,stk,bx,hsk,hmk,hrk,hbk⟩:=hinv.bx
  obtain ⟨o1,o2,o3,o4,o5,o6,o7,o8⟩:=hinv.ord
  have hse:(standE es)[k]?=some (enAt es (standI (ksOf es))[k]).en:=by simp [standE,hk]
  have hkl:k<(standE es).length:=by simpa [standE] using hk
  obtain ⟨st',hA1,hA2⟩:=runA_take hrun (k+1) (by omega)
  have htk:(standE es).take (k+1)=(standE es).take k++ [(enAt es (standI (ksOf es))[k]).en]:=by
   rw [List.take_add_one,hse]; rfl
  rw [htk,runA_app hrk] at hA1
  have hmem:(enAt es (standI (ksOf es))[k]).en∈standE es:=List.mem_of_getElem? hse
  obtain ⟨hE1,hK1⟩:=hK _ hmem
  have hmem2:enAt es (standI (ksOf es))[k]∈es:=by unfold enAt; rw [getD_at hek]; exact List.getElem_mem hek
  have hIk:I stk:=runA_inv hA (fun e he=>hK e (List.mem_of_mem_take he)) hI hrk
  show GRound Tryz.prog (H2.next+1) [vi (standI (ksOf es))[k],enV (enAt es (standI (ksOf es))[k]).sl (enAt es (standI (ksOf es))[k]).en] h _
  generalize enAt es (standI (ksOf es))[k]=en at hse htk hA1 hmem hE1 hK1 hmem2 ⊢
  have hlp:=hinv.lp
  subst hav hbd
  refine ground_wp2 (plans:=g37.plans) tok mix hgt (by kernel_rfl) (by kernel_rfl) hlp ?_
  simp (disch:=omega)
  refine ⟨hlp,?_⟩
  generalize hlo:loopO 37 #[13,14] _ _ H2.next .busy none gt=lo
  generalize hgl:GH.put _ (H2.next+1) _=Hb
  have x1:SubA h ((h.push (.arr { cells:= [vi 0,.slice none 0 0],ty:=58 })).put h.next (.arr { cells:=encEL en,ty:=58 })):=SubA.of ((((Sub.refl h).push _).put (Nat.le_refl _) _))
  have x2:SubA h Hb:=by
   subst hgl
   exact x1.trans (SubA.put_loop ((GH.get_put_ne _ _ (by omega)).trans ((GH.get_push_lt _ _ (by omega)).trans hlp)) (by simp) _)
  have x3:∀g,g<h.next→g≠H2.next+1→Hb.get g=h.get g:=by
   intro g hg hgl'
   subst hgl
   rw [GH.get_put_ne _ _ (by omega),GH.get_put_ne _ _ (by omega),GH.get_push_lt _ _ hg]
  have x4:Hb.next=h.next+1:=by subst hgl; simp
  have x5:Hb.get h.next=some (.arr { cells:=encEL en,ty:=58 }):=by
   subst hgl
   rw [GH.get_put_ne _ _ (by omega),GH.get_put_same]; rfl
  have x6:Hb.get (H2.next+1)=some lo:=by subst hgl; exact GH.get_put_same ..
  clear hgl
  have y1:=(x3 _ (by omega) (by omega)).trans bx
  simp only [List.cons_append,List.nil_append] at y1
  simp only [encEL] at x5
  simp (disch:=omega) [e3,y1,x5]
  refine (hA.call Lk stk mg en.sl en.en Hb (hsk.monoA x2) (hmk.keep (x3 _ (by omega) (by omega))) (by omega) hE1 hK1 hIk ((hinv.st.dk.nums en hmem2).1.same x2.1 x2.2)).mono ?_
  intro x h' hx
  rw [hA1] at hx
  obtain ⟨L',rfl,z1,z2,z3,z4⟩:=hx
  have z5:=z1.1
  have w1:=(z1.2 H1.next (by omega) (by omega)).trans y1
  have w2:=(z1.2 (H2.next+1) (by omega) (by omega)).trans x6
  have nel:¬H2.next+1=H1.next:=by omega
  simp (disch:=omega) [e3,w1]
  show GH.get _ _=some (loopO 37 #[13,14] _ _ H2.next .busy none gt)∧_
  rw [hlo]
  refine ⟨(GH.get_put_ne _ _ nel).trans w2,rfl,?_⟩
  have u1:SubA Hb h':=⟨z1.1,fun g A hg hA=>z1.2 g hg fun hc=>by
   obtain ⟨es',cl',he'⟩:=hmk.lt
   rw [hc,x3 _ (by omega) (by omega),he'] at hA; cases hA⟩
  have u2:∀g,g<h.next→g≠mg→g≠H1.next→g≠H2.next+1→∀o o',GH.get (GH.put (GH.put h' H1.next o) (H2.next+1) o') g=h.get g:=fun g h1 h2 h3 h4 o o'=>by
   rw [GH.get_put_ne _ _ h4,GH.get_put_ne _ _ h3,z1.2 g (by omega) h2,x3 g h1 h4]
  have u3:∀o o',Sub H (GH.put (GH.put h' H1.next o) (H2.next+1) o'):=fun o o'=>⟨by have:=hinv.sub.1; simp; omega,fun g hg=>(u2 g (by have:=hinv.sub.1; omega) (by omega) (by omega) (by omega) o o').trans (hinv.sub.2 g hg)⟩
  refine ⟨u3 _ _,⟨(u2 _ (by omega) (by omega) (by omega) (by omega) _ _).trans hinv.st.b3,(u2 _ (by omega) (by omega) (by omega) (by omega) _ _).trans hinv.st.b1,?_,hd.mono (u3 _ _)⟩,GH.get_put_same ..,⟨o1,o2,by simp; omega,o4,o5,o6,o7,o8⟩,?_,(u2 _ (by omega) (by omega) (by omega) (by omega) _ _).trans hinv.rz,(u2 _ (by omega) (by omega) (by omega) (by omega) _ _).trans hinv.mks,rfl⟩
  ·exact ((hinv.st.el.same x2.1 x2.2).same u1.1 u1.2).put _ (fun b hb=>by have:=hab b hb; omega)|>.put _ (fun b hb=>by have:=hab b hb; omega)
  ·refine ⟨L',st',?_,?_,?_,by rw [htk,runA_app hrk]; exact hA1,?_⟩
   ·rw [GH.get_put_ne _ _ (by omega),GH.get_put_same]; rfl
   ·exact (z2.put (fun g hg=>by rcases z4 g hg with h|h; exact (hbk g h).1; omega) _).put_map (o:=lo) ((GH.get_put_ne _ _ nel).trans w2) (by rw [←hlo]; simp) _
   ·exact z3.keep ((GH.get_put_ne _ _ (by omega)).trans (GH.get_put_ne _ _ (by omega)))
   ·intro g hg
    rcases z4 g hg with h|h
    ·exact hbk g h
    ·omega
 ·have q:Sub H2 ((H2.push (.marks true)).push (loopO 37 #[13,14] avs bd H2.next .ready none gt)):=((Sub.refl H2).push _).push _
  have p0:Sub H1 ((H1.push (.arr { cells:= [.slice none 0 0,vi 0,vi 0,vi 0,vi 0,.slice none 0 0,.slice none 0 0,.slice none 0 0,.slice none 0 0,.slice none 0 0,.slice none 0 0,vi 0,vi 0,vi 0,.slice none 0 0,vi 0,.slice none 0 0,.slice none 0 0,vi 0,.map none],ty:=101 })).put H1.next (.arr { cells:=suiteC L1 s++ [vi 0,.map (some mg)],ty:=101 })):=((Sub.refl H1).push _).put (Nat.le_refl _) _
  have p1:=a2.1
  simp at p1
  have p2:Sub H1 H2:=p0.trans a2
  have p3:=a2.2 H1.next (by simp)
  rw [GH.get_put_same] at p3
  refine ⟨(b1.trans p2).trans q,⟨(q.2 _ (by omega)).trans t3k,(q.2 _ (by omega)).trans t1k,hel.mono q,(hd.mono (b1.trans p2)).mono q⟩,by simp (disch:=omega),⟨by omega,by omega,by simp,Nat.le_refl _,by omega,by omega,by omega,by omega⟩,?_,(q.2 _ (by omega)).trans ((p2.2 _ (by omega)).trans r0),by simp (disch:=omega),rfl⟩
  refine ⟨L1,st0 s,(q.2 _ (by omega)).trans p3,(h1.mono p2).mono q,m3.keep ((q.2 _ (by omega)).trans (p2.2 _ (by omega))),rfl,fun g hg=>?_⟩
  rcases l1.blk v1 c1 hg with h|h
  ·simp at h
   have:=h1.blk_lt hg
   omega
  ·have:=hd.suite.blk_lt h
   omega
 ·rintro x h ⟨rfl,hk⟩
  refine ⟨_,.ready,none,gt,rfl,hk.lp,by simp,?_⟩
  obtain ⟨Lf,stf,bx,hsf,hmf,hrf,hbf⟩:=hk.bx
  obtain ⟨o1,o2,o3,o4,o5,o6,o7,o8⟩:=hk.ord
  have hlen:(standI (ksOf es)).length=(standE es).length:=by simp [standE]
  rw [hlen,List.take_length,hrun] at hrf
  cases hrf
  have hsA:SubA h (h.put (H2.next+1) (loopO 37 #[13,14] avs bd H2.next .exhausted none gt)):=SubA.put_loop hk.lp (by simp) _
  have hsb:Sub H (h.put (H2.next+1) (loopO 37 #[13,14] avs bd H2.next .exhausted none gt)):=hk.sub.put (by omega) _
  have bx':=(hsA.2 _ _ (by omega) bx).trans bx
  have rz':=(hsA.2 _ _ (by omega) hk.rz).trans hk.rz
  have mk':(h.put (H2.next+1) (loopO 37 #[13,14] avs bd H2.next .exhausted none gt)).get H2.next=some (.marks true):=(GH.get_put_ne _ _ (by omega)).trans hk.mks
  have hmf':MapIn (h.put (H2.next+1) (loopO 37 #[13,14] avs bd H2.next .exhausted none gt)) mg st.cl:=hmf.keep (GH.get_put_ne _ _ (by omega))
  have hsf':=hsf.monoA hsA
  have hnx:(h.put (H2.next+1) (loopO 37 #[13,14] avs bd H2.next .exhausted none gt)).next=h.next:=by simp
  generalize GH.put h (H2.next+1) _=G at hsb bx' rz' mk' hmf' hsf' hnx ⊢
  simp only [List.cons_append,List.nil_append] at bx'
  have nem:¬H2.next=H.next:=by omega
  simp (disch:=omega) [pendQ,e2,e3,bx',rz',mk']
  refine ⟨Lf,mg,by simp,(hsb.put (Nat.le_refl _) _).put (by omega) _,(hsf'.put (fun g hg=>(hbf g hg).2) _).put_map (o:=.marks true) ((GH.get_put_ne _ _ (by omega)).trans mk') rfl _,hmf'.keep ((GH.get_put_ne _ _ (by omega)).trans (GH.get_put_ne _ _ (by omega))),by omega,by omega,runA_inv hA hK hI hrun⟩
end Go.Gm.Tryz
end
section
namespace Go.Gm.Tryz
open Go.Proofs
theorem neq_iface (t:TypeId) (v:Value):gbin T .neq 20 (.iface t v) .nilIface=some (.bool true):=by
 have:gequal T 20 (.iface t v) .nilIface=some false:=nrfl rfl
 simp [gbin,this]
theorem rest87:∃(id:Nat) (os:Array Oper) (c:Code),g87.fn.body=some (.seq (.region id os false) c)∧codeOk T g87.plans c=true∧
  (∀(Q:Exit→Act→List Frame→World→Prop) (a:Act) (c₀ :Frame) (cs:List Frame) (w:World) (pv:Value),4<a.tmps.size→c₀.mode=.panicking [{ v:=pv,recovered:=false }]→
   Q .normal ((a.put (some 4) pv).put (some 1) pv) ({ c₀ with mode:=.panicking [{ v:=pv,recovered:=true }] }::cs) w→wpOpsSIn Fence.wide 0 Tryz.prog os Q (List.range os.size) a (c₀ ::cs) w)∧
  (∀(ρ:Rho) (H:GH) (Q:VQ) (n:Int) (g2:Nat),ρ 0=.pointer (some (ga g2 0 0))→g2<H.next→
   H.get g2=some (.arr { cells:= [vi 0],ty:=45 })→ρ 1=.iface 180 (.agg #[vi n])→
   (∀ρ' H',H.next≤H'.next→(∀g,g<H.next→g≠g2→H'.get g=H.get g)→H'.get g2=some (.arr { cells:= [vi 7],ty:=45 })→Q .normal ρ' [] H')→
   wpC ⟨Tryz.prog,T,g87.plans,15,none⟩ c Q ρ [] H):=by
 refine ⟨_,_,_,rfl,by kernel_rfl,?_,?_⟩
 ·intro Q a c₀ cs w pv h4 hu hq
  simp [wpOpsSIn,go_sem,recoverD,hu,h4]
  first|exact hq|exact ⟨fun _ _=>trivial,hq⟩
 intro ρ H Q n g2 e0 l2 h2 e5 hq
 simp (disch:=omega) [e0,e5,h2,neq_iface]
 refine hq _ _ ?_ (fun g hg k2=>?_) ?_
 ·simp
 ·rw [GH.get_put_ne _ _ k2,GH.get_put_ne _ _ (by omega),GH.get_push_lt _ _ hg]
 ·simp (disch:=omega)
theorem catch87 {β:Bm} {H:GH} {w:World} {n:Int} {g2:Nat} {p2 pv:Value} (hR:Rel β H w) (v2:VR β (.pointer (some (ga g2 0 0))) p2)
  (vp:VR β (.iface 180 (.agg #[vi n])) pv) (l2:g2<H.next) (h2:H.get g2=some (.arr { cells:= [vi 0],ty:=45 })):
  CallsDIn Fence.wide 0 Tryz.prog 87 #[p2] (.panicking [{ v:=pv,recovered:=false }]) w fun e u' w'=>e=.returned (.tuple #[])∧u'=.panicking [{ v:=pv,recovered:=true }]∧
   ∃β' H',Rel β' H' w'∧Ext β H w β' H' w'∧H.next≤H'.next∧(∀g,g<H.next→g≠g2→H'.get g=H.get g)∧H'.get g2=some (.arr { cells:= [vi 7],ty:=45 }):=by
 obtain ⟨id,os,c,hb,hok,hA,hB⟩:=rest87
 refine callsDIn_of_wpSIn fok87.fn hb trivial fun c₀ cs hu=>?_
 apply wpSIn_seq
 apply wpSIn_region
 refine hA _ _ c₀ cs w pv (by simp [g87]) hu ?_
 show c.wpSIn _ _ _ _ _ _ _
 refine wpSIn_of_wpIn rfl ?_
 have hw:=wpC_sound (X:=⟨Tryz.prog,T,g87.plans,15,none⟩) tok mix c hok (hB (upd (upd (rho0 [.pointer (some (ga g2 0 0))]) 4 (.iface 180 (.agg #[vi n]))) 1 (.iface 180 (.agg #[vi n]))) H
  (fun x _ m H'=>x=.normal∧m= []∧H.next≤H'.next∧(∀g,g<H.next→g≠g2→H'.get g=H.get g)∧H'.get g2=some (.arr { cells:= [vi 7],ty:=45 })) n g2 (by simp) l2 h2 (by simp) (fun ρ' H' a b c=>⟨rfl,rfl,a,b,c⟩))
 have hn:g87.fn.ntmps=15:=rfl
 have u:=VR.undef β
 have hA2:ActR β (fa 15 (upd (upd (rho0 [.pointer (some (ga g2 0 0))]) 4 (.iface 180 (.agg #[vi n]))) 1 (.iface 180 (.agg #[vi n]))) []) ((({ tmps:= #[p2]++Array.replicate (g87.fn.ntmps - #[p2].size) undef,defers:= [] }:Act).put (some 4) pv).put (some 1) pv):=by
  have h0:ActR β (fa 15 (rho0 [.pointer (some (ga g2 0 0))]) []) ({ tmps:= #[p2]++Array.replicate (g87.fn.ntmps - #[p2].size) undef,defers:= [] }:Act):=by
   rw [hn,fa_rho0 1 14 _ rfl]
   refine ⟨?_,.nil⟩
   simp only [Array.toList_append,Array.toList_replicate]
   exact (VRs.cons v2 .nil).append (VRs.replicate _ u)
  have h1:=(h0.put (some 4) vp).put (some 1) vp
  rw [fa_put,fa_put] at h1
  exact h1
 refine wpIn_mono (hw β w _ none hR hA2 .none) fun e r w' hp=>?_
 obtain ⟨x,a',β',H',⟨ρ',m,rfl,rfl,rfl,k1,k2,k4⟩,hR',hE,hA',he⟩:=hp
 cases he
 have hd:r.defers= []:=by
  have:=hA'.marks
  generalize r.defers=ds at this
  cases this; rfl
 refine ⟨hd,_,rfl,.tuple #[],?_,rfl,rfl,β',H',hR',hE,k1,k2,k4⟩
 simp [results,g87]
theorem idle87':∃(id:Nat) (os:Array Oper) (c:Code),g87.fn.body=some (.seq (.region id os false) c)∧
  (∀(Q:Exit→Act→List Frame→World→Prop) (a:Act) (c₀ :Frame) (cs:List Frame) (w:World),4<a.tmps.size→c₀.mode=.returning→
   Q .normal ((a.put (some 4) .nilIface).put (some 1) .nilIface) (c₀ ::cs) w→wpOpsSIn Fence.wide 0 Tryz.prog os Q (List.range os.size) a (c₀ ::cs) w)∧
  (∀(Q:Exit→Act→World→Prop) (t:Array Value) (w:World),15=t.size→t[1]?=some .nilIface→(∀a',a'.defers= []→Q .normal a' w)→c.wpIn Fence.wide 0 Tryz.prog Q { tmps:=t,defers:= [] } w):=by
 refine ⟨_,_,_,rfl,?_,?_⟩
 ·intro Q a c₀ cs w h4 hu hq
  simp [wpOpsSIn,go_sem,recoverD,hu,h4]
  exact hq
 ·intro Q t w ht h6 hq
  refine wpIn_seq ?_
  refine wpIn_region ?_
  have h5:5<t.size:=by omega
  have h7:6<t.size:=by omega
  simp [wpOpsIn,go_sem,h6,h5,Oper.uponIn]
  refine wpIn_cond_false ?_ ?_
  ·simp [Act.eval,←ht]
  ·exact wpIn_skip (hq _ rfl)
theorem idle87 {w:World} {p2:Value}:
  CallsDIn Fence.wide 0 Tryz.prog 87 #[p2] .returning w fun e u' w'=>e=.returned (.tuple #[])∧u'=.returning∧w'=w:=by
 obtain ⟨id,os,c,hb,hA,hB⟩:=idle87'
 refine callsDIn_of_wpSIn fok87.fn hb trivial fun c₀ cs hu=>?_
 apply wpSIn_seq
 apply wpSIn_region
 refine hA _ _ c₀ cs w (by simp [g87]) hu ?_
 show c.wpSIn _ _ _ _ _ _ _
 refine wpSIn_of_wpIn rfl ?_
 have hn:g87.fn.ntmps=15:=rfl
 refine hB _ _ w ?_ ?_ fun a' hd=>?_
 ·rw [hn]; simp [Act.put]
 ·rw [hn]; simp [Act.put]
 ·refine ⟨hd,.returning,?_,.tuple #[],?_,rfl,rfl,rfl⟩
  ·cases c₀; simp_all
  ·simp [results,g87]
theorem etry_parts:∃(c0:Code) (i1 i2 i3:Nat) (o1 o2 o3:Array Oper),Tryz.f35.body=some (.seq c0 (.seq (.region i1 o1 false) (.seq (.region i2 o2 false) (.seq (.region i3 o3 false) .ret))))∧codeOk T [] c0=true∧
  (∀(H:GH) (ρ:Rho) (Q:VQ),Q .normal (upd ρ 2 (.pointer (some (ga H.next 0 0)))) [] (H.push (.arr { cells:= [vi 0],ty:=45 }))→wpC ⟨Tryz.prog,T,[],6,none⟩ c0 Q ρ [] H)∧
  (∀(Q:Exit→Act→World→Prop) (t:Array Value) (w:World) (p2:Value),6=t.size→t[2]?=some p2→(∀a',a'.defers= [{ target:=.fn (.func 87) #[p2],args:= #[] }]→a'.tmps.size=6→a'.tmps[0]?=t[0]?→a'.tmps[2]?=some p2→Q .normal a' w)→(Code.region i1 o1 false).wpIn Fence.wide 0 Tryz.prog Q { tmps:=t,defers:= [] } w)∧
  (∀(Q:Exit→Act→World→Prop) (a:Act) (w:World) (f:FuncId) (first cap:Array Value),6=a.tmps.size→a.tmps[0]?=some (.func (.func f) first cap)→Ent Tryz.prog f→
   CallsIn Fence.wide 0 Tryz.prog f (first++cap) w (fun e w'=>match e with
    | .returned _v=>∀a':Act,a'.defers=a.defers→a'.tmps.size=6→a'.tmps[2]?=a.tmps[2]?→Q .normal a' w'
    | .panicked ch=>∀a':Act,a'.defers=a.defers→a'.tmps.size=6→a'.tmps[2]?=a.tmps[2]?→Q (.panic ch) a' w'
    | .outgrown=>LetsOut Q)→(Code.region i2 o2 false).wpIn Fence.wide 0 Tryz.prog Q a w)∧
  (∀(Q:Exit→Act→World→Prop) (a:Act) (w:World) (β:Bm) (H:GH) (g2:Nat) (p2:Value),6=a.tmps.size→a.tmps[2]?=some p2→VR β (.pointer (some (ga g2 0 0))) p2→
   H.get g2=some (.arr { cells:= [vi 0],ty:=45 })→Rel β H w→
   (∀w' β',Rel β' (H.put g2 (.arr { cells:= [vi 0],ty:=45 })) w'→Ext β H w β' (H.put g2 (.arr { cells:= [vi 0],ty:=45 })) w'→Q .normal a w')→
   (Code.region i3 o3 false).wpIn Fence.wide 0 Tryz.prog Q a w):=by
 refine ⟨_,_,_,_,_,_,_,rfl,by kernel_rfl,?_,?_,?_,?_⟩
 ·intro H ρ Q hq
  simp
  exact hq
 ·intro Q t w p2 ht h2 hq
  refine wpIn_region ?_
  have hmf:∀(fn:Fn) (first cap:Array Value) (w:World),(Instr.makeFunc fn first cap).run Tryz.prog w=.ok (.func fn first cap) w:=fun _ _ _ _=>rfl
  have h4:3<t.size:=by omega
  simp [wpOpsIn,go_sem,h2,hmf,Oper.uponIn,h4]
  exact hq _ rfl (by simp; omega) (by simp) (by simp [h2])
 ·intro Q a w f first cap ht h0 hent hc
  refine wpIn_region ?_
  have h5:4<a.tmps.size:=by omega
  simp [wpOpsIn,go_sem,h0,Oper.uponIn,h5]
  refine ⟨trivial,?_⟩
  rw [hent]
  refine ⟨rfl,hc.mono ?_⟩
  intro e w' h
  cases e with
  |returned v=>exact h _ rfl (by simp; omega) (by simp)
  |panicked ch=>exact h _ rfl (by simp; omega) (by simp)
  |outgrown=>exact h
 ·intro Q a w β H g2 p2 ht h2 v2 hg2 hR hq
  refine wpIn_region ?_
  simp only [wpOpsIn,List.size_toArray,List.length_cons,List.length_nil,Nat.zero_add,List.range_succ,List.range_zero,List.nil_append]
  simp only [List.getElem?_toArray,List.getElem?_cons_zero,Region.wanted,if_true,Oper.wpIn]
  refine up_skip (st_skip rfl (by simp; rfl) rfl h2 v2 hg2 hR) fun w1 β1 hR1 hE1=>?_
  exact hq w1 β1 hR1 hE1
def ETryN (H:GH) (R:GO→GH→Prop) (x:GO) (H1:GH):Prop:=
 H.next+1≤H1.next∧H1.get H.next=some box31∧match x with
  | .ret _=>R (.ret (vi 0)) (H1.put H.next box31)
  | .pan v=>∃n,v=.iface 180 (.agg #[vi n])∧∀H2,H1.next≤H2.next→(∀g,g<H1.next→g≠H.next→H2.get g=H1.get g)→R (.ret (vi 7)) H2
theorem res35 {t:Array Value} {p2:Value} (h2:t[2]?=some p2):results Tryz.f35 t=results Tryz.f35 #[undef,undef,p2,undef,undef,undef]:=by
 have hr:Tryz.f35.results= #[.cell 2 45]:=rfl
 simp [results,h2]
theorem res35_ok {t:Array Value} {p2:Value} (h2:t[2]?=some p2) {β:Bm} {H:GH} {w:World} {g2:Nat} {a:Int} (hR:Rel β H w) (v2:VR β (.pointer (some (ga g2 0 0))) p2)
  (k2:H.get g2=some (.arr { cells:= [vi a],ty:=45 })):∃v',(results Tryz.f35 t).run Tryz.prog w=.ok v' w∧VR β (vi a) v':=by
 rw [res35 h2]
 have u:=VR.undef β
 refine results_ok (P:=Tryz.prog) (vs:= [vi a]) tok hR (tm:= [undef,undef,.pointer (some (ga g2 0 0)),undef,undef,undef]) (.cons u (.cons u (.cons v2 (.cons u (.cons u (.cons u .nil)))))) ?_
 have hr:Tryz.f35.results.toList= [.cell 2 45]:=rfl
 rw [hr]
 simp [readResults,readResult,k2]
theorem etry_con {f:FuncId} {first cap:Array Value} {H:GH} {R:GO→GH→Prop} (hf:GCall Tryz.prog f (first.toList++cap.toList) (H.push box31) (ETryN H R)):
  GCall Tryz.prog 35 [.func (.func f) first cap] H R:=by
 have hname:(Tryz.f35.name== "runtime.NumGoroutine")=false:=by kernel_rfl
 have hfn:Tryz.prog.funcs[35]?=some Tryz.f35:=Tryz.func35
 obtain ⟨c0,i1,i2,i3,o1,o2,o3,hb,hok,hA,hB,hC,hD⟩:=etry_parts
 refine ⟨fun xs w=>?_,fun β w args' hR hV=>?_⟩
 ·have h1:Tryz.f35.name≠ "runtime.NumGoroutine":=by simpa using hname
  simp [callFunc,hfn,h1,hb]
 refine callsIn_of_wp_marks hfn hb trivial ?_
 refine wpIn_seq ?_
 obtain ⟨v',rfl,hv⟩:∃v',args'= [v']∧VR β (.func (.func f) first cap) v':=by
  cases hV with
  |cons h t=>cases t; exact ⟨_,rfl,h⟩
 have hn:Tryz.f35.ntmps=6:=rfl
 have h0:ActR β (fa 6 (rho0 [.func (.func f) first cap]) []) ({ tmps:= [v'].toArray++Array.replicate (Tryz.f35.ntmps - [v'].toArray.size) undef,defers:= [] }:Act):=by
  rw [hn,fa_rho0 1 5 _ rfl]
  refine ⟨?_,.nil⟩
  simp only [Array.toList_append,Array.toList_replicate]
  exact (VRs.cons hv .nil).append (VRs.replicate _ (VR.undef β))
 have hw:=wpC_sound (X:=⟨Tryz.prog,T,[],6,none⟩) tok mix c0 hok (hA H (rho0 [.func (.func f) first cap]) (fun x ρ m H'=>x=.normal∧m= []∧H'=H.push box31∧ρ=upd (rho0 [.func (.func f) first cap]) 2 (.pointer (some (ga H.next 0 0)))) ⟨rfl,rfl,rfl,rfl⟩)
 refine wpIn_mono (hw β w _ none hR h0 .none) fun e r w1 hp=>?_
 obtain ⟨x,a',β1,H1,⟨ρ,m,rfl,rfl,rfl,rfl,rfl⟩,hR1,hE1,hA1,he⟩:=hp
 cases he
 have hsz:6=r.tmps.size:=by have:=hA1.tmps.length; simpa [fa] using this
 obtain ⟨f0,q0,vf⟩:=hA1.tmps.get? (i:=0) (v:=.func (.func f) first cap) (by simp [fa])
 obtain ⟨p2,q2,v2⟩:=hA1.tmps.get? (i:=2) (v:=.pointer (some (ga H.next 0 0))) (by simp [fa])
 simp only [Array.getElem?_toList] at q0 q2
 have hd:r.defers= []:=by
  have:=hA1.marks
  generalize r.defers=ds at this
  cases this; rfl
 obtain ⟨rt,rd⟩:=r
 simp only at hd hsz q0 q2
 subst hd
 show Code.wpIn _ _ _ _ _ _ _
 refine wpIn_seq ?_
 refine hB _ rt w1 p2 hsz q2 fun a1 k1 k2 k3 k4=>?_
 show Code.wpIn _ _ _ _ _ _ _
 refine wpIn_seq ?_
 obtain ⟨first',cap',rfl,hargs⟩:∃first' cap',f0=.func (.func f) first' cap'∧VRs β1 (first.toList++cap.toList) (first'.toList++cap'.toList):=by
  cases vf with
  |func hfn s1 x1 s2 x2=>
   cases hfn
   refine ⟨_,_,rfl,VRs.append (.of_getD (by simpa using s1) fun i hi=>?_) (.of_getD (by simpa using s2) fun i hi=>?_)⟩
   ·simpa using x1 i (by simpa using hi)
   ·simpa using x2 i (by simpa using hi)
 have hcall:=hf.2 β1 w1 _ hR1 hargs
 have harr:(first'.toList++cap'.toList).toArray=first'++cap':=by simp
 rw [harr] at hcall
 refine hC _ a1 w1 f first' cap' k2.symm (k3.trans q0) hf.1 (hcall.mono ?_)
 rintro e w2 ⟨x,β2,H2,hK,hR2,hE2,hEnd⟩
 obtain ⟨hK1,hK2,hK4⟩:=hK
 have v2':=v2.mono hE2.le
 have hent:Ent Tryz.prog 87:=fun xs w=>by
  have h1:Tryz.f87.name≠ "runtime.NumGoroutine":=by
   have:(Tryz.f87.name== "runtime.NumGoroutine")=false:=by kernel_rfl
   simpa using this
  obtain ⟨_,_,_,hb6,_⟩:=rest87
  have hb6':Tryz.f87.body=_:=hb6
  simp [callFunc,show Tryz.prog.funcs[87]?=some Tryz.f87 from Tryz.func87,h1,hb6']
 have hE02:=hE1.trans hR hE2
 cases hEnd with
 |ret hv2=>
  intro a3 d1 d2 d3
  show Code.wpIn _ _ _ _ _ _ _
  refine wpIn_seq ?_
  refine hD _ a3 w2 β2 H2 H.next p2 d2.symm (d3.trans k4) v2' hK2 hR2 fun w3 β3 hR3 hE3=>?_
  show Code.wpIn _ _ _ _ _ _ _
  refine wpIn_ret ?_
  show LeavesInM _ _ _ _ _ _ a3.defers _ _
  rw [d1,k1]
  refine ⟨by simp,.inr ⟨fun _=>by simp_all [Fence.wide],_,_,87,#[p2],rfl,?_,fun _ _=>trivial,idle87.mono ?_⟩⟩
  ·have:=hent #[p2] w3
   first|(simp [invoke]; done)|simpa [invoke] using this
  ·rintro e u' w' ⟨rfl,rfl,rfl⟩
   obtain ⟨v3r,hrun,hvr⟩:=res35_ok (t:=a3.tmps) (d3.trans k4) hR3 (v2'.mono hE3.le) (a:=0) (g2:=H.next) (by simp)
   exact ⟨v3r,hrun,_,β3,_,hK4,hR3,hE02.trans hR hE3,.ret hvr⟩
 |pan hv2=>
  intro a3 d1 d2 d3
  show LeavesInM _ _ _ _ _ _ a3.defers _ _
  rw [d1,k1]
  obtain ⟨n,rfl,hK5⟩:=hK4
  refine ⟨by simp,.inr ⟨fun _=>by simp_all [Fence.wide],_,_,87,#[p2],rfl,?_,fun _ _=>trivial,(catch87 hR2 v2' hv2 (by omega) hK2).mono ?_⟩⟩
  ·have:=hent #[p2] w2
   first|(simp [invoke]; done)|simpa [invoke] using this
  ·rintro e u' w' ⟨rfl,rfl,β3,H3,hR3,hE3,m1,m2,m4⟩
   obtain ⟨v3r,hrun,hvr⟩:=res35_ok (t:=a3.tmps) (d3.trans k4) hR3 (v2'.mono hE3.le) (a:=7) (g2:=H.next) m4
   exact ⟨v3r,hrun,_,β3,_,hK5 _ m1 m2,hR3,hE02.trans hR hE3,.ret hvr⟩
end Go.Gm.Tryz
end
section
namespace Go.Gm.Tryz
open Go.Proofs
theorem enter1_con {A:StP→En→Option StP} {K:En→Prop} {I:StP→Prop} (hA:AfterLaw A K I) (dg:Nat) (L:ULoc) (s:Suite) (hs:Short s) (es:List EnL) (v:Value) (H:GH) (hd:DeskIn H dg L s es v) (hu:UndoOk (ksOf es)) (hl:es.length≤1000) (hI:I (st0 s)) (hK:∀e∈standE es,isEntryB e=true∧K e) (st:StP) (hrun:runA A (st0 s) (standE es)=some st)
  (sl:SLoc) (e:En) (he:isEntryB e=true) (hke:K e) (hr:Elems H sl.a 1 encI e.nums) (g2 g3:Nat) (k2:H.get g2=some (.arr { cells:= [.pointer (some (ga dg 0 0))],ty:=48 })) (k3:H.get g3=some (.arr { cells:= [vi e.kind,.slice sl.a e.nums.length sl.fl],ty:=58 })) (_n2:g2<H.next) (n3:g3<H.next):
  GCall Tryz.prog 36 [.pointer (some (ga g2 0 0)),.pointer (some (ga g3 0 0))] H fun x h=>Sub H h∧match A st e with
   |some _=>x=.ret (.tuple #[])
   |none=>∃k,x=.pan (.iface 180 (.agg #[vi k])):=by
 refine gcall_wp tok mix fok36 (F:=g36) (c:=_) rfl (n:=6) rfl (rs:= []) rfl ?_
 simp [k2,k3]
 refine (now_con hA dg L s hs es v H hd hu hl hI hK st hrun).mono ?_
 rintro x H1 ⟨L',mg,rfl,a1,h1,m1,m2,m3,i1⟩
 have j3:=(a1.2 g3 n3).trans k3
 simp (disch:=omega) [j3]
 refine (hA.call L' st mg sl e H1 h1 m1 m2 he hke i1 (hr.mono a1)).mono ?_
 intro x h hx
 have hsub:∀h',SubX mg H1 h'→Sub H h':=fun h' hx=>⟨Nat.le_trans a1.1 hx.1,fun g hg=>(hx.2 g (Nat.lt_of_lt_of_le hg a1.1) (by omega)).trans (a1.2 g hg)⟩
 cases hAe:A st e with
 |none=>
  rw [hAe] at hx
  obtain ⟨⟨k,rfl⟩,hsb⟩:=hx
  simp
  exact ⟨by kernel_rfl,a1.trans hsb⟩
 |some st'=>
  rw [hAe] at hx
  obtain ⟨L2,rfl,hsx,_⟩:=hx
  simp
  exact hsub _ hsx
theorem try_entry {A:StP→En→Option StP} {K:En→Prop} {I:StP→Prop} (hA:AfterLaw A K I) (dg:Nat) (L:ULoc) (s:Suite) (hs:Short s) (es:List EnL) (v:Value) (H:GH) (hd:DeskIn H dg L s es v) (hu:UndoOk (ksOf es)) (hl:es.length≤1000) (hI:I (st0 s)) (hK:∀e∈standE es,isEntryB e=true∧K e) (st:StP) (hrun:runA A (st0 s) (standE es)=some st)
  (sl:SLoc) (e:En) (he:isEntryB e=true) (hke:K e) (hr:Elems H sl.a 1 encI e.nums) (g2 g3:Nat) (k2:H.get g2=some (.arr { cells:= [.pointer (some (ga dg 0 0))],ty:=48 })) (k3:H.get g3=some (.arr { cells:= [vi e.kind,.slice sl.a e.nums.length sl.fl],ty:=58 })) (n2:g2<H.next) (n3:g3<H.next):
  C 35 [.func (.func 36) #[] #[.pointer (some (ga g2 0 0)),.pointer (some (ga g3 0 0))]] H (vi (if (A st e).isSome then 0 else 7)) H:=by
 refine GCall.forget (etry_con (first:= #[]) (cap:= #[.pointer (some (ga g2 0 0)),.pointer (some (ga g3 0 0))]) (R:=fun x h=>x=.ret (vi (if (A st e).isSome then 0 else 7))∧Sub H h) ?_) (anch_closed rfl)
 have hp:Sub H (H.push box31):=(Sub.refl H).push _
 refine (enter1_con hA dg L s hs es v (H.push box31) (hd.mono hp) hu hl hI hK st hrun sl e he hke (hr.mono hp) g2 g3 ((hp.2 _ n2).trans k2) ((hp.2 _ n3).trans k3) (by simp; omega) (by simp; omega)).mono ?_
 rintro x h ⟨hsub,hx⟩
 have hb:h.get H.next=some box31:=(hsub.2 H.next (by simp)).trans (by simp)
 have hn:=hsub.1
 simp at hn
 refine ⟨by omega,hb,?_⟩
 cases hAe:A st e with
 |none=>
  rw [hAe] at hx
  obtain ⟨k,rfl⟩:=hx
  refine ⟨k,rfl,fun H2 hn2 hf=>⟨rfl,?_⟩⟩
  exact ⟨by omega,fun g hg=>(hf g (by omega) (by omega)).trans ((hp.trans hsub).2 g hg)⟩
 |some st'=>
  rw [hAe] at hx
  subst hx
  exact ⟨rfl,(hp.trans hsub).put (Nat.le_refl _) _⟩
end Go.Gm.Tryz
end
section
namespace Go.Gm.Tryz
open Go.Proofs
def enterR (A:StP→En→Option StP) (st:StP) (n:Nat) (e:En):Int:=if isEntryB e=false then 2 else if 24≤n then 3 else if (A st e).isSome then 0 else 7
def FrmD (dg:Nat) (v:Value) (H H':GH):Prop:=H.next≤H'.next∧∀g,g<H.next→g≠dg→blkOf v≠some g→H'.get g=H.get g
theorem neq_ptr (a:Addr):gbin T .neq 48 (.pointer (some a)) (.pointer none)=some (.bool true):=by
 have:gequal T 48 (.pointer (some a)) (.pointer none)=some false:=nrfl rfl
 simp [gbin,this]
theorem there_con (dg:Nat) (L:ULoc) (s:Suite) (v:Value) (H:GH) (hob:H.get dg=some (.arr { cells:=suiteC L s++ [v,.bool true],ty:=95 })):C 32 [.pointer (some (ga dg 0 0))] H (.bool true) H:=by
 simp only [List.cons_append,List.nil_append] at hob
 refine con_wp tok mix fok32 (F:=g32) (c:=_) rfl (n:=11) rfl (rs:= [.tmp 2]) rfl (anch_closed rfl) ?_
 simp [hob,neq_ptr]
theorem enter_con {A:StP→En→Option StP} {K:En→Prop} {I:StP→Prop} (hA:AfterLaw A K I) (dg:Nat) (L:ULoc) (s:Suite) (hs:Short s) (es:List EnL) (v:Value) (H:GH) (hd:DeskIn H dg L s es v) (hu:UndoOk (ksOf es)) (hl:es.length≤24) (hI:I (st0 s)) (hK:∀e∈standE es,isEntryB e=true∧K e) (st:StP) (hrun:runA A (st0 s) (standE es)=some st)
  (sl:SLoc) (e:En) (hke:isEntryB e=true→K e) (h15:e.kind≠15) (hnl:e.nums.length≤1000) (hr:Elems H sl.a 1 encI e.nums):
  GCall Tryz.prog 9 [.pointer (some (ga dg 0 0)),enV sl e] H fun x H'=>x=.ret (vi (enterR A st es.length e))∧FrmD dg v H H'∧∃v' sl',DeskIn H' dg L s (if enterR A st es.length e=0 then es++ [⟨e,sl'⟩] else es) v':=by
 have hob:=hd.obj
 have hdl:=hd.lt
 obtain ⟨va,vf,hva,hE⟩:=hd.ents.elems (fun _=>rfl)
 have hob2:=hob
 rw [hva] at hob2
 simp only [List.cons_append,List.nil_append] at hob2
 refine gcall_wp tok mix fok9 (F:=g9) (c:=_) rfl (n:=49) rfl (rs:= [.tmp 4]) rfl ?_
 simp
 generalize hH1:GH.push (GH.push H _) _=H1
 have hs1:Sub H H1:=by subst hH1; exact ((Sub.refl H).push _).push _
 have k2:H1.get H.next=some (.arr { cells:= [.pointer (some (ga dg 0 0))],ty:=48 }):=by subst hH1; simp (disch:=omega)
 have k3:H1.get (H.next+1)=some (.arr { cells:= [vi e.kind,.slice sl.a e.nums.length sl.fl],ty:=58 }):=by subst hH1; simp
 have n1:H1.next=H.next+2:=by subst hH1; simp
 clear hH1
 have hd1:=hd.mono hs1
 have ho1:=(hs1.2 _ hdl).trans hob2
 have refuse:∀h',Sub H h'→FrmD dg v H h'∧∃(v':Value) (_:SLoc),DeskIn h' dg L s es v':=fun h' hs'=>⟨⟨hs'.1,fun g hg _ _=>hs'.2 g hg⟩,v,(⟨none,0⟩:SLoc),hd.mono hs'⟩
 refine (there_con dg L s v H1 hd1.obj).go ?_
 simp [k3]
 refine (isEntry_con sl e H1 hnl (hr.mono hs1)).go ?_
 cases he:isEntryB e
 ·simp
  have:enterR A st es.length e=2:=by simp [enterR,he]
  rw [this]
  simp
  exact refuse _ hs1
 simp (disch:=omega) [k2,ho1]
 by_cases h24:24≤es.length
 ·have h24':(24:Int)≤es.length:=by omega
  have:enterR A st es.length e=3:=by simp [enterR,he,h24]
  simp [h24',this]
  exact refuse _ hs1
 have h24':¬(24:Int)≤es.length:=by omega
 simp (disch:=omega) [h24',k3,h15]
 refine (try_entry hA dg L s hs es v H1 hd1 hu (by omega) hI hK st hrun sl e he (hke he) (hr.mono hs1) H.next (H.next+1) k2 k3 (by omega) (by omega)).go ?_
 have hR:enterR A st es.length e=if (A st e).isSome then 0 else 7:=by simp [enterR,he,h24]
 rw [hR]
 cases hAe:A st e with
 |none=>
  simp
  exact refuse _ hs1
 |some st'=>
  simp (disch:=omega) [k2,k3,ho1]
  refine (clnI_con e.nums hnl _ _ _ (hr.mono hs1)).mono ?_
  rintro x H2 ⟨s1,rfl,a2,c2,w2⟩
  have n2:=a2.1
  have j2:=(a2.2 H.next (by omega)).trans k2
  have j3:=(a2.2 (H.next+1) (by omega)).trans k3
  have jo:=(a2.2 dg (by omega)).trans ho1
  simp (disch:=omega) [j2,j3,jo]
  have hs2:Sub H H2:=hs1.trans a2
  have w3:OwnL (H2.push (.arr { cells:=encEL ⟨e,s1⟩,ty:=58 })) (dg+1) v 58 2 encEL es:=(hd.ents.sub hs2).push _
  obtain ⟨v',H3,happ,ho3,hn3,hf3,hb3⟩:=w3.app (fun _=>rfl) (fun _=>rfl) (by decide) ⟨e,s1⟩ (by simp; omega)
  simp only [encEL] at happ hf3 hb3 hn3
  simp only [GH.next_push] at hf3 hb3 hn3
  obtain ⟨v'a,v'f,rfl⟩:=ho3.slice
  have hvb:∀g,blkOf v=some g→dg<g∧g<H.next:=fun g hg=>by have:=hd.ents.blk_lt hg; omega
  have c8:32*(1+es.length)≤1000000:=by omega
  have c9:1+es.length≤1000000:=by omega
  have hk:∀g,g<H2.next→blkOf v≠some g→H3.get g=H2.get g:=fun g hg hb=>(hf3 g (by omega) hb).trans (GH.get_push_lt _ _ hg)
  have jo3:=(hk dg (by omega) (fun hc=>by have:=hvb dg hc; omega)).trans jo
  have j23:=(hk H.next (by omega) (fun hc=>by have:=hvb _ hc; omega)).trans j2
  have j33:=(hk (H.next+1) (by omega) (fun hc=>by have:=hvb _ hc; omega)).trans j3
  rw [hva] at happ
  simp (disch:=omega) [happ,c8,c9,j23,jo3]
  generalize hG:GH.put H3 dg _=G
  have g1:∀g,g<H2.next→g≠dg→blkOf v≠some g→G.get g=H2.get g:=fun g h1 h2 h3=>by subst hG; rw [GH.get_put_ne _ _ h2]; exact hk g h1 h3
  have g2:G.get dg=some (.arr { cells:=suiteC L s++ [.slice v'a (es++ [(⟨e,s1⟩:EnL)]).length v'f,.bool true],ty:=95 }):=by subst hG; simp
  have g3:G.next=H3.next:=by subst hG; simp
  have g4:OwnL G (dg+1) (.slice v'a (es++ [(⟨e,s1⟩:EnL)]).length v'f) 58 2 encEL (es++ [⟨e,s1⟩]):=by
   subst hG
   refine ho3.frame (by simp) fun g hg=>GH.get_put_ne _ _ ?_
   have:=ho3.blk_lt hg
   omega
  clear hG
  have hD:FrmD dg v H G:=⟨by omega,fun g h1 h2 h3=>(g1 g (by omega) h2 h3).trans (hs2.2 g h1)⟩
  have hF:Frm (fun g=>g=dg∨blkOf v=some g) (fun g=>g=dg∨blkOf (.slice v'a (es++ [(⟨e,s1⟩:EnL)]).length v'f)=some g) H G:=⟨hD.1,fun g h1 h2=>hD.2 g h1 (fun hc=>h2 (.inl hc)) (fun hc=>h2 (.inr hc)),fun g h1=>by
    rcases h1 with h1|h1
    ·exact .inl (.inl h1)
    ·rcases hb3 g h1 with h2|h2
     ·exact .inl (.inr h2)
     ·exact .inr (by omega),fun g h1=>by
    rcases h1 with h1|h1
    ·omega
    ·have:=g4.blk_lt h1; omega⟩
  refine ⟨hD,_,s1,⟨g2,by omega,hd.suite.frm hF (fun g hg hc=>?_),hd.sblk,g4,?_⟩⟩
  ·have:=hd.sblk g hg
   rcases hc with hc|hc
   ·omega
   ·have:=hvb g hc; omega
  ·intro x hx
   rcases List.mem_append.1 hx with hx|hx
   ·obtain ⟨q1,q2⟩:=hd.nums x hx
    refine ⟨q1.frm hF (fun b hb hc=>?_),fun b hb=>⟨(q2 b hb).1,fun hc=>?_⟩⟩
    ·rcases hc with hc|hc
     ·exact (q2 b hb).1 hc
     ·exact (q2 b hb).2 hc
    ·rcases hb3 _ hc with h2|h2
     ·exact (q2 b hb).2 h2
     ·have:=(q1.ok b hb).1; omega
   ·simp only [List.mem_singleton] at hx
    subst hx
    refine ⟨?_,fun b hb=>?_⟩
    ·refine ⟨c2.1.len,fun b hb=>?_,c2.1.nil⟩
     obtain ⟨q1,q2⟩:=c2.1.ok b hb
     have q3:=c2.2 b hb
     refine ⟨by omega,?_⟩
     rw [←q2]
     simp only [GH.read]
     rw [g1 _ q1 (by omega) (fun hc=>by have:=hvb _ hc; omega)]
    ·have q3:=c2.2 b hb
     have q1:=(c2.1.ok b hb).1
     refine ⟨by omega,fun hc=>?_⟩
     rcases hb3 b.block hc with h2|h2
     ·have:=hvb b.block h2; omega
     ·omega
end Go.Gm.Tryz
end
section
namespace Go.Gm.Tryz
open Go.Proofs
theorem encPt_c (x:Pt):∀c∈encPt x,closedV c=true:=by intro c hc; simp at hc; rcases hc with rfl|rfl|rfl<;>rfl
theorem encCh_c (x:Ch):∀c∈encCh x,closedV c=true:=by intro c hc; simp at hc; rcases hc with rfl|rfl|rfl|rfl<;>rfl
theorem encI_c (x:Int):∀c∈encI x,closedV c=true:=by intro c hc; simp at hc; subst hc; rfl
theorem encNd_c (x:Nd):∀c∈encNd x,closedV c=true:=by intro c hc; simp at hc; rcases hc with rfl|rfl<;>rfl
theorem encOu_c (x:Ou):∀c∈encOu x,closedV c=true:=by intro c hc; simp at hc; rcases hc with rfl|rfl|rfl<;>rfl
theorem flat_c {α:Type} {enc:α→List Value} (h:∀x,∀c∈enc x,closedV c=true) (l:List α):∀c∈l.flatMap enc,closedV c=true:=fun c hc=>by
 obtain ⟨x,_,hx⟩:=List.mem_flatMap.1 hc
 exact h x c hx
theorem csl_of {α:Type} {H:GH} {a:Option Addr} {sz fl:Nat} {enc:α→List Value} {l:List α} (h:Elems H a sz enc l) (hc:∀x,∀c∈enc x,closedV c=true) (hl:0<l.length) (hf:fl≠0) {β:Bm} {r:Value} (hv:VR β (.slice a l.length fl) r):∃b,CSl β H (l.flatMap enc) l.length fl b r:=by
 obtain ⟨b,rfl,hb,_⟩:=h.at 0 hl
 obtain ⟨_,hrd⟩:=h.ok b rfl
 have hlen:=flatMap_len h.len l
 exact ⟨b,flat_c hc l,hv,hf,hl,by rw [hlen]; exact hrd⟩
theorem isTup_ok {a b:Int} {r:FR} (h:isTup a b r=true):∃H,r=.val (.tuple #[vi a,vi b]) H:=by
 unfold isTup at h
 split at h
 ·simp only [Bool.and_eq_true,decide_eq_true_eq] at h
  obtain ⟨rfl,rfl⟩:=h
  exact ⟨_,rfl⟩
 ·cases h
theorem isInt_ok {a:Int} {r:FR} (h:isInt a r=true):∃H,r=.val (vi a) H:=by
 unfold isInt at h
 split at h
 ·simp only [decide_eq_true_eq] at h
  subst h
  exact ⟨_,rfl⟩
 ·cases h
theorem canLoops (fx:List (Nat×Obj)) (rows:List (List Value×TypeId)):Loops (env0 fx) (canH fx rows):=by
 refine ⟨fun g lr tm hg=>?_,by unfold canH; rw [canG_fx]; rfl⟩
 rw [canH_get] at hg
 cases hr:rows[g]? with
 |none=>rw [hr] at hg; cases hg
 |some r=>rw [hr] at hg; simp at hg
theorem fedX_con (H:GH) (L:ULoc) (b:Book) (hi:SuiteIn H L { suiteX with book:=b }) (hf:FlX L):C 78 [netV L.net netX,.slice L.opn.a 2 L.opn.fl] H (.tuple #[vi 3,vi 0]) H:=by
 refine GCall.canon (rows:=rowsN) (args0:= [.agg #[.slice (some (ga 0 0 0)) 4 3,.slice (some (ga 1 0 0)) 5 4],.slice (some (ga 2 0 0)) 2 1]) (NoPl.tuple rfl) H ?_ ?_
 ·intro β w args' hR hA
  cases hA with
  |cons x1 h2=>
  cases h2 with
  |cons x2 h3=>
  cases h3
  obtain ⟨ag,rfl,hag⟩:=VR.agg_iff.1 x1
  generalize hagl:ag.toList=al at hag
  cases hag with
  |cons y1 h4=>
  cases h4 with
  |cons y2 h5=>
  cases h5
  obtain ⟨b1,c1⟩:=csl_of (l:=netX.pts) hi.net.pts encPt_c (by decide) (by rw [hf.pts]; decide) y1
  obtain ⟨b2,c2⟩:=csl_of (l:=netX.chs) hi.net.chs encCh_c (by decide) (by rw [hf.chs]; decide) y2
  obtain ⟨b3,c3⟩:=csl_of (l:= [0,3]) hi.opn encI_c (by decide) (by rw [hf.opn]; decide) x2
  obtain ⟨L1,l1,v1,r1⟩:=c1.loc hR
  obtain ⟨L2,l2,v2,r2⟩:=c2.loc hR
  obtain ⟨L3,l3,v3,r3⟩:=c3.loc hR
  have q1:=v1 [L1,L2,L3] 0 rfl
  have q2:=v2 [L1,L2,L3] 1 rfl
  have q3:=v3 [L1,L2,L3] 2 rfl
  rw [hf.pts] at q1
  rw [hf.chs] at q2
  rw [hf.opn] at q3
  exact ⟨[L1,L2,L3],.cons c1.closed l1 r1 (.cons c2.closed l2 r2 (.cons c3.closed l3 r3 .nil)),.cons (VR.agg_iff.2 ⟨ag,rfl,by rw [hagl]; exact .cons q1 (.cons q2 .nil)⟩) (.cons q3 .nil)⟩
 ·obtain ⟨Hc,hres⟩:=isTup_ok (kFed H.fx)
  exact ((frun_ok (env0_ok (fx:=H.fx)) 3000).callV 78 _ _ _ _ (canLoops _ _) hres).1.mono fun x h hx=>hx.1
theorem leakX_con (H:GH) (L:ULoc) (b:Book) (hi:SuiteIn H L { suiteX with book:=b }) (hf:FlX L):C 76 [lineV L.line suiteX.line] H (vi 0) H:=by
 refine GCall.canon (rows:= [([10,0,20].flatMap encI,3)]) (args0:= [.agg #[.slice (some (ga 0 0 0)) 3 1,vi 5,vi 15,vi 1,.slice none 0 0]]) (NoPl.of rfl) H ?_ ?_
 ·intro β w args' hR hA
  cases hA with
  |cons x1 h2=>
  cases h2
  obtain ⟨ag,rfl,hag⟩:=VR.agg_iff.1 x1
  generalize hagl:ag.toList=al at hag
  cases hag with
  |cons y1 h4=>
  cases h4 with
  |cons y2 h4=>
  cases h4 with
  |cons y3 h4=>
  cases h4 with
  |cons y4 h4=>
  cases h4 with
  |cons y5 h4=>
  cases h4
  obtain ⟨b1,c1⟩:=csl_of (l:= [10,0,20]) hi.line.gives encI_c (by decide) (by rw [hf.gives]; decide) y1
  obtain ⟨L1,l1,v1,r1⟩:=c1.loc hR
  have q1:=v1 [L1] 0 rfl
  rw [hf.gives] at q1
  rw [hf.counts] at y5
  exact ⟨[L1],.cons c1.closed l1 r1 .nil,.cons (VR.agg_iff.2 ⟨ag,rfl,by rw [hagl]; exact .cons q1 (.cons (closed_to y2 rfl) (.cons (closed_to y3 rfl) (.cons (closed_to y4 rfl) (.cons (closed_to y5 rfl) .nil))))⟩) .nil⟩
 ·obtain ⟨Hc,hres⟩:=isInt_ok (kLeak H.fx)
  exact ((frun_ok (env0_ok (fx:=H.fx)) 3000).callV 76 _ _ _ _ (canLoops _ _) hres).1.mono fun x h hx=>hx.1
theorem treeX_con (H:GH) (L:ULoc) (b:Book) (hi:SuiteIn H L { suiteX with book:=b }) (hf:FlX L):C 77 [treeV L.tree suiteX.tree] H (vi 0) H:=by
 refine GCall.canon (rows:= [(treeX.nodes.flatMap encNd,147),(treeX.outs.flatMap encOu,149)]) (args0:= [.agg #[vi 10,.slice (some (ga 0 0 0)) 2 2,.slice (some (ga 1 0 0)) 4 3]]) (NoPl.of rfl) H ?_ ?_
 ·intro β w args' hR hA
  cases hA with
  |cons x1 h2=>
  cases h2
  obtain ⟨ag,rfl,hag⟩:=VR.agg_iff.1 x1
  generalize hagl:ag.toList=al at hag
  cases hag with
  |cons y1 h4=>
  cases h4 with
  |cons y2 h4=>
  cases h4 with
  |cons y3 h4=>
  cases h4
  obtain ⟨b1,c1⟩:=csl_of (l:=treeX.nodes) hi.tree.nodes encNd_c (by decide) (by rw [hf.nodes]; decide) y2
  obtain ⟨b2,c2⟩:=csl_of (l:=treeX.outs) hi.tree.outs encOu_c (by decide) (by rw [hf.outs]; decide) y3
  obtain ⟨L1,l1,v1,r1⟩:=c1.loc hR
  obtain ⟨L2,l2,v2,r2⟩:=c2.loc hR
  have q1:=v1 [L1,L2] 0 rfl
  have q2:=v2 [L1,L2] 1 rfl
  rw [hf.nodes] at q1
  rw [hf.outs] at q2
  exact ⟨[L1,L2],.cons c1.closed l1 r1 (.cons c2.closed l2 r2 .nil),.cons (VR.agg_iff.2 ⟨ag,rfl,by rw [hagl]; exact .cons (closed_to y1 rfl) (.cons q1 (.cons q2 .nil))⟩) .nil⟩
 ·obtain ⟨Hc,hres⟩:=isInt_ok (kTree H.fx)
  exact ((frun_ok (env0_ok (fx:=H.fx)) 3000).callV 77 _ _ _ _ (canLoops _ _) hres).1.mono fun x h hx=>hx.1
end Go.Gm.Tryz
end
section
namespace Go.Gm.Tryz
open Go.Proofs
theorem isSuite_con (H:GH) (L:ULoc) (b:Book) (hi:SuiteIn H L { suiteX with book:=b }) (hf:FlX L) (hv:b.events= []):C 30 [suiteV L { suiteX with book:=b }] H (.bool (isBookB b)) H:=by
 refine con_wp tok mix fok30 (F:=g30) (c:=_) rfl (n:=49) rfl (rs:= [.tmp 2]) rfl (anch_closed rfl) ?_
 simp
 generalize hH1:GH.push H _=H1
 have hs1:Sub H H1:=by subst hH1; exact (Sub.refl H).push _
 have k1:H1.get H.next=some (.arr { cells:=suiteC L { suiteX with book:=b },ty:=43 }):=by subst hH1; simp
 clear hH1
 have hi1:=hi.mono hs1
 refine (Check_con (l:=L.book) (b:=b) hi1.book).go ?_
 cases hB:isBookB b
 ·simp
  exact hs1
 simp only [] at k1
 simp (disch:=omega) [k1]
 refine (leakX_con H1 L b hi1 hf).go ?_
 simp (disch:=omega) [k1]
 refine (treeX_con H1 L b hi1 hf).go ?_
 simp (disch:=omega) [k1]
 refine (fedX_con H1 L b hi1 hf).go ?_
 have hv0:b.events.length=0:=by rw [hv]; rfl
 have hc0:suiteX.line.counts.length=0:=rfl
 simp (disch:=omega) [k1,hv0,hc0]
 exact hs1
theorem Open_con (H:GH) (L:ULoc) (b:Book) (hi:SuiteIn H L { suiteX with book:=b }) (hf:FlX L) (hv:b.events= []) (hB:isBookB b=true) (hs:Short { suiteX with book:=b }):
  GCall Tryz.prog 8 [suiteV L { suiteX with book:=b }] H fun x H'=>∃dg L',x=.ret (.tuple #[.pointer (some (ga dg 0 0)),vi 0])∧DeskIn H' dg L' { suiteX with book:=b } [] (.slice none 0 0)∧Sub H H'∧H.next≤dg:=by
 refine gcall_wp tok mix fok8 (F:=g8) (c:=_) rfl (n:=11) rfl (rs:= [.tmp 2,.tmp 3]) rfl ?_
 simp
 generalize hH1:GH.push H _=H1
 have hs1:Sub H H1:=by subst hH1; exact (Sub.refl H).push _
 have k1:H1.get H.next=some (.arr { cells:=suiteC L { suiteX with book:=b },ty:=43 }):=by subst hH1; simp
 clear hH1
 refine (isSuite_con H1 L b (hi.mono hs1) hf hv).go ?_
 simp only [] at k1
 simp (disch:=omega) [k1,hB]
 refine (copied_con L { suiteX with book:=b } hs H1 (hi.mono hs1)).mono ?_
 rintro x H2 ⟨L',rfl,a2,h2,l2,v2,c2⟩
 simp
 refine ⟨H2.next,rfl,⟨L',⟨by simp,by simp,h2.mono ((Sub.refl H2).push _),fun g hg=>h2.blk_lt hg,OwnL.nil,fun x hx=>by cases hx⟩⟩,(hs1.trans a2).push _,by have:=hs1.1; have:=a2.1; omega⟩
end Go.Gm.Tryz
end
section
namespace Go.Gm.Tryz
open Go.Proofs
def topicsL:List Value:= [.string ⟨#[100,97,121]⟩,vi 0,.func (.func 102) #[] #[],.string ⟨#[119,97,116,101,114]⟩,vi 0,.func (.func 103) #[] #[],.string ⟨#[103,114,97,110,116,115]⟩,vi 0,.func (.func 104) #[] #[],.string ⟨#[119,97,105,116,105,110,103]⟩,vi 0,.func (.func 105) #[] #[],.string ⟨#[104,111,108,100,115]⟩,vi 2,.func (.func 106) #[] #[],.string ⟨#[103,97,116,101,115]⟩,vi 0,.func (.func 107) #[] #[],.string ⟨#[109,111,118,101,115]⟩,vi 1,.func (.func 108) #[] #[],.string ⟨#[115,105,110,99,101]⟩,vi 1,.func (.func 109) #[] #[],.string ⟨#[111,108,100,101,115,116]⟩,vi 0,.func (.func 110) #[] #[],.string ⟨#[116,97,112,112,101,100]⟩,vi 0,.func (.func 111) #[] #[],.string ⟨#[110,101,120,116]⟩,vi 1,.func (.func 112) #[] #[],.string ⟨#[115,104,97,114,101,115]⟩,vi 0,.func (.func 113) #[] #[],.string ⟨#[119,104,121]⟩,vi 1,.func (.func 114) #[] #[],.string ⟨#[115,116,97,110,100,115]⟩,vi 0,.func (.func 115) #[] #[]]
theorem topics_con (H:GH):GCall Tryz.prog 43 [] H fun x H'=>x=.ret (.agg ⟨topicsL⟩)∧Sub H H':=by
 refine gcall_wp tok mix fok43 (F:=g43) (c:=_) rfl (n:=16) rfl (rs:= [.cell 0 111]) rfl ?_
 simp
 rfl
def waterQ (st:StP):Int×Int×Int:=waterR st.suite.book (outS st.suite.book st.day true)
theorem qwater_con (L:ULoc) (st:StP) (mg:Nat) (d n:Value) (H:GH) (hb:BookIn H L.book st.suite.book):GCall Tryz.prog 103 [.agg (suiteC L st.suite++ [vi st.day,.map (some mg),d,n]).toArray] H fun x H'=>∃s:SLoc,x=.ret (.tuple #[.slice s.a 2 s.fl,vi (waterQ st).2.2])∧Sub H H'∧SlIn H' H.next s 1 encI [(waterQ st).1,(waterQ st).2.1]:=by
 refine gcall_wp tok mix fok103 (F:=g103) (c:=_) rfl (n:=23) rfl (rs:= [.tmp 2,.tmp 3]) rfl ?_
 simp
 generalize hH1:GH.push H _=H1
 have hs1:Sub H H1:=by subst hH1; exact (Sub.refl H).push _
 clear hH1
 refine (Water_con (l:=L.book) (b:=st.suite.book) ⟨hb.t.mono hs1,hb.owners.mono hs1,hb.events.mono hs1⟩ st.day).go ?_
 simp
 exact ⟨⟨some (ga H1.next 0 0),1⟩,⟨⟨rfl,rfl⟩,rfl⟩,hs1.push _,slIn_arr (ty:=3) (szs:= []) (by simp) (by simp) (by simp [waterQ]) hs1.1⟩
theorem askWater_con {A:StP→En→Option StP} {K:En→Prop} {I:StP→Prop} (hA:AfterLaw A K I) (dg:Nat) (L:ULoc) (s:Suite) (hs:Short s) (es:List EnL) (v:Value) (H:GH) (hd:DeskIn H dg L s es v) (hu:UndoOk (ksOf es)) (hl:es.length≤1000) (hI:I (st0 s)) (hK:∀e∈standE es,isEntryB e=true∧K e) (st:StP) (hrun:runA A (st0 s) (standE es)=some st) (h0:(waterQ st).2.2=0):
  GCall Tryz.prog 12 [.pointer (some (ga dg 0 0)),.agg #[vi 2,.slice none 0 0]] H fun x H'=>∃s:SLoc,x=.ret (.tuple #[.slice s.a 2 s.fl,vi 0])∧Sub H H'∧Elems H' s.a 1 encI [(waterQ st).1,(waterQ st).2.1]:=by
 refine gcall_wp tok mix fok12 (F:=g12) (c:=_) rfl (n:=44) rfl (rs:= [.tmp 4,.tmp 5]) rfl ?_
 simp
 have hs1:∀o,Sub H (H.push o):=fun o=>(Sub.refl H).push o
 refine (there_con dg L s v _ (hd.mono (hs1 _)).obj).go ?_
 simp
 refine (cin_con _ _ _ _).go ?_
 simp [inI]
 generalize hH1:GH.push (GH.push H _) _=H1
 have hs2:Sub H H1:=by subst hH1; exact ((Sub.refl H).push _).push _
 have k0:H1.get H.next=some (.arr { cells:= [vi 2,.slice none 0 0],ty:=66 }):=by subst hH1; simp (disch:=omega)
 have k1:H1.get (H.next+1)=some (.arr { cells:= [.string ⟨#[]⟩,vi 0,.nilFunc],ty:=110 }):=by subst hH1; simp
 have n1:H1.next=H.next+2:=by subst hH1; simp
 clear hH1
 refine (topics_con H1).mono ?_
 rintro x H2 ⟨rfl,a2⟩
 have n2:=a2.1
 have j0:=(a2.2 H.next (by omega)).trans k0
 have j1:=(a2.2 (H.next+1) (by omega)).trans k1
 simp (disch:=omega) [topicsL,j0,j1,wrap64]
 have hs3:Sub H H2:=hs2.trans a2
 have hs4:∀o,Sub H (H2.put (H.next+1) o):=fun o=>hs3.put (by omega) o
 refine (now_con hA dg L s hs es v _ (hd.mono (hs4 _)) hu hl hI hK st hrun).mono ?_
 rintro x H3 ⟨L',mg,rfl,a3,si,mi,m1,m2,hI'⟩
 have q0:=(a3.2 H.next (by simp; omega))
 rw [GH.get_put_ne _ _ (by omega),j0] at q0
 have q1:=(a3.2 (H.next+1) (by simp; omega))
 rw [GH.get_put_same] at q1
 have n3:=a3.1
 simp at n3
 simp (disch:=omega) [q0,q1]
 refine (clnI_con [] (by simp) none 0 _ ⟨fun _=>rfl,(fun b hb=>by cases hb),fun _=>rfl⟩).mono ?_
 rintro x H4 ⟨sc,rfl,a4,_,_⟩
 have q2:=(a4.2 (H.next+1) (by omega)).trans q1
 have q3:=(a4.2 H.next (by omega)).trans q0
 simp (disch:=omega) [q2]
 refine (qwater_con L' st mg _ _ _ ((si.mono a4).book)).mono ?_
 rintro x H5 ⟨w,rfl,a5,w5⟩
 simp (disch:=omega) [h0]
 exact ⟨w,⟨rfl,rfl⟩,(hs4 _).trans (a3.trans (a4.trans a5)),w5.1⟩
end Go.Gm.Tryz
end
section
namespace Go.Gm.Tryz
open Go.Proofs
def useG (b:Book) (g:GSt):Int:=if g.is=3 then 0 else waterI b.tbl g.system g.units
def usedI (b:Book) (s:Stand):Int:=(s.grants.map (useG b)).sum
structure Wg (b:Book) (s:Stand):Prop where
 gr:∀g∈s.grants,isSystemI g.system=true∧1≤g.units∧g.units≤360
 wa:∀w∈s.waits,isSystemI (evAt b w).system=true∧1≤(evAt b w).units∧(evAt b w).units≤360
section
variable {b:Book} {s:Stand}
end
end Go.Gm.Tryz
end
section
namespace Go.Gm.Tryz
open Go.Proofs
theorem upFrom_ok {b:Book} {d:Int}:∀ {es:List Ev} {n:Nat} {s t:Stand},runS b es n s=.inr t→∃u,upFrom b d es n s=.inr u:=by
 intro es
 induction es with
 |nil=>intro n s t _; exact ⟨_,rfl⟩
 |cons e es ih=>
  intro n s t h
  simp only [runS] at h
  simp only [upFrom]
  split
  ·exact ⟨_,rfl⟩
  ·split at h
   ·rename_i hg; rw [if_pos hg]; exact ih h
   ·cases h
theorem wrong_none {b:Book} (hB:isBookB b=true) (hw:wrongO b=none):∃t,runS b b.events 0 (start b)=.inr t:=by
 rw [wrong_run hB] at hw
 cases h:runS b b.events 0 (start b) with
 |inl k=>rw [h] at hw; cases hw
 |inr t=>exact ⟨t,rfl⟩
theorem right_up {b:Book} (hB:isBookB b=true) (hw:wrongO b=none) (d:Int):∃s,upS b d=.inr s:=by
 obtain ⟨t,ht⟩:=wrong_none hB hw
 exact upFrom_ok ht
theorem out_right {b:Book} (hB:isBookB b=true) (hw:wrongO b=none) {d:Int} {s:Stand} (hs:upS b d=.inr s) (hd:isDayI d=true) {ok:Bool} (hk:ok=true):outS b d ok=.ok s:=by
 subst hk
 unfold outS rightOk rightS
 obtain ⟨t,ht⟩:=right_up hB hw 36500
 rw [hB,hd,ht,hs]
 rfl
end Go.Gm.Tryz
end
section
namespace Go.Gm.Tryz
open Go.Proofs
def en20 (x:Ev):En:=⟨x.kind+1,if x.kind=2 then [x.estate,x.system,x.units] else if x.kind=3 then [x.person,x.other] else if x.kind=4 then [x.estate,x.person] else if x.kind=5 then [x.grant,x.units,x.person] else if x.kind=6 then [x.estate,x.other] else if x.kind=7 then [x.grant,x.person] else [x.person,x.system,x.units]⟩
theorem ev_kind {b:Book} {x:Ev} (h:isEventB b x=true):1≤x.kind∧x.kind≤8∧0≤x.day∧x.day≤36500:=by
 unfold isEventB at h
 rw [Bool.and_eq_true] at h
 obtain ⟨h1,h2⟩:=h
 have hd:0≤x.day∧x.day≤36500:=by simp only [isDayI,inI,decide_eq_true_eq] at h1; omega
 refine ⟨?_,?_,hd.1,hd.2⟩
 ·repeat' split at h2
  all_goals first|omega|cases h2
 ·repeat' split at h2
  all_goals first|omega|cases h2
theorem en20_ok {b:Book} (hb:1≤b.persons∧b.persons≤8) {x:Ev} (h:isEventB b x=true):isEntryB (en20 x)=true∧2≤(en20 x).kind∧(en20 x).kind≤9∧evE (en20 x) x.day=x:=by
 obtain ⟨k1,k2,d1,d2⟩:=ev_kind h
 have hw:IntKind.i64.wrap (b.persons - 1)=b.persons - 1:=wrap64 _ (by omega) (by omega)
 rcases x with ⟨kind,day,person,other,estate,grant,system,units⟩
 simp only at k1 k2 d1 d2
 unfold isEventB at h
 rw [Bool.and_eq_true] at h
 obtain ⟨_,h2⟩:=h
 have hk:kind=1∨kind=2∨kind=3∨kind=4∨kind=5∨kind=6∨kind=7∨kind=8:=by omega
 rcases hk with rfl|rfl|rfl|rfl|rfl|rfl|rfl|rfl
 all_goals
  simp [isPersonI,isSystemI,isUnitsI,isEstateI,isGrantI,emptyB,inI,hw] at h2
  refine ⟨?_,by simp [en20],by simp [en20],?_⟩
  ·simp [isEntryB,en20,manyE,formsL,inI]
   omega
  ·simp [evE,en20,nthI,h2]
def afterT (st:StP) (e:En):Option StP:=if e.kind=1 then waitG st (nthI e.nums 0) else evG st (evE e st.day)
def KT (e:En):Prop:=e.kind≤9
def IT (st:StP):Prop:=0≤st.day∧st.day≤36500∧st.suite.book.events.length≤12
theorem lawT:AfterLaw afterT KT IT where
 call:=by
  intro L st mg sl e H hi hm hmg he hk hI hr
  obtain ⟨k1,k2⟩:=kind_of he
  by_cases h1:e.kind=1
  ·obtain ⟨m,hm',hlen,_⟩:=manyE_of he
   rcases e with ⟨k,l⟩
   simp only at h1 hm' hlen hr
   subst h1
   have:m=1:=by simp [manyE,formsL] at hm'; omega
   subst this
   obtain ⟨a,rfl⟩:=List.length_eq_one_iff.1 hlen
   have:=after_wait L st mg sl a H hi hm hmg he hr ⟨hI.1,hI.2.1⟩
   simpa [afterT,nthI] using this
  ·have:=after_event L st mg sl e H hi hm hmg he (by omega) hk hr (by have:=hI.2.2; omega)
   simpa [afterT,h1] using this
 keep:=by
  intro st e st' hI he hk h
  unfold afterT at h
  obtain ⟨i1,i2,i3⟩:=hI
  split at h
  ·unfold waitG at h
   split at h
   ·rename_i hc
    cases h
    exact ⟨by show 0≤_+_; omega,hc.2,i3⟩
   ·cases h
  ·unfold evG at h
   simp only at h
   split at h
   ·rename_i hc
    cases h
    refine ⟨i1,i2,?_⟩
    have hB:isBookB { st.suite.book with events:=st.suite.book.events++ [evE e st.day] }=true:=by
     unfold wrongR at hc
     split at hc
     ·assumption
     ·cases hc
    exact (book_ok hB).events
   ·cases h
def entsL:Int→List Ev→List En
 |_,[]=> []
 |day,x::xs=>(if day<x.day then [⟨1,[x.day - day]⟩] else [])++en20 x::entsL x.day xs
def lastDay:Int→List Ev→Int
 |day,[]=>day
 |_,x::xs=>lastDay x.day xs
theorem lastDay_app (day:Int) (xs:List Ev) (x:Ev):lastDay day (xs++ [x])=x.day:=by
 induction xs generalizing day with
 |nil=>rfl
 |cons y ys ih=>exact ih _
theorem take_snoc {α:Type} {l:List α} {k:Nat} (h:k<l.length):l.take (k+1)=l.take k++ [l[k]]:=by
 rw [List.take_add_one,List.getElem?_eq_getElem h]; rfl
def bTo (b:Book) (k:Nat):Book:= { b with events:=b.events.take k }
def suT (b:Book) (k:Nat):Suite:= { suiteX with book:=bTo b k }
def dayTo (b:Book) (k:Nat):Int:=lastDay 0 (b.events.take k)
def stT (b:Book) (k:Nat):StP:=⟨suT b k,dayTo b k,fun _=>0⟩
theorem dayTo_succ {b:Book} {k:Nat} (h:k<b.events.length):dayTo b (k+1)=b.events[k].day:=by
 unfold dayTo; rw [take_snoc h,lastDay_app]
theorem ev_at {b:Book} (hB:isBookB b=true) {k:Nat} (h:k<b.events.length):isEventB b b.events[k]=true:=(book_ok hB).ev k h
theorem dayTo_le {b:Book} (hB:isBookB b=true) {k:Nat} (h:k<b.events.length):dayTo b k≤b.events[k].day:=by
 cases k with
 |zero=>
  have:=(ev_kind (ev_at hB h)).2.2.1
  simpa [dayTo,lastDay] using this
 |succ k=>
  rw [dayTo_succ (by omega)]
  have h1:=hB
  simp only [isBookB,Bool.and_eq_true,List.all_eq_true,List.mem_range,badAt,Bool.not_eq_true',Bool.or_eq_false_iff,Bool.and_eq_false_iff,decide_eq_false_iff_not] at h1
  have h2:=(h1.1.2 (k+1) h).2
  rcases h2 with h2|h2
  ·exact absurd (by omega) h2
  ·simp only [Nat.add_sub_cancel] at h2
   rw [getD_at h,getD_at (show k<b.events.length by omega)] at h2
   omega
theorem dayTo_bd {b:Book} (hB:isBookB b=true) {k:Nat} (h:k≤b.events.length):0≤dayTo b k∧dayTo b k≤36500:=by
 cases k with
 |zero=>simp [dayTo,lastDay]
 |succ k=>
  rw [dayTo_succ (by omega)]
  exact (ev_kind (ev_at hB (by omega))).2.2
theorem evG_at {b:Book} (hB:isBookB b=true) {k:Nat} (h:k<b.events.length) (st:StP) (hst:st.suite=suT b k):evG st b.events[k]=(if wrongO (bTo b (k+1))=none then some { st with suite:=suT b (k+1) } else none):=by
 have e1:({ st.suite.book with events:=st.suite.book.events++ [b.events[k]] }:Book)=bTo b (k+1):=by
  rw [hst]
  show ({ b with events:=b.events.take k++ [b.events[k]] }:Book)= { b with events:=b.events.take (k+1) }
  rw [take_snoc h]
 have e2:({ st.suite with book:=bTo b (k+1) }:Suite)=suT b (k+1):=by rw [hst]; rfl
 have hw:((wrongR (bTo b (k+1))).2=5)↔wrongO (bTo b (k+1))=none:=by
  unfold wrongR
  rw [if_pos (show isBookB (bTo b (k+1))=true from until_book hB (k+1))]
  cases wrongO (bTo b (k+1))<;>simp
 unfold evG
 simp only [e1,e2]
 by_cases hn:wrongO (bTo b (k+1))=none
 ·rw [if_pos (hw.2 hn),if_pos hn]
 ·rw [if_neg (fun hc=>hn (hw.1 hc)),if_neg hn]
theorem after_wait_at {b:Book} (hB:isBookB b=true) {k:Nat} (h:k<b.events.length) (hlt:dayTo b k<b.events[k].day):afterT (stT b k) ⟨1,[b.events[k].day - dayTo b k]⟩=some { stT b k with day:=b.events[k].day }:=by
 have:=(ev_kind (ev_at hB h)).2.2.2
 show waitG _ _=_
 unfold waitG
 have e:(stT b k).day+(b.events[k].day - dayTo b k)=b.events[k].day:=by show dayTo b k+_=_; omega
 simp only [nthI,List.getD_cons_zero,e]
 rw [if_pos ⟨by omega,this⟩]
theorem after_ev_at {b:Book} (hB:isBookB b=true) {k:Nat} (h:k<b.events.length) (st:StP) (hst:st.suite=suT b k) (hd:st.day=b.events[k].day):afterT st (en20 b.events[k])=(if wrongO (bTo b (k+1))=none then some { st with suite:=suT b (k+1) } else none):=by
 obtain ⟨_,h2,h3,h4⟩:=en20_ok (book_ok hB).persons (ev_at hB h)
 unfold afterT
 rw [if_neg (by omega),hd,h4]
 rw [evG_at hB h st hst,hd]
end Go.Gm.Tryz
end
section
namespace Go.Gm.Tryz
open Go.Proofs
theorem kind_wrap {k:Int} (h1:1≤k) (h2:k≤8):IntKind.i64.wrap (IntKind.i64.wrap (k - 1)+2)=k+1:=by
 rw [wrap64 (k - 1) (by omega) (by omega),wrap64 _ (by omega) (by omega)]; omega
theorem entry20_con (x:Ev) (h1:1≤x.kind) (h2:x.kind≤8) (H:GH):GCall Tryz.prog 10 [evV x] H fun r H'=>∃sl,r=.ret (enV sl (en20 x))∧Sub H H'∧Elems H' sl.a 1 encI (en20 x).nums:=by
 have hw:=kind_wrap h1 h2
 rcases x with ⟨kind,day,person,other,estate,grant,system,units⟩
 simp only at h1 h2 hw
 refine gcall_wp tok mix fok10 (F:=g10) (c:=_) rfl (n:=72) rfl (rs:= [.cell 2 58]) rfl ?_
 have hk:kind=1∨kind=2∨kind=3∨kind=4∨kind=5∨kind=6∨kind=7∨kind=8:=by omega
 rcases hk with rfl|rfl|rfl|rfl|rfl|rfl|rfl|rfl
 all_goals
  simp
  exact ⟨⟨some (ga (H.next+3) 0 0),1⟩,⟨hw,rfl,rfl,rfl⟩,((((((Sub.refl H).push _).push _).push _).put (by omega) _).push _|>.put (by omega) _).put (by omega) _,elems_arr (ty:=3) (szs:= []) (by simp) (by simp) (by simp (disch:=omega) [en20]<;>rfl)⟩
theorem standTo_id {ks:List Int} (h:∀k∈ks,k≠15):∀n,n≤ks.length→standTo ks n=List.range n
 |0,_=>rfl
 |n+1,hn=>by
  have:ks.getD n 0≠15:=by
   rw [List.getD_eq_getElem?_getD,List.getElem?_eq_getElem (by omega)]
   exact h _ (List.getElem_mem _)
  rw [standTo,standTo_id h n (by omega),stepI,if_neg this,List.range_succ]
theorem standE_id {es:List EnL} (h:∀x∈es,x.en.kind≠15):standE es=es.map (·.en):=by
 unfold standE standI
 rw [standTo_id (by simpa [ksOf] using h) _ (Nat.le_refl _)]
 apply List.ext_getElem
 ·simp [ksOf]
 ·intro i h1 h2
  simp [enAt]
  rw [List.getElem?_eq_getElem (by simpa using h2)]; rfl
theorem undo_id {es:List EnL} (h:∀x∈es,x.en.kind≠15):UndoOk (ksOf es):=by
 intro n hn h15
 rw [List.getD_eq_getElem?_getD,List.getElem?_eq_getElem hn] at h15
 have:(ksOf es)[n]∈ksOf es:=List.getElem_mem _
 simp only [ksOf,List.mem_map] at this
 obtain ⟨x,hx,he⟩:=this
 exact absurd (he.trans h15) (h x hx)
end Go.Gm.Tryz
end
section
namespace Go.Gm
structure OS where
 v:Value
 ty:TypeId
 sz:Nat
 ls:List (List Value)
def OS.In (H:GH) (N:Nat) (o:OS):Prop:=OwnL H N o.v o.ty o.sz id o.ls
structure RecIn (H:GH) (N sg:Nat) (ty:TypeId) (pre:List Value) (os:List OS):Prop where
 g:H.get sg=some (.arr { cells:=pre++os.map (·.v),ty:=ty })
 sgl:N≤sg∧sg<H.next
 own:∀o∈os,o.In H N∧o.ty≠ty
 dis:∀(i j:Nat) (hi:i<os.length) (hj:j<os.length),i≠j→∀k,blkOf os[i].v=some k→blkOf os[j].v≠some k
def RecOwn (sg:Nat) (os:List OS) (g:Nat):Prop:=g=sg∨∃o∈os,blkOf o.v=some g
section
variable {H H1:GH} {N sg:Nat} {ty:TypeId} {pre:List Value} {os:List OS}
end
end Go.Gm
end
section
namespace Go.Gm.Tryz
open Go.Proofs
end Go.Gm.Tryz
end
section
namespace Go.Gm
theorem wpB_mid {X:Cx} {a:Code} {K:Rho→List Nat→GH→Prop} {Q:VQ} {ρ:Rho} {m:List Nat} {H:GH} {v:Bool} (P:Rho→List Nat→GH→Prop) (h1:v=true→wpC X a (fun x ρ m H=>x=.normal∧P ρ m H) ρ m H) (h2:v=false→P ρ m H) (hk:∀ρ m H,P ρ m H→K ρ m H):wpB (.bool v) (wpC X a (seqQ K Q)) K ρ m H:=
 wpB_bool (fun h=>wp_mid P (h1 h) hk) fun h=>hk _ _ _ (h2 h)
end Go.Gm
namespace Go.Gm.Tryz
open Go.Proofs
def Ints (H:GH) (M:Nat) (a:Option Addr) (l:List Int):Prop:=Elems H a 1 encI l∧∀c,a=some c→M≤c.block∧∃A,H.get c.block=some (.arr A)∧A.ty=3
@[simp] def encPL (p:SLoc×List Int):List Value:= [.slice p.1.a p.2.length p.1.fl]
def ListsR (H:GH) (N M:Nat) (v:Value) (ss:List (List Int)):Prop:=∃ls:List (SLoc×List Int),OwnL H N v 25 1 encPL ls∧ls.map Prod.snd=ss∧∀p∈ls,Ints H M p.1.a p.2
def partSets (m k:Nat) (now:List Int) (from_ i:Nat):List (List Int):=(List.range' from_ (i - from_)).flatMap fun (n:Nat)=>setsFrom m k (now++ [((n:Nat):Int)])
end Go.Gm.Tryz
end
section
namespace Go.Gm.Tryz
open Go.Proofs
structure Noz where
 row:Int
 height:Int
 deriving DecidableEq,Inhabited
structure Bas where
 tbl:Tbl
 nozs:List Noz
 weir:Int
 spill:Int
 deriving DecidableEq,Inhabited
structure KLoc where
 t:TLoc
 nz:SLoc
@[simp] def encNoz (n:Noz):List Value:= [vi n.row,vi n.height]
@[simp,reducible] def nozV (n:Noz):Value:=.agg #[vi n.row,vi n.height]
@[simp,reducible] def basC (l:KLoc) (b:Bas):List Value:= [.slice l.t.rows.a b.tbl.rows.length l.t.rows.fl,vi b.tbl.draw,.slice l.nz.a b.nozs.length l.nz.fl,vi b.weir,vi b.spill]
@[simp,reducible] def basV (l:KLoc) (b:Bas):Value:=.agg (basC l b).toArray
@[simp,reducible] def filC (l:KLoc) (b:Bas) (g:Value):List Value:= [.slice l.t.rows.a b.tbl.rows.length l.t.rows.fl,vi b.tbl.draw,.slice l.nz.a b.nozs.length l.nz.fl,vi b.weir,vi b.spill,g]
@[simp,reducible] def filV (l:KLoc) (b:Bas) (g:Value):Value:=.agg (filC l b g).toArray
structure BasIn (H:GH) (l:KLoc) (b:Bas):Prop where
 t:TblIn H l.t b.tbl
 nz:Elems H l.nz.a 2 encNoz b.nozs
def isHeightI (n:Int):Bool:=inI n 0 40
theorem csum_con (l:List Int) (hl:partial_ok l) (a:Option Addr) (fl:Nat) (H:GH) (hr:Elems H a 1 encI l):C 123 [.slice a l.length fl] H (vi l.sum) H:=by
 have hlen:=hl.1
 refine con_wp tok mix fok123 (F:=g123) (c:=_) rfl (n:=17) rfl (rs:= [.tmp 2]) rfl (anch_closed rfl) ?_
 simp
 refine wp_up tok mix (by kernel_rfl) l.length (fun i ρ m H'=>ρ 6=.slice a l.length fl∧ρ 7=vi l.length∧ρ 8=vi i∧ρ 3=vi (l.take i).sum∧m= []∧H'=H) (i0:=0) (by omega) (by simp) ?_
 rintro i ρ m H' hi ⟨e6,e7,e8,e3,rfl,rfl⟩
 simp [e7,e8]
 refine wpB_dec (fun hlt=>?_) (fun hge=>?_)
 ·obtain ⟨b,rfl,hb,hrd⟩:=hr.at i hlt
  have:=sum_take l hl i hi
  have hx:=hl.2 _ (List.getElem_mem hlt)
  have e:(l.take (i+1)).sum=(l.take i).sum+l[i]:=by rw [List.take_succ_eq_append_getElem hlt,List.sum_append]; simp
  simp (disch:=omega) [e6,e7,e8,e3,hlt,hrd,wrap64,e]
 ·have:i=l.length:=by omega
  subst this
  simp [e3]
def outI (b:Bas) (xs:List Int) (h:Int):Int:=xs.sum+b.spill*max 0 (h - b.weir)
structure BasOk (b:Bas):Prop where
 w0:0≤b.weir
 w1:b.weir≤40
 s0:0≤b.spill
 s1:b.spill≤100
theorem spill_bd {b:Bas} (hb:BasOk b) {h:Int} (h1:h≤40):0≤b.spill*max 0 (h - b.weir)∧b.spill*max 0 (h - b.weir)≤4000:=by
 have:=hb.s0; have:=hb.s1; have:=hb.w0
 have m0:0≤max 0 (h - b.weir):=by omega
 have m1:max 0 (h - b.weir)≤40:=by omega
 refine ⟨Int.mul_nonneg (by omega) m0,?_⟩
 calc b.spill*max 0 (h - b.weir)≤100*max 0 (h - b.weir):=Int.mul_le_mul_of_nonneg_right (by omega) m0
  _≤4000:=by omega
section
variable {l:KLoc} {b:Bas} {ga:Option Addr} {gn gf:Nat} {H:GH}
theorem nozzles_con (h:Nat) (a:Addr) (hrd:ga=some a) (hlt:h<gn) {ra:Option Addr} {rf:Nat} {xs:List Int} (hx:partial_ok xs) (hab:a.block<H.next) (hr:H.read (ea a h 1 0) 1=some [.slice ra xs.length rf]) (hE:Elems H ra 1 encI xs):
  C 164 [filV l b (.slice ga gn gf),vi h] H (vi xs.sum) H:=by
 subst hrd
 refine con_wp tok mix fok164 (F:=g164) (c:=_) rfl (n:=11) rfl (rs:= [.tmp 4]) rfl (anch_closed rfl) ?_
 have hlt':(h:Int)<gn:=by omega
 simp (disch:=omega) [hr]
 refine (csum_con xs hx ra rf _ (hE.push _)).go ?_
 simp
theorem weir_con (hb:BasOk b) (h:Int) (h0:0≤h) (h1:h≤40) (g:Value) (_hg:one g=true):C 165 [filV l b g,vi h] H (vi (b.spill*max 0 (h - b.weir))) H:=by
 refine con_wp tok mix fok165 (F:=g165) (c:=_) rfl (n:=15) rfl (rs:= [.tmp 4]) rfl (anch_closed rfl) ?_
 have:=spill_bd hb h1
 have:=hb.s0; have:=hb.s1; have:=hb.w0; have:=hb.w1
 have e:(if h - b.weir>0 then h - b.weir else 0)=max 0 (h - b.weir):=by omega
 simp (disch:=omega) [wrap64]
 simp only [gt_iff_lt,Int.sub_pos] at e
 rw [e]
 simp (disch:=omega) [wrap64]
 exact Sub.push (.refl H) _
theorem out_con (hb:BasOk b) (h:Nat) (h1:h≤40) (a:Addr) (hrd:ga=some a) (hlt:h<gn) {ra:Option Addr} {rf:Nat} {xs:List Int} (hx:partial_ok xs) (hab:a.block<H.next) (hr:H.read (ea a h 1 0) 1=some [.slice ra xs.length rf]) (hE:Elems H ra 1 encI xs):
  C 122 [filV l b (.slice ga gn gf),vi h] H (vi (outI b xs h)) H:=by
 subst hrd
 refine con_wp tok mix fok122 (F:=g122) (c:=_) rfl (n:=25) rfl (rs:= [.tmp 4]) rfl (anch_closed rfl) ?_
 simp (disch:=omega)
 generalize hH1:GH.put _ _ _=H1
 have hs1:Sub H H1:=by subst hH1; exact ((Sub.push (.refl H) _).push _).put (by omega) _
 clear hH1
 have hr1:H1.read (ea a h 1 0) 1=some [.slice ra xs.length rf]:=by
  rw [←hr]; simp only [GH.read,ea_block]; rw [hs1.2 _ hab]
 have hab1:a.block<H1.next:=Nat.lt_of_lt_of_le hab hs1.1
 refine wp_up tok mix (by kernel_rfl) 2 (fun i ρ m H'=>ρ 1=vi h∧ρ 14=.agg #[.func (.func 164) #[filV l b (.slice (some a) gn gf)] #[],.func (.func 165) #[filV l b (.slice (some a) gn gf)] #[]]∧ρ 15=vi i∧ρ 6=vi (if i=0 then 0 else if i=1 then xs.sum else outI b xs h)∧m= []∧H'=H1) (i0:=0) (by omega) (by simp) ?_
 rintro i ρ m H' hi ⟨e1,e14,e15,e6,rfl,rfl⟩
 have hsp:=spill_bd hb (h:=h) (by omega)
 have hsm:=sum_take xs hx xs.length (Nat.le_refl _)
 rw [List.take_length] at hsm
 have hxl:=hx.1
 simp (disch:=omega) [e15]
 refine wpB_dec (fun hlt2=>?_) (fun hge=>?_)
 ·obtain rfl|rfl:i=0∨i=1:=by omega
  ·simp (disch:=omega) [e14,e15,e6,e1]
   refine (nozzles_con (l:=l) (b:=b) h a rfl hlt hx hab1 hr1 (hE.mono hs1)).go ?_
   simp (disch:=omega) [e14,e15,e1,wrap64]
  ·simp (disch:=omega) [e14,e15,e6,e1]
   refine (weir_con (l:=l) hb h (by omega) (by omega) _ rfl).go ?_
   simp (disch:=omega) [e14,e15,e1,wrap64,outI]
 ·have:i=2:=by omega
  subst this
  simp [e6]
  exact hs1
end
end Go.Gm.Tryz
end
section
namespace Go.Gm.Tryz
open Go.Proofs
def lvl (f:Nat→Int) (cups:Int):Nat→Nat→Nat→Nat
 |0,_,out=>out
 |k+1,h,out=>if cups<f h then out else lvl f cups k (h+1) h
abbrev Pss:=List (SLoc×List Int)
def outAt (b:Bas) (ps:Pss) (h:Nat):Int:=outI b (ps.getD h (⟨none,0⟩,[])).2 h
def levelI (b:Bas) (ps:Pss) (cups:Int):Nat:=lvl (outAt b ps) cups ps.length 0 0
structure GivesIn (H:GH) (a:Option Addr) (ps:Pss):Prop where
 e:Elems H a 1 encPL ps
 i:∀p∈ps,Elems H p.1.a 1 encI p.2
 k:∀p∈ps,partial_ok p.2
 n:ps.length≤41
theorem GivesIn.mono {H H':GH} {a:Option Addr} {ps:Pss} (h:GivesIn H a ps) (hs:Sub H H'):GivesIn H' a ps:=⟨h.e.mono hs,fun p hp=>(h.i p hp).mono hs,h.k,h.n⟩
theorem gout_con {l:KLoc} {b:Bas} (hb:BasOk b) {ps:Pss} {ga:Option Addr} {gf:Nat} {H:GH} (hG:GivesIn H ga ps) (h:Nat) (hlt:h<ps.length):C 122 [filV l b (.slice ga ps.length gf),vi h] H (vi (outAt b ps h)) H:=by
 obtain ⟨a,e,hab,hrd⟩:=hG.e.at h hlt
 have h41:=hG.n
 have hm:=List.getElem_mem hlt
 have hr:=hrd 0 1 (by decide)
 simp only [encPL,List.drop_zero,List.take_succ_cons,List.take_zero] at hr
 unfold outAt
 rw [getD_at hlt]
 exact out_con hb h (by omega) a e hlt (hG.k _ hm) hab hr (hG.i _ hm)
theorem level_con {l:KLoc} {b:Bas} (hb:BasOk b) {ps:Pss} {ga:Option Addr} {gf:Nat} {H:GH} (hG:GivesIn H ga ps) (cups:Int):C 121 [filV l b (.slice ga ps.length gf),vi cups] H (vi (levelI b ps cups)) H:=by
 refine con_wp tok mix fok121 (F:=g121) (c:=_) rfl (n:=21) rfl (rs:= [.tmp 4]) rfl (anch_closed rfl) ?_
 have h41:=hG.n
 simp (disch:=omega)
 generalize hH1:GH.push _ _=H1
 have hs1:Sub H H1:=by subst hH1; exact Sub.push (.refl H) _
 have hg1:H1.get H.next=some (.arr { cells:=filC l b (.slice ga ps.length gf),ty:=125 }):=by subst hH1; simp
 clear hH1
 have hG1:=hG.mono hs1
 refine wp_up tok mix (by kernel_rfl) ps.length (fun i ρ m H'=>ρ 1=vi cups∧ρ 2=.pointer (some (Go.Gm.ga H.next 0 0))∧ρ 9=vi ps.length∧ρ 10=vi i∧m= []∧H'=H1∧∃out:Nat,ρ 5=vi out∧lvl (outAt b ps) cups (ps.length - i) i out=levelI b ps cups) (i0:=0) (by omega) (by simp; exact ⟨0,by simp,rfl⟩) ?_
 rintro i ρ m H' hi ⟨e1,e2,e9,e10,rfl,rfl,out,e5,hl⟩
 simp (disch:=omega) [e10,e9]
 refine wpB_dec (fun hlt2=>?_) (fun hge=>?_)
 ·simp (disch:=omega) [e2,e10,hg1]
  refine (gout_con hb hG1 i hlt2).go ?_
  rw [show ps.length - i=(ps.length - (i+1))+1 by omega] at hl
  simp (disch:=omega) [e1]
  refine wpB_dec (fun hc=>?_) (fun hc=>?_)
  ·simp only [lvl,if_pos hc] at hl
   simp [e5,hl]
   exact hs1
  ·simp only [lvl,if_neg hc] at hl
   simp (disch:=omega) [e1,e2,e9,e10,wrap64]
   exact ⟨by omega,i,rfl,hl⟩
 ·have:i=ps.length:=by omega
  subst this
  rw [Nat.sub_self] at hl
  simp only [lvl] at hl
  simp [e5,hl]
  exact hs1
end Go.Gm.Tryz
end
section
namespace Go.Gm.Tryz
open Go.Proofs
noncomputable section
def kInts:List Value→Option (List Int)
 | []=>some []
 | .int .i64 n::vs=>match kInts vs with|some l=>some (n::l)|none=>none
 |_=>none
theorem kInts_ok:∀ {vs:List Value} {l:List Int},kInts vs=some l→vs=l.flatMap encI:=by
 intro vs
 induction vs with
 |nil=>intro l h; simp [kInts] at h; subst h; rfl
 |cons v vs ih=>
  intro l h
  unfold kInts at h
  split at h
  ·rename_i heq; cases heq
  ·rename_i n vs' heq
   cases heq
   split at h
   ·rename_i l' hl
    cases h
    rw [ih hl]; rfl
   ·cases h
  ·cases h
def kRow (H:GH):Value→Option (SLoc×List Int)
 | .slice (some b) k fl=>match H.read b k with
  |some cs=>match kInts cs with
   |some l=>if b.block<H.next∧l.length=k then some (⟨some b,fl⟩,l) else none
   |none=>none
  |none=>none
 |_=>none
theorem kRow_ok {H:GH} {v:Value} {p:SLoc×List Int} (h:kRow H v=some p): [v]=encPL p∧Elems H p.1.a 1 encI p.2:=by
 unfold kRow at h
 split at h
 ·rename_i b k fl
  split at h
  ·rename_i cs hcs
   split at h
   ·rename_i l hl
    split at h
    ·rename_i hc
     cases h
     refine ⟨by simp [hc.2],fun _=>rfl,fun c hcc=>?_,fun hcc=>by cases hcc⟩
     cases hcc
     refine ⟨hc.1,?_⟩
     rw [Nat.mul_one,hc.2,hcs,kInts_ok hl]
    ·cases h
   ·cases h
  ·cases h
 ·cases h
def kRows (H:GH):List Value→Option Pss
 | []=>some []
 |v::vs=>match kRow H v,kRows H vs with|some p,some ps=>some (p::ps)|_,_=>none
theorem kRows_ok {H:GH}:∀ {vs:List Value} {ps:Pss},kRows H vs=some ps→vs=ps.flatMap encPL∧∀p∈ps,Elems H p.1.a 1 encI p.2:=by
 intro vs
 induction vs with
 |nil=>intro ps h; simp [kRows] at h; subst h; exact ⟨rfl,fun p hp=>by simp at hp⟩
 |cons v vs ih=>
  intro ps h
  unfold kRows at h
  split at h
  ·rename_i p ps' h1 h2
   cases h
   obtain ⟨e1,e2⟩:=ih h2
   obtain ⟨k1,k2⟩:=kRow_ok h1
   refine ⟨?_,fun q hq=>?_⟩
   ·rw [List.flatMap_cons,←e1,←k1]; rfl
   ·rcases List.mem_cons.1 hq with rfl|hq
    ·exact k2
    ·exact e2 q hq
  ·cases h
def okRows (ps:Pss):Bool:=ps.all fun p=>decide (p.2.length≤1000)&&p.2.all fun x=>decide (0≤x)&&decide (x≤1000000)
theorem okRows_ok {ps:Pss} (h:okRows ps=true):∀p∈ps,partial_ok p.2:=by
 intro p hp
 have:=List.all_eq_true.1 h p hp
 simp only [Bool.and_eq_true,decide_eq_true_eq,List.all_eq_true] at this
 exact this
def oLevel2 (H:GH) (cups w s:Int) (n:Nat):Option Pss→FR
 |some ps=>if ps.length=n∧n≤41∧okRows ps=true∧0≤w∧w≤40∧0≤s∧s≤100 then .val (.int .i64 (levelI ⟨⟨[],0⟩,[],w,s⟩ ps cups)) H else .bad
 |none=>.bad
def oLevel1 (cups:Int) (H:GH):List Value→FR
 | [.slice _ _ _,.int .i64 _,.slice _ _ _,.int .i64 w,.int .i64 s,.slice (some a) n _]=>if a.block<H.next then (match H.read a n with
  |some cs=>oLevel2 H cups w s n (kRows H cs)
  |none=>.bad) else .bad
 |_=>.bad
def oLevel:FRec→List Value→GH→FR
 |_,[.agg cs,.int .i64 cups],H=>oLevel1 cups H cs.toList
 |_,_,_=>.bad
theorem oLevel_ok {rec:FRec} {args:List Value} {H:GH} {res:FR} (h:oLevel rec args H=res):res=.bad∨∃v,res=.val v H∧C 121 args H v H:=by
 unfold oLevel at h
 split at h
 case h_2=>exact .inl h.symm
 rename_i cs cups
 obtain ⟨cl⟩:=cs
 show _∨_
 unfold oLevel1 at h
 split at h
 case h_2=>exact .inl h.symm
 rename_i a0 n0 f0 d a2 n2 f2 w s a n f hcl
 subst hcl
 split at h
 case isFalse=>exact .inl h.symm
 rename_i hab
 split at h
 case h_2=>exact .inl h.symm
 rename_i cs hcs
 unfold oLevel2 at h
 split at h
 case h_2=>exact .inl h.symm
 rename_i ps hps
 split at h
 case isFalse=>exact .inl h.symm
 rename_i hc
 obtain ⟨hn,h41,hk,w0,w1,s0,s1⟩:=hc
 subst hn
 obtain ⟨e1,e2⟩:=kRows_ok hps
 refine .inr ⟨_,h.symm,?_⟩
 have:=level_con (l:=⟨⟨⟨a0,f0⟩⟩,⟨a2,f2⟩⟩) (b:=⟨⟨List.replicate n0 default,d⟩,List.replicate n2 default,w,s⟩) ⟨w0,w1,s0,s1⟩ (ps:=ps) (ga:=some a) (gf:=f) (H:=H)
  ⟨⟨fun _=>rfl,fun c hcc=>by cases hcc; exact ⟨hab,by rw [Nat.mul_one,hcs,e1]⟩,fun hcc=>by cases hcc⟩,e2,okRows_ok hk,h41⟩ cups
 have hk:∀ {x y:Nat} {d1:Int},C 121 [filV ⟨⟨⟨a0,f0⟩⟩,⟨a2,f2⟩⟩ ⟨⟨List.replicate n0 default,d1⟩,List.replicate n2 default,w,s⟩ (.slice (some a) x f),vi cups] H (vi y) H→C 121 [.agg #[.slice a0 n0 f0,vi d1,.slice a2 n2 f2,vi w,vi s,.slice (some a) x f],vi cups] H (vi y) H:=by
  intro x y d1 h
  have e0:(List.replicate n0 (default:Row)).length=n0:=List.length_replicate
  have e2:(List.replicate n2 (default:Noz)).length=n2:=List.length_replicate
  rw [←e0,←e2]
  exact h
 exact hk this
def env (fx:List (Nat×Obj)):FEnv:=⟨T,F,Tr.nil.set 121 oLevel,fx⟩
theorem env_ok {fx:List (Nat×Obj)}:EnvOk Tryz.prog (env fx) where
 tab:=tok
 mix:=mix
 fn:=fnF
 orc:=by
  intro f o ho rec rk args H hL
  unfold env at ho
  simp only at ho
  by_cases h1:f=121
  ·subst h1
   rw [Tr.get_set_same] at ho
   cases ho
   have key:∀res:FR,oLevel rec args H=res→(∀v H',res=.val v H'→GCall Tryz.prog 121 args H (fun x h=>x=.ret v∧h=H')∧Loops (env fx) H')∧(∀v H',res=.pan v H'→GCall Tryz.prog 121 args H (fun x h=>x=.pan v∧h=H')∧Loops (env fx) H'):=by
    intro res hres
    rcases oLevel_ok hres with rfl|⟨v,rfl,hc⟩
    ·exact ⟨fun _ _ h=>(by cases h),fun _ _ h=>(by cases h)⟩
    ·refine ⟨fun v' H' h=>?_,fun _ _ h=>(by cases h)⟩
     cases h
     exact ⟨hc,hL⟩
   exact key _ rfl
  ·rw [Tr.get_set_ne _ _ h1,Tr.get_nil] at ho
   cases ho
end
end Go.Gm.Tryz
end
section
namespace Go.Gm.Tryz
open Go.Proofs
noncomputable section
def isT:FR→Bool
 | .val (.bool true) _=>true
 |_=>false
theorem k20 (fx:List (Nat×Obj)):isT (frun (env fx) 3000 (.call 5 []) (GH.emp fx))=true:=by kernel_rfl
theorem isT_ok {r:FR} (h:isT r=true):∃H,r=.val (.bool true) H:=by
 unfold isT at h
 split at h
 ·exact ⟨_,rfl⟩
 ·cases h
theorem known20_con (H:GH):C 5 [] H (.bool true) H:=by
 refine GCall.closed rfl rfl H ?_
 obtain ⟨Hc,hres⟩:=isT_ok (k20 H.fx)
 exact ((frun_ok env_ok 3000).callV 5 [] (GH.emp H.fx) _ _ ⟨fun g lr tm hg=>(by simp [GH.get,GH.emp] at hg),rfl⟩ hres).1.mono fun x h hx=>hx.1
end
end Go.Gm.Tryz
end
section
namespace Go.Gm.Tryz
open Go.Proofs
theorem _root_.Go.Gm.Elems.pre {α : Type} {H : GH} {b : Addr} {sz : Nat} {enc : α → List Value} {l : List α} (e : Elems H (some b) sz enc l) (n : Nat) (hn : n ≤ l.length) : Elems H (some b) sz enc (l.take n) := by
  refine ⟨e.len, fun c hc => ?_, fun hc => by cases hc⟩
  cases hc
  obtain ⟨h1, h2⟩ := e.ok b rfl
  refine ⟨h1, ?_⟩
  have hl : (l.take n).length = n := by rw [List.length_take]; omega
  have h3 := read_part h2 (k := 0) (m := n * sz) (by rw [Nat.zero_add]; exact Nat.mul_le_mul_right _ hn)
  rw [hl]
  have h4 : (l.flatMap enc).take (n * sz) = (l.take n).flatMap enc := by
    have hx : l.flatMap enc = (l.take n).flatMap enc ++ (l.drop n).flatMap enc := by rw [← List.flatMap_append, List.take_append_drop]
    rw [hx, List.take_left' (by rw [flatMap_len e.len, hl])]
  simp only [Nat.add_zero, List.drop_zero, h4] at h3
  exact h3
theorem sub_far {H0 H H':GH} {dg:Nat} {v:Value} (h:Sub H0 H) (hf:FrmD dg v H H') (h0:H0.next≤dg) (hv:∀g,blkOf v=some g→dg<g):Sub H0 H':=
 ⟨Nat.le_trans h.1 hf.1,fun g hg=>by rw [hf.2 g (Nat.lt_of_lt_of_le hg h.1) (by omega) (fun hc=>by have:=hv g hc; omega)]; exact h.2 g hg⟩
theorem desk_blk {H:GH} {dg:Nat} {L:ULoc} {s:Suite} {es:List EnL} {v:Value} (hd:DeskIn H dg L s es v):∀g,blkOf v=some g→dg<g:=by
 intro g hg
 have:=(hd.ents.blk_lt hg).1
 omega
theorem water_ok {b:Book} (hB:isBookB b=true) (hw:wrongO b=none) {d:Int} (h0:0≤d) (h1:d≤36500):(waterR b (outS b d true)).2.2=0:=by
 obtain ⟨s,hs⟩:=right_up hB hw d
 rw [out_right hB hw hs (by simp [isDayI,inI]; omega) rfl]
 rfl
theorem wrong_at {b:Book} (hB:isBookB b=true):∃(n0 c:Int) (N:Nat),wrongR b=(n0,c)∧N≤b.events.length∧(∀k,k≤N→wrongO (bTo b k)=none)∧(N<b.events.length→wrongO (bTo b (N+1))≠none)∧((c=0∧n0=N∧N<b.events.length)∨(c=5∧N=b.events.length)):=by
 have hp:∀k,k≤b.events.length→wrongO (bTo b k)=match wrongO b with|some n=>if (k:Int)≤n then none else some n|none=>none:=fun k hk=>first_plain hB hk
 rw [wrongR_ok hB]
 cases hw:wrongO b with
 |none=>exact ⟨0,5,b.events.length,rfl,Nat.le_refl _,fun k hk=>by rw [hp k hk,hw],fun h=>absurd h (by omega),.inr ⟨rfl,rfl⟩⟩
 |some n=>
  have h0:=wrongO_nonneg hw
  have hl:n<b.events.length:=by
   rw [wrong_run hB] at hw
   cases hr:runS b b.events 0 (start b) with
   |inr t=>rw [hr] at hw; cases hw
   |inl k=>rw [hr] at hw; cases hw; have:=(runS_inl hr).2; omega
  refine ⟨n,0,n.toNat,rfl,by omega,fun k hk=>?_,fun h=>?_,.inl ⟨rfl,by omega,by omega⟩⟩
  ·rw [hp k (by omega),hw]
   show (if (k:Int)≤n then none else some n)=none
   rw [if_pos (by omega)]
  ·rw [hp _ (by omega),hw]
   show (if ((n.toNat+1:Nat):Int)≤n then none else some n)≠none
   rw [if_neg (by omega)]
   simp
structure InvT (b:Book) (dg:Nat) (L:ULoc) (st:StP) (n:Nat) (H':GH) (es:List EnL) (v:Value):Prop where
 desk:DeskIn H' dg L (suT b 0) es v
 all:∀x∈es,isEntryB x.en=true∧x.en.kind≤9
 many:es.length≤n
 run:runA afterT (st0 (suT b 0)) (es.map (·.en))=some st
theorem InvT.sub {b:Book} {dg:Nat} {L:ULoc} {st:StP} {n:Nat} {H H':GH} {es:List EnL} {v:Value} (h:InvT b dg L st n H es v) (hs:Sub H H'):InvT b dg L st n H' es v:=⟨h.desk.mono hs,h.all,h.many,h.run⟩
theorem short_T {b:Book} (hB:isBookB b=true) (h3:b.tbl.rows.length≤1000) (k:Nat):Short (suT b k):=by
 have h1:=(book_ok hB).events
 have h2:=(book_ok hB).owners
 refine ⟨?_,?_,?_,(show suiteX.net.pts.length≤1000 by decide),(show suiteX.net.chs.length≤1000 by decide),(show suiteX.opn.length≤1000 by decide),(show suiteX.line.gives.length≤1000 by decide),(show suiteX.line.counts.length≤1000 by decide),(show suiteX.tree.nodes.length≤1000 by decide),(show suiteX.tree.outs.length≤1000 by decide)⟩
 ·show b.tbl.rows.length≤1000; omega
 ·show b.owners.length≤1000; omega
 ·show (b.events.take k).length≤1000
  rw [List.length_take]; omega
theorem enterT {b:Book} (hB:isBookB b=true) (h3:b.tbl.rows.length≤1000) {dg:Nat} {L:ULoc} {st:StP} {n:Nat} {H:GH} {es:List EnL} {v:Value} (h:InvT b dg L st n H es v) (hn:n<24) (sl:SLoc) (e:En) (he:isEntryB e=true) (hk:e.kind≤9) (hr:Elems H sl.a 1 encI e.nums) (hl:e.nums.length≤1000):
  GCall Tryz.prog 9 [.pointer (some (ga dg 0 0)),enV sl e] H fun x H'=>x=.ret (vi (if (afterT st e).isSome then 0 else 7))∧FrmD dg v H H'∧∃es' v',InvT b dg L ((afterT st e).getD st) (n+1) H' es' v':=by
 have hm:=h.many
 have h15:∀x∈es,x.en.kind≠15:=fun x hx=>by have:=(h.all x hx).2; omega
 have hst:standE es=es.map (·.en):=standE_id h15
 refine (enter_con lawT dg L (suT b 0) (short_T hB h3 0) es v H h.desk (undo_id h15) (by omega) ⟨Int.le_refl 0,(by show (0:Int)≤36500; omega),by show (b.events.take 0).length≤12; simp⟩ (by
  intro x hx
  rw [hst,List.mem_map] at hx
  obtain ⟨y,hy,rfl⟩:=hx
  exact h.all y hy) st (by rw [hst]; exact h.run) sl e (fun _=>hk) (by omega) hl hr).mono ?_
 rintro x H' ⟨rfl,hF,v',sl',hd⟩
 have hE:enterR afterT st es.length e=if (afterT st e).isSome then 0 else 7:=by
  unfold enterR
  rw [if_neg (by rw [he]; simp),if_neg (by omega)]
 rw [hE] at hd ⊢
 refine ⟨rfl,hF,?_⟩
 cases ha:afterT st e with
 |none=>
  rw [ha] at hd
  exact ⟨es,v',⟨hd,h.all,by omega,h.run⟩⟩
 |some st'=>
  rw [ha] at hd
  refine ⟨es++ [⟨e,sl'⟩],v',⟨hd,fun x hx=>?_,by simp; omega,?_⟩⟩
  ·rcases List.mem_append.1 hx with hx|hx
   ·exact h.all x hx
   ·simp only [List.mem_singleton] at hx
    subst hx
    exact ⟨he,hk⟩
  ·rw [List.map_append]
   show runA afterT (st0 (suT b 0)) (es.map (·.en)++ [e])=_
   rw [runA_app h.run,ha]; rfl
theorem askT {b:Book} (hB:isBookB b=true) (h3:b.tbl.rows.length≤1000) {dg:Nat} {L:ULoc} {st:StP} {n:Nat} {H:GH} {es:List EnL} {v:Value} (h:InvT b dg L st n H es v) (hn:n≤1000) (h0:(waterQ st).2.2=0):
  GCall Tryz.prog 12 [.pointer (some (ga dg 0 0)),.agg #[vi 2,.slice none 0 0]] H fun x H'=>∃s:SLoc,x=.ret (.tuple #[.slice s.a 2 s.fl,vi 0])∧Sub H H'∧Elems H' s.a 1 encI [(waterQ st).1,(waterQ st).2.1]:=by
 have hm:=h.many
 have h15:∀x∈es,x.en.kind≠15:=fun x hx=>by have:=(h.all x hx).2; omega
 have hst:standE es=es.map (·.en):=standE_id h15
 exact askWater_con lawT dg L (suT b 0) (short_T hB h3 0) es v H h.desk (undo_id h15) (by omega) ⟨Int.le_refl 0,(by show (0:Int)≤36500; omega),by show (b.events.take 0).length≤12; simp⟩ (by
  intro x hx
  rw [hst,List.mem_map] at hx
  obtain ⟨y,hy,rfl⟩:=hx
  exact h.all y hy) st (by rw [hst]; exact h.run) h0
theorem entered_law {H:GH} {l:BLoc} {b:Book} (hb:BookIn H l b) (he:SlOk l.events 8):GCall Tryz.prog 3 [bookV l b] H fun x _H'=>x=.ret (.bool true):=by
 refine gcall_wp tok mix fok3 (F:=g3) (c:=_) rfl (n:=164) rfl (rs:= [.tmp 2]) rfl ?_
 rcases l with ⟨⟨⟨ra,rf⟩⟩,⟨oa,of'⟩,⟨va,vf⟩⟩
 simp
 generalize hH1:GH.push H _=H1
 have hs1:Sub H H1:=by subst hH1; exact Sub.push (.refl H) _
 have k0:H1.get H.next=some (.arr { cells:=bookC ⟨⟨⟨ra,rf⟩⟩,⟨oa,of'⟩,⟨va,vf⟩⟩ b,ty:=28 }):=by subst hH1; simp
 have hn1:H1.next=H.next+1:=by subst hH1; simp
 have hb1:=hb.mono hs1
 clear hH1
 by_cases c1:(8:Int)<b.owners.length
 ·simp [c1]
  refine (known20_con _).go ?_
  simp
 simp [c1,k0]
 by_cases c2:(14:Int)<b.events.length
 ·simp [c2]
  refine (known20_con _).go ?_
  simp
 simp [c2,k0]
 by_cases c3:(4:Int)<b.tbl.rows.length
 ·simp [c3]
  refine (known20_con _).go ?_
  simp
 simp [c3,k0]
 with_reducible refine (rBook_con ⟨⟨⟨_,_⟩⟩,⟨_,_⟩,⟨_,_⟩⟩ b _ hb1 (by omega)).go ?_
 simp
 cases hB:isBookB b
 ·simp
  refine (known20_con _).go ?_
  simp
 simp
 refine (Suite_con H1).mono ?_
 rintro x H2 ⟨L0,rfl,a2,s2,lo2,fl2⟩
 have n2:=a2.1
 have k2:=(a2.2 H.next (by omega)).trans k0
 simp (disch:=omega) [k2]
 generalize hH3:GH.put (GH.put (GH.put (GH.push H2 _) _ _) _ _) _ _=H3
 obtain ⟨L,hL⟩:∃L:ULoc,L= { L0 with book:=⟨⟨⟨ra,rf⟩⟩,⟨oa,of'⟩,⟨none,0⟩⟩ }:=⟨_,rfl⟩
 have s3:Sub H2 H3:=by subst hH3; exact ((((Sub.refl H2).push _).put (Nat.le_refl _) _).put (Nat.le_refl _) _).put (Nat.le_refl _) _
 have k3:H3.get H2.next=some (.arr { cells:=suiteC L (suT b 0),ty:=43 }):=by subst hH3 hL; simp (disch:=omega) [suT,bTo]
 have k3':=(s3.2 H.next (by omega)).trans k2
 have n3:H3.next=H2.next+1:=by subst hH3; simp
 have hs3:=(hs1.trans a2).trans s3
 have hb3:=hb.mono hs3
 have si:SuiteIn H3 L (suT b 0):=by
  have:=s2.mono s3
  subst hL
  exact ⟨⟨hb3.t,hb3.owners,⟨fun _=>rfl,(fun c hc=>by cases hc),fun _=>rfl⟩⟩,this.net,this.opn,this.line,this.tree⟩
 have hfl:FlX L:=by subst hL; exact ⟨fl2.pts,fl2.chs,fl2.opn,fl2.gives,fl2.counts,fl2.nodes,fl2.outs⟩
 clear hH3
 refine (Wrong_con (l:=⟨⟨⟨ra,rf⟩⟩,⟨oa,of'⟩,⟨va,vf⟩⟩) (b:=b) hb3).go ?_
 obtain ⟨n0,c,N,hw,hN,hlo,hhi,hc⟩:=wrong_at hB
 simp [hw]
 refine wpB_mid (fun ρ m H'=>ρ 1=.pointer (some (ga H.next 0 0))∧ρ 3=.pointer (some (ga H2.next 0 0))∧ρ 4=vi N∧ρ 5=vi c∧m= []∧H3=H') (fun hp=>?_) (fun hp=>?_) ?_
 ·have hNl:N=b.events.length:=by
   rcases hc with ⟨h,_⟩|⟨_,h⟩
   ·simp [h] at hp
   ·exact h
  simp [k3']
  omega
 ·have:n0=N:=by
   rcases hc with ⟨_,h,_⟩|⟨h,_⟩
   ·exact h
   ·simp [h] at hp
  subst this
  simp
 rintro ρ m H' ⟨h1,h3,h4,h5,rfl,rfl⟩
 simp [h3,k3]
 have hB0:isBookB (bTo b 0)=true:=until_book hB 0
 have hsh:Short (suT b 0):=short_T hB (by omega) 0
 refine (Open_con _ L (bTo b 0) si hfl rfl hB0 hsh).mono ?_
 rintro x H4 ⟨dg,L',rfl,hd4,s4,lo4⟩
 have k4:=(s4.2 H.next (by omega)).trans k3'
 have hNn:¬((b.events.length:Int)<N):=by omega
 have hNn0:¬((N:Int)<0):=by omega
 have hneq:∀a:Addr,gbin T .eql 48 (.pointer (some a)) (.pointer none)=some (.bool false):=fun a=>by
  have:gequal T 48 (.pointer (some a)) (.pointer none)=some false:=nrfl rfl
  simp [gbin,this]
 rcases hc with ⟨rfl,hn0,hNl⟩|⟨rfl,hNl⟩
 all_goals
  simp [h1,h4,h5,k4,hNn,hNn0,hneq]
  refine wp_up tok mix (by kernel_rfl) (min (N+1) b.events.length) (fun i ρ m H'=>ρ 1=.pointer (some (ga H.next 0 0))∧ρ 4=vi N∧ρ 6=.pointer (some (ga dg 0 0))∧ρ 8=vi (dayTo b i)∧ρ 9=vi i∧m= []∧Sub H3 H'∧∃es v,InvT b dg L' ⟨suT b (min i N),dayTo b i,fun _=>0⟩ (2*i) H' es v) (i0:=0) (by omega) (by
   refine ⟨by simp [h1],by simp [h4],by simp,by simp [dayTo,lastDay],by simp,rfl,s4,[],_,hd4,(fun x hx=>by cases hx),by simp,?_⟩
   rw [Nat.zero_min]
   rfl) ?_
  rintro i ρ' m' H' hi ⟨g1,g4,g6,g8,g9,rfl,gs,es,v,gI⟩
  have kx:=(gs.2 H.next (by omega)).trans k3'
  simp [g4,g9]
  by_cases hcd:i<min (N+1) b.events.length
  case pos=>
   have ci:i≤N:=by omega
   have cl:i<b.events.length:=by omega
   obtain ⟨va',hva,hvl,hrd⟩:=(hb3.mono gs).events.at i cl
   simp only at hva
   subst hva
   obtain ⟨k1,k8,d0,d1⟩:=ev_kind (ev_at hB cl)
   obtain ⟨o1,o2,o3,o4⟩:=en20_ok (book_ok hB).persons (ev_at hB cl)
   have o5:(en20 b.events[i]).nums.length≤1000:=by
    unfold en20
    simp only
    repeat' split
    all_goals simp
   have hle:=dayTo_le hB cl
   have hd1:=dayTo_succ cl
   have hlen:=(book_ok hB).events
   simp (disch:=omega) [ci,cl,g1,g8,g9,kx,hrd]
   have gl:=gI.desk.lt
   by_cases hlt:dayTo b i<b.events[i].day
   ·have hw1:IntKind.i64.wrap (b.events[i].day - dayTo b i)=b.events[i].day - dayTo b i:=wrap64 _ (by have:=(dayTo_bd hB (show i≤b.events.length by omega)).1; omega) (by have:=(dayTo_bd hB (show i≤b.events.length by omega)).1; omega)
    simp (disch:=omega) [hlt,hw1,g6,g8]
    generalize hHA:GH.put (GH.push H' _) _ _=HA
    have sA:Sub H' HA:=by subst hHA; exact ((Sub.refl H').push _).put (Nat.le_refl _) _
    have kA:HA.get H'.next=some (.arr { cells:=encEv b.events[i],ty:=54 }):=by subst hHA; simp (disch:=omega)
    have nA:HA.next=H'.next+1:=by subst hHA; simp
    clear hHA
    have hwt:afterT ⟨suT b (min i N),dayTo b i,fun _=>0⟩ ⟨1,[b.events[i].day - dayTo b i]⟩=some ⟨suT b (min i N),b.events[i].day,fun _=>0⟩:=by
     rw [Nat.min_eq_left ci]
     exact after_wait_at hB cl hlt
    have sB:Sub HA (HA.push (.arr { cells:= [vi (b.events[i].day - dayTo b i)],ty:=3 })):=(Sub.refl HA).push _
    refine (enterT hB (by omega) ((gI.sub sA).sub sB) (by omega) ⟨some (ga (H'.next+1) 0 0),1⟩ ⟨1,[b.events[i].day - dayTo b i]⟩ (by simp [isEntryB,manyE,formsL,inI]; have:=(dayTo_bd hB (show i≤b.events.length by omega)).1; omega) (by show (1:Int)≤9; omega) (elems_arr (ty:=3) (szs:= []) (by simp) (by simp; omega) (by simp [nA]; rfl)) (by simp)).mono ?_
    rintro x HB ⟨rfl,hF,es',v',gI'⟩
    rw [hwt] at gI' ⊢
    have hv:=desk_blk gI.desk
    have hv':∀g,blkOf v=some g→g<H'.next:=fun g hg=>(gI.desk.ents.blk_lt hg).2
    have kB:HB.get H'.next=some (.arr { cells:=encEv b.events[i],ty:=54 }):=by
     rw [hF.2 _ (by simp; omega) (by omega) (fun hc=>by have:=hv' _ hc; omega)]
     exact (sB.2 _ (by omega)).trans kA
    have gB:Sub H3 HB:=sub_far ((gs.trans sA).trans sB) hF (by omega) hv
    rw [Nat.min_eq_left ci] at gI'
    simp only [Option.isSome_some,if_true,Option.getD_some] at gI' ⊢
    by_cases hiN:i=N
    ·subst hiN
     simp (disch:=omega) [g4,g6,g9,kB]
     refine (entry20_con b.events[i] k1 k8 _).mono ?_
     rintro x HC ⟨se,rfl,sC,eC⟩
     simp (disch:=omega)
     refine (enterT hB (by omega) (gI'.sub sC) (by omega) se (en20 b.events[i]) o1 o3 eC o5).mono ?_
     rintro x HD ⟨rfl,hF2,es2,v2,gI2⟩
     rw [after_ev_at hB cl _ rfl rfl,if_neg (hhi cl)] at gI2 ⊢
     simp (disch:=omega) [g1,g4,g6,g9]
     have gD:Sub H3 HD:=sub_far (gB.trans sC) hF2 (by omega) (desk_blk gI'.desk)
     have wi:IntKind.i64.wrap ((i:Int)+1)=i+1:=wrap64 _ (by omega) (by omega)
     rw [hd1]
     have gE:=(⟨gI2.desk,gI2.all,by have:=gI2.many; omega,gI2.run⟩:InvT b dg L' _ (2*(i+1)) HD es2 v2)
     first
     |exact ⟨rfl,wi,gD,es2,v2,gE⟩
     |exact ⟨by omega,rfl,wi,gD,es2,v2,gE⟩
     |exact ⟨wi,gD,es2,v2,gE⟩
     |exact ⟨by omega,wi,gD,es2,v2,gE⟩
     |(exfalso; omega)
    ·have hiN':¬(i:Int)=N:=by omega
     simp (disch:=omega) [hiN',g4,g6,g9,kB]
     refine (entry20_con b.events[i] k1 k8 _).mono ?_
     rintro x HC ⟨se,rfl,sC,eC⟩
     simp (disch:=omega)
     refine (enterT hB (by omega) (gI'.sub sC) (by omega) se (en20 b.events[i]) o1 o3 eC o5).mono ?_
     rintro x HD ⟨rfl,hF2,es2,v2,gI2⟩
     rw [after_ev_at hB cl _ rfl rfl,if_pos (hlo (i+1) (by omega))] at gI2 ⊢
     simp (disch:=omega) [g1,g4,g6,g9]
     have gD:Sub H3 HD:=sub_far (gB.trans sC) hF2 (by omega) (desk_blk gI'.desk)
     have wi:IntKind.i64.wrap ((i:Int)+1)=i+1:=wrap64 _ (by omega) (by omega)
     rw [hd1]
     have gE:=(⟨gI2.desk,gI2.all,by have:=gI2.many; omega,gI2.run⟩:InvT b dg L' _ (2*(i+1)) HD es2 v2)
     first
     |exact ⟨rfl,wi,gD,es2,v2,gE⟩
     |exact ⟨by omega,rfl,wi,gD,es2,v2,gE⟩
     |exact ⟨wi,gD,es2,v2,gE⟩
     |exact ⟨by omega,wi,gD,es2,v2,gE⟩
     |(exfalso; omega)
   ·have hde:dayTo b i=b.events[i].day:=by omega
    simp (disch:=omega) [hlt,g4,g9]
    generalize hHB:GH.put (GH.push H' _) _ _=HB
    have sA:Sub H' HB:=by subst hHB; exact ((Sub.refl H').push _).put (Nat.le_refl _) _
    have kB:HB.get H'.next=some (.arr { cells:=encEv b.events[i],ty:=54 }):=by subst hHB; simp (disch:=omega)
    obtain ⟨es',v',gI'⟩:∃es' v',InvT b dg L' ⟨suT b i,b.events[i].day,fun _=>0⟩ (2*i+1) HB es' v':=⟨es,v,by
     have:=gI.sub sA
     rw [Nat.min_eq_left ci,hde] at this
     exact ⟨this.desk,this.all,by have:=this.many; omega,this.run⟩⟩
    have gB:=gs.trans sA
    by_cases hiN:i=N
    ·subst hiN
     simp (disch:=omega) [g6,kB]
     refine (entry20_con b.events[i] k1 k8 _).mono ?_
     rintro x HC ⟨se,rfl,sC,eC⟩
     simp (disch:=omega)
     refine (enterT hB (by omega) (gI'.sub sC) (by omega) se (en20 b.events[i]) o1 o3 eC o5).mono ?_
     rintro x HD ⟨rfl,hF2,es2,v2,gI2⟩
     rw [after_ev_at hB cl _ rfl rfl,if_neg (hhi cl)] at gI2 ⊢
     simp (disch:=omega) [g1,g4,g6,g9]
     have gD:Sub H3 HD:=sub_far (gB.trans sC) hF2 (by omega) (desk_blk gI'.desk)
     have wi:IntKind.i64.wrap ((i:Int)+1)=i+1:=wrap64 _ (by omega) (by omega)
     rw [hd1]
     have gE:=(⟨gI2.desk,gI2.all,by have:=gI2.many; omega,gI2.run⟩:InvT b dg L' _ (2*(i+1)) HD es2 v2)
     first
     |exact ⟨rfl,wi,gD,es2,v2,gE⟩
     |exact ⟨by omega,rfl,wi,gD,es2,v2,gE⟩
     |exact ⟨wi,gD,es2,v2,gE⟩
     |exact ⟨by omega,wi,gD,es2,v2,gE⟩
     |(exfalso; omega)
    ·have hiN':¬(i:Int)=N:=by omega
     simp (disch:=omega) [hiN',g6,kB]
     refine (entry20_con b.events[i] k1 k8 _).mono ?_
     rintro x HC ⟨se,rfl,sC,eC⟩
     simp (disch:=omega)
     refine (enterT hB (by omega) (gI'.sub sC) (by omega) se (en20 b.events[i]) o1 o3 eC o5).mono ?_
     rintro x HD ⟨rfl,hF2,es2,v2,gI2⟩
     rw [after_ev_at hB cl _ rfl rfl,if_pos (hlo (i+1) (by omega))] at gI2 ⊢
     simp (disch:=omega) [g1,g4,g6,g9]
     have gD:Sub H3 HD:=sub_far (gB.trans sC) hF2 (by omega) (desk_blk gI'.desk)
     have wi:IntKind.i64.wrap ((i:Int)+1)=i+1:=wrap64 _ (by omega) (by omega)
     rw [hd1]
     have gE:=(⟨gI2.desk,gI2.all,by have:=gI2.many; omega,gI2.run⟩:InvT b dg L' _ (2*(i+1)) HD es2 v2)
     first
     |exact ⟨rfl,wi,gD,es2,v2,gE⟩
     |exact ⟨by omega,rfl,wi,gD,es2,v2,gE⟩
     |exact ⟨wi,gD,es2,v2,gE⟩
     |exact ⟨by omega,wi,gD,es2,v2,gE⟩
     |(exfalso; omega)
  case neg=>
   have hx:¬(i≤N∧i<b.events.length):=by omega
   have hmin:min i N=N:=by omega
   have hbN:N≤b.events.length:=hN
   have gn:=gs.1
   have hNle:(N:Int)≤b.events.length:=by omega
   rcases he with ⟨e1,e2⟩|⟨a,e1,e2⟩
   ·simp only at e1 e2
    subst e1 e2
    have he0:b.events= []:=hb.events.nil rfl
    have h0:b.events.length=0:=by rw [he0]; rfl
    first
    |(exfalso; omega)
    |skip
     obtain rfl:N=0:=by omega
     obtain rfl:i=0:=by omega
     simp (disch:=omega) [g1,g4,g8,g9,kx,h0]
     generalize hHX:GH.put (GH.put (GH.push H' _) _ _) _ _=HX
     have sX:Sub H' HX:=by subst hHX; exact (((Sub.refl H').push _).put (Nat.le_refl _) _).put (Nat.le_refl _) _
     clear hHX
     have hbX:BookIn HX ⟨⟨⟨ra,rf⟩⟩,⟨oa,of'⟩,⟨none,0⟩⟩ (bTo b 0):=by
      have:=(hb3.mono gs).mono sX
      exact ⟨this.t,this.owners,by have he:(bTo b 0).events= []:=rfl; rw [he]; exact ⟨fun _=>rfl,(fun c hc=>by cases hc),fun _=>rfl⟩⟩
     have hlX:(bTo b 0).events.length=0:=by show (b.events.take 0).length=0; rw [List.length_take]; omega
     have hW:=Water_con (l:=⟨⟨⟨ra,rf⟩⟩,⟨oa,of'⟩,⟨none,0⟩⟩) (b:=bTo b 0) hbX (dayTo b 0)
     simp only [bookV,bookC,hlX] at hW
     refine hW.go ?_
     simp (disch:=omega) [g6]
     have hz:=water_ok (until_book hB 0) (hlo 0 (Nat.le_refl _)) (dayTo_bd hB (show 0≤b.events.length by omega)).1 (dayTo_bd hB (show 0≤b.events.length by omega)).2
     have gI0:=gI.sub sX
     rw [hmin] at gI0
     have hlen:=(book_ok hB).events
     refine (askT hB (by omega) gI0 (by omega) hz).mono ?_
     rintro x HY ⟨sw,rfl,sY,eY⟩
     have hz2:(waterR (bTo b 0) (outS (bTo b 0) (dayTo b 0) true)).2.2=0:=hz
     have eY2:Elems HY sw.a 1 encI [(waterR (bTo b 0) (outS (bTo b 0) (dayTo b 0) true)).1,(waterR (bTo b 0) (outS (bTo b 0) (dayTo b 0) true)).2.1]:=eY
     generalize waterR (bTo b 0) (outS (bTo b 0) (dayTo b 0) true)=wr at hz2 eY2 ⊢
     simp (disch:=omega) [hz2]
     have sZ:=(Sub.refl HY).push (.arr { cells:= [vi wr.1,vi wr.2.1],ty:=3 })
     refine (same1_con [wr.1,wr.2.1] [wr.1,wr.2.1] (by simp) sw.a (some (ga HY.next 0 0)) sw.fl 1 _ (eY2.mono sZ) (elems_arr (ty:=3) (szs:= []) (by simp) (by simp) (by simp; rfl))).go ?_
     simp
     refine (known20_con _).go ?_
     simp
   ·simp only at e1 e2
    subst e1 e2
    have hg0:gadd a 0=a:=by cases a; simp [gadd]
    by_cases ci:i≤N
    ·have cl:¬i<b.events.length:=by omega
     first
     |(exfalso; omega)
     |skip
      simp (disch:=omega) [ci,cl,g1,g4,g8,g9,kx,hN,hg0]
      generalize hHX:GH.put (GH.put (GH.push H' _) _ _) _ _=HX
      have sX:Sub H' HX:=by subst hHX; exact (((Sub.refl H').push _).put (Nat.le_refl _) _).put (Nat.le_refl _) _
      clear hHX
      have hbX:BookIn HX ⟨⟨⟨ra,rf⟩⟩,⟨oa,of'⟩,⟨some a,8⟩⟩ (bTo b N):=by
       have:=(hb3.mono gs).mono sX
       exact ⟨this.t,this.owners,this.events.pre N hN⟩
      have hlX:(bTo b N).events.length=N:=by show (b.events.take N).length=N; rw [List.length_take]; omega
      have hW:=Water_con (l:=⟨⟨⟨ra,rf⟩⟩,⟨oa,of'⟩,⟨some a,8⟩⟩) (b:=bTo b N) hbX (dayTo b i)
      simp only [bookV,bookC,hlX] at hW
      refine hW.go ?_
      simp (disch:=omega) [g6]
      have hz:=water_ok (until_book hB N) (hlo N (Nat.le_refl _)) (dayTo_bd hB (show i≤b.events.length by omega)).1 (dayTo_bd hB (show i≤b.events.length by omega)).2
      have gI0:=gI.sub sX
      rw [hmin] at gI0
      have hlen:=(book_ok hB).events
      refine (askT hB (by omega) gI0 (by omega) hz).mono ?_
      rintro x HY ⟨sw,rfl,sY,eY⟩
      have hz2:(waterR (bTo b N) (outS (bTo b N) (dayTo b i) true)).2.2=0:=hz
      have eY2:Elems HY sw.a 1 encI [(waterR (bTo b N) (outS (bTo b N) (dayTo b i) true)).1,(waterR (bTo b N) (outS (bTo b N) (dayTo b i) true)).2.1]:=eY
      generalize waterR (bTo b N) (outS (bTo b N) (dayTo b i) true)=wr at hz2 eY2 ⊢
      simp (disch:=omega) [hz2]
      have sZ:=(Sub.refl HY).push (.arr { cells:= [vi wr.1,vi wr.2.1],ty:=3 })
      refine (same1_con [wr.1,wr.2.1] [wr.1,wr.2.1] (by simp) sw.a (some (ga HY.next 0 0)) sw.fl 1 _ (eY2.mono sZ) (elems_arr (ty:=3) (szs:= []) (by simp) (by simp) (by simp; rfl))).go ?_
      simp
      refine (known20_con _).go ?_
      simp
    ·first
     |(exfalso; omega)
     |skip
      simp (disch:=omega) [ci,g1,g4,g8,kx,hN,hg0]
      generalize hHX:GH.put (GH.put (GH.push H' _) _ _) _ _=HX
      have sX:Sub H' HX:=by subst hHX; exact (((Sub.refl H').push _).put (Nat.le_refl _) _).put (Nat.le_refl _) _
      clear hHX
      have hbX:BookIn HX ⟨⟨⟨ra,rf⟩⟩,⟨oa,of'⟩,⟨some a,8⟩⟩ (bTo b N):=by
       have:=(hb3.mono gs).mono sX
       exact ⟨this.t,this.owners,this.events.pre N hN⟩
      have hlX:(bTo b N).events.length=N:=by show (b.events.take N).length=N; rw [List.length_take]; omega
      have hW:=Water_con (l:=⟨⟨⟨ra,rf⟩⟩,⟨oa,of'⟩,⟨some a,8⟩⟩) (b:=bTo b N) hbX (dayTo b i)
      simp only [bookV,bookC,hlX] at hW
      refine hW.go ?_
      simp (disch:=omega) [g6]
      have hz:=water_ok (until_book hB N) (hlo N (Nat.le_refl _)) (dayTo_bd hB (show i≤b.events.length by omega)).1 (dayTo_bd hB (show i≤b.events.length by omega)).2
      have gI0:=gI.sub sX
      rw [hmin] at gI0
      have hlen:=(book_ok hB).events
      refine (askT hB (by omega) gI0 (by omega) hz).mono ?_
      rintro x HY ⟨sw,rfl,sY,eY⟩
      have hz2:(waterR (bTo b N) (outS (bTo b N) (dayTo b i) true)).2.2=0:=hz
      have eY2:Elems HY sw.a 1 encI [(waterR (bTo b N) (outS (bTo b N) (dayTo b i) true)).1,(waterR (bTo b N) (outS (bTo b N) (dayTo b i) true)).2.1]:=eY
      generalize waterR (bTo b N) (outS (bTo b N) (dayTo b i) true)=wr at hz2 eY2 ⊢
      simp (disch:=omega) [hz2]
      have sZ:=(Sub.refl HY).push (.arr { cells:= [vi wr.1,vi wr.2.1],ty:=3 })
      refine (same1_con [wr.1,wr.2.1] [wr.1,wr.2.1] (by simp) sw.a (some (ga HY.next 0 0)) sw.fl 1 _ (eY2.mono sZ) (elems_arr (ty:=3) (szs:= []) (by simp) (by simp) (by simp; rfl))).go ?_
      simp
      refine (known20_con _).go ?_
      simp
end Go.Gm.Tryz
end
section
namespace Go.Gm.Tryz
open Go.Proofs Go.Proofs.YtccimeehmeibfaaGreat Go.RowKit
theorem topEntered_spec:LawSpec Rows.topEnteredSpec 1:=⟨rfl,fun H xs h=>by
 match xs,h with
 | [_],_=>rfl⟩
set_option maxRecDepth 100000 in
theorem topEntered_lifted (os:Os) (started:os.Started) (H:Type) (enc:TypeId×Value→H):
  ReturnsInHanded {} Tryz.checked os 3 .any (fun w args=>Rows.topEnteredSpec.pre enc Tryz.prog Tryz.f3 [] false w args∧sizedMet enc Tryz.prog Tryz.f3 (OpenSpec.ofChange Rows.topEnteredSpec) false w args)
   (Rows.topEnteredSpec.post enc Tryz.prog Tryz.f3 false true false false):=by
 refine returnsInHanded_plain (C:=Tryz.checked) own started (by kernel_rfl) Tryz.func3
  (ChangeSpec.witness_shaped (enc:=enc) (C:=Tryz.checked) (os:=os) (X:=fun _ _=>True) false (World.laidAll Tryz.prog os []) #[.agg #[.slice none 0 0,.int .i64 0,.int .i64 0,.int .i64 0,.int .i64 0,.slice none 0 0,.slice none 0 0]] 9 (World.laidAll_os _ _ _)
   (World.shaped_of_ZipB (by kernel_rfl) (by kernel_rfl)) (by kernel_rfl) (by kernel_rfl) (by kernel_rfl) trivial) ?_
 intro W base args ds gs before hsh hval _ hw
 refine law_calls (P:=Tryz.prog) (fn:=Tryz.f3) (ds:= [dBook]) laidOut (by rw [Tryz.params3]; exact .cons fitBook .nil) (by kernel_rfl) Tryz.underlying4 (by
  rw [Tryz.params3]
  intro t ht
  have hall:([28].all fun t=>Tryz.prog.readableRec t&&decide (t<Tryz.prog.types.size))=true:=by kernel_rfl
  have:=List.all_eq_true.1 hall t (by simpa using ht)
  simpa using this) topEntered_spec (fx:= []) (fun k r h=>by cases h) ?_ hval hw
 intro G gss hG hLie
 cases hLie with
 |cons h1 h2=>
 cases h2
 obtain ⟨l,b,e,hb,_,_,k3⟩:=lie_book h1
 show GCall Tryz.prog 3 [argV dBook _] G _
 rw [e]
 exact entered_law hb k3
theorem topEntered_joined:joinedFacts Tryz.prog 3 Tryz.f3 Rows.topEnteredSpec Rows.topEnteredRow=true:=by
 unfold joinedFacts
 exact and_tt (and_tt (and_tt (and_tt (and_tt (and_tt (and_tt (and_tt (and_tt (and_tt (and_tt (and_tt (and_tt (and_tt (and_tt (and_tt (and_tt (and_tt (and_tt (and_tt (and_tt (and_tt (and_tt (and_tt (and_tt (and_tt (and_tt (and_tt (and_tt (and_tt (and_tt (by kernel_rfl) (by kernel_rfl)) (by kernel_rfl)) (by kernel_rfl)) (by kernel_rfl)) (by kernel_rfl)) (by kernel_rfl)) (by kernel_rfl)) (by kernel_rfl)) (by kernel_rfl)) (by kernel_rfl)) (by kernel_rfl)) (by kernel_rfl)) (by kernel_rfl)) (by kernel_rfl)) (by kernel_rfl)) (by kernel_rfl)) (by kernel_rfl)) (by kernel_rfl)) (by kernel_rfl)) (by kernel_rfl)) (by kernel_rfl)) (by kernel_rfl)) (by kernel_rfl)) (by kernel_rfl)) (by kernel_rfl)) (by kernel_rfl)) (by kernel_rfl)) (by kernel_rfl)) (by kernel_rfl)) (by kernel_rfl)) (by kernel_rfl)
end Go.Gm.Tryz
namespace Go.Proofs.YtccimeehmeibfaaGreat
open Go.Gm.Tryz
theorem topEntered_holds:Rows.TopEnteredSaid:=
 OpenClaim.holds_of_wide 3 Tryz.f3 rfl rfl rfl rfl rfl rfl rfl ⟨rfl,rfl,rfl,rfl,rfl⟩ rfl rfl rfl rfl rfl (by kernel_rfl) Tryz.func3 topEntered_joined
  (of_decide_eq_true (by kernel_rfl)) (by unfold Func.isWrapper; first|(rw [if_pos (by decide+kernel)]; kernel_rfl)|(rw [if_neg (by decide+kernel)]; exact ⟨rfl,rfl⟩))
  (fun os started H enc _=>topEntered_lifted os started H enc)
end Go.Proofs.YtccimeehmeibfaaGreat
end
end
