/- The function GrantNobody, called with any register and any day, returns true, and never panics: by the model of the language, for every input that the card fits, and under the card's conditions alone. -/
import Derived.Test.YtmnfgajihkfahaaGreatDoorBa6
import Derived.Test.YtmnfgajihkfahaaGreatDoorTie
noncomputable section
section
namespace Go.Gm.Tryz
open Go.Proofs
@[simp] theorem blo:ah 10 g5.plans=some [(0,[]),(1,[]),(2,[]),(3,[]),(4,[]),(5,[]),(6,[]),(7,[]),(8,[]),(9,[]),(10,[]),(11,[]),(12,[]),(13,[]),(14,[]),(15,[]),(16,[]),(17,[]),(18,[]),(19,[]),(20,[]),(21,[]),(22,[])]:=ai rfl
@[simp] theorem blp:ah 21 g5.plans=some [(0,[]),(1,[]),(2,[]),(3,[]),(4,[]),(5,[]),(6,[]),(7,[]),(8,[]),(9,[]),(10,[]),(11,[]),(12,[]),(13,[]),(14,[]),(15,[]),(16,[]),(17,[]),(18,[]),(19,[]),(20,[]),(21,[]),(22,[]),(23,[]),(24,[]),(25,[]),(26,[]),(27,[]),(28,[]),(29,[])]:=ai rfl
end Go.Gm.Tryz
end
section
namespace Go.Gm.Tryz
open Go.Proofs
theorem day_step {b:Book} (hB:aq b=true) {i:Nat} (hi:i+1<b.events.length):b.events[i].day≤b.events[i+1].day:=by
 simp only [aq,Bool.and_eq_true,List.all_eq_true,List.mem_range] at hB
 have:=hB.1.2 (i+1) hi
 unfold mc at this
 rw [bc hi,Nat.add_sub_cancel,bc (show i<b.events.length by omega)] at this
 simp at this
 exact this.2
theorem day_mono {b:Book} (hB:aq b=true) {i:Nat}:∀(k:Nat) (h:i+k<b.events.length),(b.events[i]'(by omega)).day≤b.events[i+k].day:=by
 intro k
 induction k with
 |zero=>intro h; exact Int.le_refl _
 |succ k ih=>intro h; exact Int.le_trans (ih (by omega)) (day_step hB h)
theorem Cut.mem {b:Book} (hB:aq b=true) {d:Int} {n:Nat} (h:Cut b d n) {e:Ev}:e∈b.events.take n↔e∈b.events∧e.day≤d:=by
 constructor
 ·exact fun he=>⟨List.mem_of_mem_take he,h.lo e he⟩
 ·rintro ⟨he,hd⟩
  obtain ⟨i,hi,rfl⟩:=List.mem_iff_getElem.1 he
  by_cases hc:i<n
  ·exact List.mem_take_iff_getElem.2 ⟨i,by omega,rfl⟩
  ·have h1:=h.hi (by omega)
   have h2:=day_mono hB (i:=n) (i - n) (by omega)
   have e:n+(i - n)=i:=by omega
   simp only [e] at h2
   omega
theorem J.alive {b:Book} (hB:aq b=true) {d:Int} {n:Nat} {u:Stand} (hc:Cut b d n) (h:J b (b.events.take n) u) {p:Int} (hp:Liv b u p):az b p=true∧bnd b p d=false:=by
 have hbo:=(l8 hB).persons
 refine ⟨?_,?_⟩
 ·have:=hp.1; have:=hp.2.1
  simp (disch:=omega) only [az,inI,aj,decide_eq_true_eq]
  omega
 ·unfold bnd
  rw [List.any_eq_false]
  intro e he hd
  simp only [decide_eq_true_eq] at hd
  have h1:=h.dead e ((hc.mem hB).2 ⟨he,hd.2.1⟩) hd.1
  rw [hd.2.2,hp.2.2] at h1
  cases h1
end Go.Gm.Tryz
end
section
namespace Go.Gm.Tryz
open Go.Proofs
theorem zt {b:Book} (h:nt b=true):aq b=true∧dw b=none:=by
 simp only [nt,Bool.and_eq_true,Option.isNone_iff_eq_none] at h
 exact h
theorem qv {b:Book} (h:nw b=true):b.tbl.rows.length≤15∧b.events.length≤14∧b.owners.length≤8∧(aq b=true→b.tbl.rows.length≤4):=by
 have h':=h
 simp [nw] at h'
 refine ⟨by omega,by omega,by omega,fun hB=>?_⟩
 have ht:=xj hB
 simp [ht] at h'
 omega
end Go.Gm.Tryz
end
section
namespace Go.Gm.Tryz
open Go.Proofs
def diedTo (b:Book) (p d:Int) (i:Nat):Bool:=(b.events.take i).any fun e=>decide (e.kind=3∧e.day≤d∧e.person=p)
theorem diedTo_zero {b:Book} {p d:Int}:diedTo b p d 0=false:=rfl
theorem diedTo_all {b:Book} {p d:Int}:diedTo b p d b.events.length=bnd b p d:=by rw [diedTo,List.take_length,bnd]
theorem diedTo_succ {b:Book} {p d:Int} {i:Nat} (h:i<b.events.length) (h0:diedTo b p d i=false):diedTo b p d (i+1)=decide (b.events[i].kind=3∧b.events[i].day≤d∧b.events[i].person=p):=by
 unfold diedTo at h0 ⊢
 rw [List.take_succ_eq_append_getElem h,List.any_append,h0,Bool.false_or]
 simp
theorem diedTo_true {b:Book} {p d:Int} {i:Nat} (h:diedTo b p d i=true):bnd b p d=true:=by
 obtain ⟨e,he,hp⟩:=List.any_eq_true.1 h
 exact List.any_eq_true.2 ⟨e,List.mem_of_mem_take he,hp⟩
theorem died_con (l:BLoc) (b:Book) (p d:Int) (H:GH) (hb:BookIn H l b) (hl:b.events.length≤1000):C 37 [dl l b,vi p,vi d] H (.bool (bnd b p d)) H:=by
 rcases l with ⟨⟨⟨ra,rf⟩⟩,⟨oa,of'⟩,⟨va,vf⟩⟩
 refine au tok mix a9z (F:=g37) (c:=_) rfl (n:=42) rfl (rs:= [.tmp 6]) rfl (ac rfl) ?_
 simp
 generalize hH1:GH.push H _=H1
 have hs1:Sub H H1:=by subst hH1; exact Sub.push (.refl H) _
 have k0:H1.get H.next=some (.arr { cells:=bq ⟨⟨⟨ra,rf⟩⟩,⟨oa,of'⟩,⟨va,vf⟩⟩ b,ty:=28 }):=by subst hH1; simp
 have hb1:=hb.mono hs1
 clear hH1
 refine cv tok mix (by kernel_rfl) b.events.length (fun i ρ m H'=>ρ 1=vi p∧ρ 2=vi d∧ρ 3=.pointer (some (ga H.next 0 0))∧ρ 7=vi i∧m= []∧H'=H1∧diedTo b p d i=false) (i0:=0) (by omega) (by simp [diedTo_zero]) ?_
 rintro i ρ m H1 hi ⟨e1,e2,e3,e7,rfl,rfl,hlo⟩
 simp (disch:=omega) [e3,e7,k0]
 by_cases hlt:i<b.events.length
 ·obtain ⟨a,ha,hab,hrd⟩:=hb1.events.at i hlt
  simp only at ha
  subst ha
  have key:=diedTo_succ (p:=p) (d:=d) hlt hlo
  simp (disch:=omega) [hlt,e3,e7,k0,hrd]
  by_cases h3:b.events[i].kind=3
  ·simp (disch:=omega) [h3,e2,e3,e7,k0,hrd]
   by_cases hd:b.events[i].day≤d
   ·simp (disch:=omega) [hd,e1,e3,e7,k0,hrd]
    refine ba (fun hp=>?_) (fun hp=>?_)
    ·simp
     exact ⟨diedTo_true (i:=i+1) (by rw [key]; simp [h3,hd,hp]),hs1⟩
    ·simp (disch:=omega) [e1,e2,e3,e7,aj]
     rw [key]; simp [h3,hd,hp]
   ·simp (disch:=omega) [hd,e1,e2,e3,e7,aj]
    rw [key]; simp [h3,hd]
  ·simp (disch:=omega) [h3,e1,e2,e3,e7,aj]
   rw [key]; simp [h3]
 ·have:i=b.events.length:=by omega
  subst this
  rw [diedTo_all] at hlo
  simp
  exact ⟨hlo,hs1⟩
theorem oAt_lt {s:Stand} {i:Nat} (h:i<s.owners.length):oAt s i=s.owners[i]:=by
 unfold oAt
 exact bc h
theorem nobody_law {H:GH} {l:BLoc} {b:Book} (hb:BookIn H l b) (hfx:FxOk H.fx) (day:Int):C 5 [dl l b,vi day] H (.bool true) H:=by
 refine au tok mix bky (F:=g5) (c:=_) rfl (n:=167) rfl (rs:= [.tmp 4]) rfl (ac rfl) ?_
 rcases l with ⟨⟨⟨ra,rf⟩⟩,⟨oa,of'⟩,⟨va,vf⟩⟩
 simp
 generalize hH1:GH.push H _=H1
 have hs1:Sub H H1:=by subst hH1; exact Sub.push (.refl H) _
 have k0:H1.get H.next=some (.arr { cells:=bq ⟨⟨⟨ra,rf⟩⟩,⟨oa,of'⟩,⟨va,vf⟩⟩ b,ty:=28 }):=by subst hH1; simp
 have hn1:H1.next=H.next+1:=by subst hH1; simp
 have hf1:FxOk H1.fx:=by subst hH1; exact hfx
 have hb1:=hb.mono hs1
 clear hH1
 with_reducible refine (uc ⟨⟨⟨_,_⟩⟩,⟨_,_⟩,⟨_,_⟩⟩ b _ hb1).go ?_
 simp
 cases hsh:nw b
 ·simp
  refine (cx hf1).go ?_
  simp
  exact hs1
 obtain ⟨h15,h14,h8,h4⟩:=qv hsh
 simp [k0]
 with_reducible refine (wm ⟨⟨⟨_,_⟩⟩,⟨_,_⟩,⟨_,_⟩⟩ b _ hb1 hsh).go ?_
 simp
 cases hR:nt b
 ·simp
  refine (cx hf1).go ?_
  simp
  exact hs1
 simp
 refine (sq _ _).go ?_
 simp
 cases hd:fu day
 ·simp
  refine (cx hf1).go ?_
  simp
  exact hs1
 obtain ⟨hB,hwr⟩:=zt hR
 obtain ⟨s,hs⟩:=yr hB hwr day
 have ho:=zo hB hwr hs hd (ok:=true) rfl
 obtain ⟨n,hn,hJ⟩:=bks hB hs
 have hal:∀ {p:Int},Liv b s p→az b p=true∧bnd b p day=false:=fun hp=>hJ.alive hB hn hp
 simp (disch:=omega) [k0]
 refine (ab5 hb1 day).fx.mono ?_
 rintro x H2 ⟨⟨s2,v,rfl,hv⟩,f2⟩
 have k2:=(s2.2 H.next (by omega)).trans k0
 have hn2:=s2.1
 simp (disch:=omega) [k2]
 refine (aaa (hb1.mono s2) day).fx.mono ?_
 rintro x H3 ⟨⟨s3,w,rfl,hw⟩,f3⟩
 have k3:=(s3.2 H.next (by omega)).trans k2
 have hn3:=s3.1
 have hf3:FxOk H3.fx:=by rw [f3,f2]; exact hf1
 have hs3:=hs1.trans (s2.trans s3)
 have hb3:=hb.mono hs3
 have hv3:=hv.sub s3
 rw [ho] at hv3 hw ⊢
 obtain ⟨a1,q1,rfl,hE1⟩:=hv3
 obtain ⟨a2,q2,rfl,hE2⟩:=hw
 simp only [o8,me] at hE1 hE2 ⊢
 have L0:s.grants.length+s.waits.length≤b.events.length:=by have:=hJ.sz; have:=List.length_take_le n b.events; have:=List.length_take_le' n b.events; simp only [size] at*; omega
 have L1:¬b.events.length<s.grants.length:=by omega
 have L2:¬b.owners.length+b.events.length<s.owners.length:=by have:=hJ.ow; have:=List.length_take_le' n b.events; omega
 have L3:¬(b.owners.length:Int)+b.events.length<s.owners.length:=by omega
 simp (disch:=omega) [k3,L1,L3,aj]
 refine cv tok mix (by kernel_rfl) s.owners.length (fun i ρ m H'=>ρ 1=vi day∧ρ 2=.pointer (some (ga H.next 0 0))∧ρ 5=.slice a1 s.grants.length q1∧ρ 7=.slice a2 s.owners.length q2∧ρ 9=vi i∧m= []∧H'=H3) (i0:=0) (by omega) (by simp) ?_
 rintro i ρ m H3 hi ⟨e1,e2,e5,e7,e9,rfl,rfl⟩
 simp (disch:=omega) [e7,e9]
 refine ba (fun hlt=>?_) (fun hge=>?_)
 ·obtain ⟨a,rfl,hab,hrd⟩:=hE2.at i hlt
  have hlt':(i:Int)<s.owners.length:=by omega
  simp (disch:=omega) [e7,e9,hrd]
  by_cases hm1:s.owners[i]= -1
  ·simp (disch:=omega) [hm1,e1,e2,e5,e7,e9,aj]
   omega
  have hp:=hal ((hJ.jx.own i hlt).resolve_left (by rw [oAt_lt hlt]; exact hm1))
  rw [oAt_lt hlt] at hp
  simp (disch:=omega) [hm1,e2,e7,e9,hrd,k3]
  with_reducible refine (ji ⟨⟨⟨_,_⟩⟩,⟨_,_⟩,⟨_,_⟩⟩ b _ _).go ?_
  simp (disch:=omega) [hp.1,e1,e2,e7,e9,hrd,k3]
  with_reducible refine (died_con ⟨⟨⟨_,_⟩⟩,⟨_,_⟩,⟨_,_⟩⟩ b _ _ _ hb3 (by omega)).go ?_
  simp (disch:=omega) [hp.2,e1,e2,e5,e7,e9,aj]
  exact hlt
 simp (disch:=omega)
 refine cv tok mix (by kernel_rfl) s.grants.length (fun i ρ m H'=>ρ 1=vi day∧ρ 2=.pointer (some (ga H.next 0 0))∧ρ 5=.slice a1 s.grants.length q1∧ρ 7=.slice a2 s.owners.length q2∧ρ 10=vi i∧m= []∧Sub H3 H'∧FxOk H'.fx) (i0:=0) (by omega) (by simp [e1,e2,e5,e7,hf3]) ?_
 rintro i ρ m H4 hi ⟨e1,e2,e5,e7,e10,rfl,hs4,hf4⟩
 simp (disch:=omega) [e5,e10]
 refine ba (fun hlt=>?_) (fun hge=>?_)
 ·obtain ⟨a,rfl,hab,hrd⟩:=(hE1.mono hs4).at i hlt
  have hlt':(i:Int)<s.grants.length:=by omega
  have hb4:=hb3.mono hs4
  have k4:=(hs4.2 H.next (by omega)).trans k3
  simp (disch:=omega) [e5,e10,hrd]
  generalize hH5:GH.put _ _ _=H5
  have hs5:Sub H4 H5:=by subst hH5; exact ⟨by simp,fun g hg=>by simp (disch:=omega)⟩
  have k5:H5.get H4.next=some (.arr { cells:=kg s.grants[i],ty:=53 }):=by subst hH5; simp
  have hf5:FxOk H5.fx:=by subst hH5; exact hf4
  have k0:=(hs5.2 H.next (by have:=hs4.1; omega)).trans k4
  clear hH5
  have hn5:=hs5.1
  have hb5:=hb4.mono hs5
  have fin:Sub H3 H5∧FxOk H5.fx:=⟨hs4.trans hs5,hf5⟩
  rcases hJ.jx.gr _ (List.getElem_mem hlt) with h|h|h|h
  ·simp (disch:=omega) [h.1,h.2.1,h.2.2,e1,e2,e5,e7,e10,k5,aj]
   exact ⟨hlt,fin⟩
  ·have hp:=hal h.2.1
   simp (disch:=omega) [h.1,h.2.2,e2,k5,k0]
   with_reducible refine (ji ⟨⟨⟨_,_⟩⟩,⟨_,_⟩,⟨_,_⟩⟩ b _ _).go ?_
   simp (disch:=omega) [hp.1,h.1,h.2.2,e1,e2,k5,k0]
   with_reducible refine (died_con ⟨⟨⟨_,_⟩⟩,⟨_,_⟩,⟨_,_⟩⟩ b _ _ _ hb5 (by omega)).go ?_
   simp (disch:=omega) [hp.2,h.1,h.2.2,e1,e2,e5,e7,e10,k5,aj]
   exact ⟨hlt,fin⟩
  ·have hp:=hal h.2.2
   simp (disch:=omega) [h.1,h.2.1,e2,k5,k0]
   with_reducible refine (ji ⟨⟨⟨_,_⟩⟩,⟨_,_⟩,⟨_,_⟩⟩ b _ _).go ?_
   simp (disch:=omega) [hp.1,h.1,h.2.1,e1,e2,k5,k0]
   with_reducible refine (died_con ⟨⟨⟨_,_⟩⟩,⟨_,_⟩,⟨_,_⟩⟩ b _ _ _ hb5 (by omega)).go ?_
   simp (disch:=omega) [hp.2,h.1,h.2.1,e1,e2,e5,e7,e10,k5,aj]
   exact ⟨hlt,fin⟩
  ·obtain ⟨g1,g2,g3,g4,g5⟩:=h
   obtain ⟨m,hm⟩:∃m:Nat,s.grants[i].estate=m:=⟨s.grants[i].estate.toNat,by omega⟩
   rw [hm] at g2 g3 g4
   have hml:m<s.owners.length:=by omega
   rw [Int.toNat_natCast,oAt_lt hml] at g4
   have hp:=hal (g4▸(oAt_lt hml▸(hJ.jx.own m hml).resolve_left (by rw [oAt_lt hml,g4]; exact g5)))
   obtain ⟨ao,rfl,hoo,hrdo⟩:=((hE2.mono hs4).mono hs5).at m hml
   simp (disch:=omega) [g1,hm,e2,k5,k0]
   with_reducible refine (ji ⟨⟨⟨_,_⟩⟩,⟨_,_⟩,⟨_,_⟩⟩ b _ _).go ?_
   simp (disch:=omega) [hp.1,g1,hm,e1,e2,k5,k0]
   with_reducible refine (died_con ⟨⟨⟨_,_⟩⟩,⟨_,_⟩,⟨_,_⟩⟩ b _ _ _ hb5 (by omega)).go ?_
   have m0:¬(m:Int)<0:=by omega
   have m1:¬s.owners.length≤m:=by omega
   simp (disch:=omega) [hp.2,g1,hm,g4,m0,m1,e1,e2,e5,e7,e10,k5,aj,hrdo]
   exact ⟨hlt,fin⟩
 simp (disch:=omega)
 refine (cx hf4).go ?_
 simp
 exact hs3.trans hs4
end Go.Gm.Tryz
end
section
namespace Go.Gm.Tryz
open Go.Proofs Go.Proofs.YtmnfgajihkfahaaGreatDoor Go.RowKit
theorem grantNobody_spec:LawSpec Rows.grantNobodySpec 2:=⟨rfl,fun H xs h=>by
 match xs,h with
 | [_,_],_=>rfl⟩
set_option maxRecDepth 100000 in
theorem grantNobody_lifted (os:Os) (started:os.Started) (H:Type) (enc:TypeId×Value→H):
  ReturnsInHanded {} Tryz.checked os 5 .any (fun w args=>(Rows.grantNobodySpec.pre enc Tryz.prog Tryz.f5 [] false w args∧laidMetH Tryz.prog li w)∧sizedMet enc Tryz.prog Tryz.f5 (OpenSpec.ofChange Rows.grantNobodySpec) false w args)
   (Rows.grantNobodySpec.post enc Tryz.prog Tryz.f5 false true false false):=by
 refine fk (C:=Tryz.checked) (X:=fun w _=>laidMetH Tryz.prog li w) (fun _ _ _ hh h=>h.of_heap hh) own started (by kernel_rfl) Tryz.func5
  (ChangeSpec.witness_shaped (enc:=enc) (C:=Tryz.checked) (os:=os) (X:=fun w _=>laidMetH Tryz.prog li w) false (World.laidAll Tryz.prog os li) #[.agg #[.slice none 0 0,.int .i64 0,.int .i64 0,.int .i64 0,.int .i64 0,.slice none 0 0,.slice none 0 0],.int .i64 0] 9 (World.laidAll_os _ _ _)
   (World.shaped_of_ZipB (by kernel_rfl) (by kernel_rfl)) (by kernel_rfl) (by kernel_rfl) (by kernel_rfl)
   (by rw [MakeChecks.laidMetH_plain _ _ _ (by kernel_rfl)]; exact laidMet_laidAll _ (by kernel_rfl) (by kernel_rfl))) ?_
 intro W base args ds gs before hsh hval _ hw hL
 obtain ⟨fx,hfx,hok,hW⟩:=anh hL hsh
 refine tw (P:=Tryz.prog) (fn:=Tryz.f5) (ds:= [sh,dI]) abw (by rw [Tryz.params5]; exact .cons abt (.cons rz .nil)) (by kernel_rfl) Tryz.underlying4 (by
  rw [Tryz.params5]
  intro t ht
  have hall:([28,3].all fun t=>Tryz.prog.readableRec t&&decide (t<Tryz.prog.types.size))=true:=by kernel_rfl
  have:=List.all_eq_true.1 hall t (by simpa using ht)
  simpa using this) grantNobody_spec hW hfx ?_ hval hw
 intro G gss hG hLie
 have hfG:FxOk G.fx:=by rw [hG]; exact hok
 cases hLie with
 |cons h1 h2=>
 cases h2 with
 |cons h2 h3=>
 cases h3
 obtain ⟨l,b,e,hb,_,_,k3⟩:=yb h1
 obtain ⟨n,rfl⟩:=ew h2
 show ay Tryz.prog 5 [ahz sh _,vi n] G _
 rw [e]
 exact (nobody_law hb hfG n).mono fun x _ h=>h.1
theorem grantNobody_inPlace:(Rows.grantNobodyRow.inPlace==Tryz.prog.inPlace 5)=true:=by kernel_rfl
theorem grantNobody_unf:(Rows.grantNobodyRow.unfollowed==Tryz.prog.unfollowed 5)=true:=by kernel_rfl
theorem grantNobody_rec:(Rows.grantNobodyRow.recurses==Tryz.prog.recurses 5)=true:=by kernel_rfl
theorem grantNobody_named:(Rows.grantNobodyRow.named==Tryz.prog.varsNamed 5)=true:=by kernel_rfl
theorem grantNobody_joined:joinedFacts Tryz.prog 5 Tryz.f5 Rows.grantNobodySpec Rows.grantNobodyRow=true:=by
 unfold joinedFacts
 exact am (am (am (am (am (am (am (am (am (am (am (am (am (am (am (am (am (am (am (am (am (am (am (am (am (am (am (am (am (am (am (by kernel_rfl) (by kernel_rfl)) (by kernel_rfl)) (by kernel_rfl)) (by kernel_rfl)) (by kernel_rfl)) (by kernel_rfl)) (by kernel_rfl)) (by kernel_rfl)) grantNobody_inPlace) grantNobody_unf) grantNobody_rec) grantNobody_named) (by kernel_rfl)) (by kernel_rfl)) (by kernel_rfl)) (by kernel_rfl)) (by kernel_rfl)) (by kernel_rfl)) (by kernel_rfl)) (by kernel_rfl)) (by kernel_rfl)) (by kernel_rfl)) (by kernel_rfl)) (by kernel_rfl)) af9) (by rw [agc]; exact beq_self_eq_true _)) (by rw [anr]; exact beq_self_eq_true _)) (by kernel_rfl)) (by kernel_rfl)) (by kernel_rfl)) (by kernel_rfl)
theorem grantNobody_holds:Rows.GrantNobodySaid:=
 OpenClaim.holds_of_wide 5 Tryz.f5 rfl rfl rfl rfl rfl rfl rfl ⟨rfl,rfl,rfl,rfl,rfl⟩ rfl rfl rfl rfl rfl (by kernel_rfl) Tryz.func5 grantNobody_joined
  (of_decide_eq_true (by kernel_rfl)) (by unfold Func.isWrapper; first|(rw [if_pos (by decide+kernel)]; kernel_rfl)|(rw [if_neg (by decide+kernel)]; exact ⟨rfl,rfl⟩))
  (fun os started H enc _=>grantNobody_lifted os started H enc)
end Go.Gm.Tryz
namespace Go.Proofs.YtmnfgajihkfahaaGreatDoor
open Go.Gm.Tryz
set_option maxRecDepth 100000 in
theorem grantNobody_card_holds:Rows.GrantNobodyCardSaid:=
 Claim7.holds_tied_plain_at .later [] [.data,.data,.data,.data,.pinned] true (true, "c50a2473247fd563652536c5189614d6c43fc7c925362f406516d21693885498") true
  grantNobody_holds (fun _ h=>by cases h) (by kernel_rfl) (fun _ h=>by cases h) grantNobody_row_tie rfl ⟨rfl,rfl⟩ anq rfl
  (fun f fn hf hfn=>by
   obtain rfl:f=5:=Option.some.inj ((show Tryz.prog.funcNamed "quinaria/quinarialaw06.GrantNobody"=some 5 by kernel_rfl).symm.trans hf)|>.symm
   obtain rfl:fn=Tryz.f5:=(Option.some.inj (Tryz.func5.symm.trans hfn)).symm
   exact ⟨agv,fun j t ht=>by
    rw [Tryz.params5] at ht
    have hm:t∈ [28,3]:=by simpa using Array.mem_of_getElem? ht
    have hall:([28,3].all fun u=> !Tryz.prog.wantsStandIn u)=true:=by kernel_rfl
    exact (show Tryz.prog.wantsStandIn t=false by simpa using List.all_eq_true.1 hall t hm)⟩)
  (by kernel_rfl)
end Go.Proofs.YtmnfgajihkfahaaGreatDoor
end
end
