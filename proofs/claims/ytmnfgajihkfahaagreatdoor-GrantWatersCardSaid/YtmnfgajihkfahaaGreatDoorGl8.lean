/- The function GrantWaters, called with any register and any day, returns true, and never panics: by the model of the language, for every input that the card fits, and under the card's conditions alone. -/
import Derived.Test.YtmnfgajihkfahaaGreatDoorBa6
import Derived.Test.YtmnfgajihkfahaaGreatDoorTie
noncomputable section
section
namespace Go.Gm.Tryz
open Go.Proofs
theorem zt {b:Book} (h:nt b=true):aq b=true∧dw b=none:=by
 simp only [nt,Bool.and_eq_true,Option.isNone_iff_eq_none] at h
 exact h
theorem qv {b:Book} (h:nw b=true):b.tbl.rows.length≤15∧b.events.length≤14∧b.owners.length≤8∧(aq b=true→b.tbl.rows.length≤4):=by
 have h':=h
 simp [nw] at h'
 refine ⟨by omega,by omega,by omega,fun hB=>?_⟩
 have ht:=xj hB
 simp [ht] at h'
 omega
theorem qq {b:Book} (hB:aq b=true) (h:nt b=false) {d:Int} (hd:fu d=true) {ok:Bool} (hk:ok=true):im b d ok=.err 7:=by
 cases hw:dw b with
 |none=>simp [nt,hB,hw] at h
 |some n=>exact apd hB hw hd hk
end Go.Gm.Tryz
end
section
namespace Go.Gm.Tryz
open Go.Proofs
theorem amq {H:GH} {l:BLoc} {b:Book} (hb:BookIn H l b) (hfx:FxOk H.fx) (day:Int):C 8 [dl l b,vi day] H (.bool true) H:=by
 refine au tok mix baj (F:=g8) (c:=_) rfl (n:=98) rfl (rs:= [.tmp 4]) rfl (ac rfl) ?_
 rcases l with ⟨⟨⟨ra,rf⟩⟩,⟨oa,of'⟩,⟨va,vf⟩⟩
 simp
 generalize hH1:GH.push H _=H1
 have hs1:Sub H H1:=by subst hH1; exact Sub.push (.refl H) _
 have k0:H1.get H.next=some (.arr { cells:=bq ⟨⟨⟨ra,rf⟩⟩,⟨oa,of'⟩,⟨va,vf⟩⟩ b,ty:=28 }):=by subst hH1; simp
 have hn1:H1.next=H.next+1:=by subst hH1; simp
 have hf1:FxOk H1.fx:=by subst hH1; exact hfx
 have hb1:=hb.mono hs1
 clear hH1
 with_reducible refine (uc ⟨⟨⟨_,_⟩⟩,⟨_,_⟩,⟨_,_⟩⟩ b _ hb1).go ?_
 simp
 cases hsh:nw b
 ·simp
  refine (cx hf1).go ?_
  simp
  exact hs1
 obtain ⟨h15,h14,h8,h4⟩:=qv hsh
 simp [k0]
 with_reducible refine (aen (l:=⟨⟨⟨_,_⟩⟩,⟨_,_⟩,⟨_,_⟩⟩) hb1 day).go ?_
 simp (disch:=omega) [k0]
 refine (aac hb1 day).fx.mono ?_
 rintro x H3 ⟨⟨s3,w,rfl,hw⟩,f3⟩
 have k3:=(s3.2 H.next (by omega)).trans k0
 have hn3:=s3.1
 have hf3:FxOk H3.fx:=by rw [f3]; exact hf1
 have hs3:=hs1.trans s3
 have hb3:=hb.mono hs3
 simp (disch:=omega) [k3]
 with_reducible refine (py ⟨⟨⟨_,_⟩⟩,⟨_,_⟩,⟨_,_⟩⟩ b _ hb3 (by omega)).go ?_
 simp
 have bad:∀n:Int,n≠0→im b day true=.err n→∃a2 q2,w=.slice a2 0 q2∧tg b (im b day true)=(0,0,n)∧(ml (im b day true)).2=n:=fun n hn ho=>by
  rw [ho] at hw
  obtain ⟨a2,q2,e2,_⟩:=hw
  exact ⟨a2,q2,e2,by rw [ho]; rfl,by rw [ho]; rfl⟩
 cases hB:aq b
 ·obtain ⟨a2,q2,rfl,e1,e2⟩:=bad 2 (by decide) (oy (by simp [fz,hB]))
  simp [e1,e2]
  refine (cx hf3).go ?_
  simp
  exact hs3
 simp
 refine (sq _ _).go ?_
 simp
 cases hd:fu day
 ·obtain ⟨a2,q2,rfl,e1,e2⟩:=bad 2 (by decide) (oy (by simp [fz,hd]))
  simp [e1,e2]
  refine (cx hf3).go ?_
  simp
  exact hs3
 simp (disch:=omega) [k3]
 with_reducible refine (wm ⟨⟨⟨_,_⟩⟩,⟨_,_⟩,⟨_,_⟩⟩ b _ hb3 hsh).go ?_
 simp
 cases hR:nt b
 ·obtain ⟨a2,q2,rfl,e1,e2⟩:=bad 7 (by decide) (qq hB hR hd rfl)
  simp [e1,e2]
  refine (cx hf3).go ?_
  simp
  exact hs3
 obtain ⟨_,hwr⟩:=zt hR
 obtain ⟨s,hs⟩:=yr hB hwr day
 have ho:=zo hB hwr hs hd (ok:=true) rfl
 have hsu:=aaf hB
 rw [ho] at hw ⊢
 simp (disch:=omega) [k3,tg,ml]
 refine (ag9 hb3 hB (h4 hB) hs).fx.mono ?_
 rintro x H4 ⟨⟨s4,N,sg,O,hN,rfl,hS,hWf,hWg⟩,f4⟩
 have hf4:FxOk H4.fx:=by rw [f4]; exact hf3
 have hs4:=hs3.trans s4
 obtain ⟨a2,q2,rfl,hE2⟩:=hw.sub s4
 obtain ⟨v1,v2,vl,vo,vg,va',vw,vb,vd,hS,_⟩:=hS
 have hg:=hS.g
 have hsl:=hS.sgl.2
 have hlen:=hWf.len
 have hub:=aho b s.grants
 have hfe:=ain hsu (s:=s) (by omega)
 have hwu:IntKind.i64.wrap (b.supply - mr b s)=ads b s:=by rw [hfe]; unfold ads; rw [aj _ (by omega) (by omega)]; omega
 obtain ⟨ao,fo,rfl,hEo⟩:=hS.waits.elems (fun _=>rfl)
 simp only [ml] at hE2 ⊢
 simp
 refine (afj hS hWg (by omega)).go ?_
 rw [hwu]
 simp
 refine (t6 hS hWg (by omega) hsu).go ?_
 simp (disch:=omega) [hg]
 refine (nv s.waits s.waits (by omega) _ _ _ _ _ hE2 hEo).go ?_
 simp
 refine (cx hf4).go ?_
 simp
 exact hs4
end Go.Gm.Tryz
end
section
namespace Go.Gm.Tryz
open Go.Proofs Go.Proofs.YtmnfgajihkfahaaGreatDoor Go.RowKit
theorem zg:LawSpec Rows.grantWatersSpec 2:=⟨rfl,fun H xs h=>by
 match xs,h with
 | [_,_],_=>rfl⟩
set_option maxRecDepth 100000 in
theorem vt (os:Os) (started:os.Started) (H:Type) (enc:TypeId×Value→H):
  ReturnsInHanded {} Tryz.checked os 8 .any (fun w args=>(Rows.grantWatersSpec.pre enc Tryz.prog Tryz.f8 [] false w args∧laidMetH Tryz.prog li w)∧sizedMet enc Tryz.prog Tryz.f8 (OpenSpec.ofChange Rows.grantWatersSpec) false w args)
   (Rows.grantWatersSpec.post enc Tryz.prog Tryz.f8 false true false false):=by
 refine fk (C:=Tryz.checked) (X:=fun w _=>laidMetH Tryz.prog li w) (fun _ _ _ hh h=>h.of_heap hh) own started (by kernel_rfl) Tryz.func8
  (ChangeSpec.witness_shaped (enc:=enc) (C:=Tryz.checked) (os:=os) (X:=fun w _=>laidMetH Tryz.prog li w) false (World.laidAll Tryz.prog os li) #[.agg #[.slice none 0 0,.int .i64 0,.int .i64 0,.int .i64 0,.int .i64 0,.slice none 0 0,.slice none 0 0],.int .i64 0] 9 (World.laidAll_os _ _ _)
   (World.shaped_of_ZipB (by kernel_rfl) (by kernel_rfl)) (by kernel_rfl) (by kernel_rfl) (by kernel_rfl)
   (by rw [MakeChecks.laidMetH_plain _ _ _ (by kernel_rfl)]; exact laidMet_laidAll _ (by kernel_rfl) (by kernel_rfl))) ?_
 intro W base args ds gs before hsh hval _ hw hL
 obtain ⟨fx,hfx,hok,hW⟩:=anh hL hsh
 refine tw (P:=Tryz.prog) (fn:=Tryz.f8) (ds:= [sh,dI]) abw (by rw [Tryz.params8]; exact .cons abt (.cons rz .nil)) (by kernel_rfl) Tryz.underlying4 (by
  rw [Tryz.params8]
  intro t ht
  have hall:([28,3].all fun t=>Tryz.prog.readableRec t&&decide (t<Tryz.prog.types.size))=true:=by kernel_rfl
  have:=List.all_eq_true.1 hall t (by simpa using ht)
  simpa using this) zg hW hfx ?_ hval hw
 intro G gss hG hLie
 have hfG:FxOk G.fx:=by rw [hG]; exact hok
 cases hLie with
 |cons h1 h2=>
 cases h2 with
 |cons h2 h3=>
 cases h3
 obtain ⟨l,b,e,hb,_,_,k3⟩:=yb h1
 obtain ⟨n,rfl⟩:=ew h2
 show ay Tryz.prog 8 [ahz sh _,vi n] G _
 rw [e]
 exact (amq hb hfG n).mono fun x _ h=>h.1
theorem ui:(Rows.grantWatersRow.inPlace==Tryz.prog.inPlace 8)=true:=by kernel_rfl
theorem aba:(Rows.grantWatersRow.unfollowed==Tryz.prog.unfollowed 8)=true:=by kernel_rfl
theorem aa9:(Rows.grantWatersRow.recurses==Tryz.prog.recurses 8)=true:=by kernel_rfl
theorem xv:(Rows.grantWatersRow.named==Tryz.prog.varsNamed 8)=true:=by kernel_rfl
theorem vr:joinedFacts Tryz.prog 8 Tryz.f8 Rows.grantWatersSpec Rows.grantWatersRow=true:=by
 unfold joinedFacts
 exact am (am (am (am (am (am (am (am (am (am (am (am (am (am (am (am (am (am (am (am (am (am (am (am (am (am (am (am (am (am (am (by kernel_rfl) (by kernel_rfl)) (by kernel_rfl)) (by kernel_rfl)) (by kernel_rfl)) (by kernel_rfl)) (by kernel_rfl)) (by kernel_rfl)) (by kernel_rfl)) ui) aba) aa9) xv) (by kernel_rfl)) (by kernel_rfl)) (by kernel_rfl)) (by kernel_rfl)) (by kernel_rfl)) (by kernel_rfl)) (by kernel_rfl)) (by kernel_rfl)) (by kernel_rfl)) (by kernel_rfl)) (by kernel_rfl)) (by kernel_rfl)) af9) (by rw [agc]; exact beq_self_eq_true _)) (by rw [anr]; exact beq_self_eq_true _)) (by kernel_rfl)) (by kernel_rfl)) (by kernel_rfl)) (by kernel_rfl)
theorem xu:Rows.GrantWatersSaid:=
 OpenClaim.holds_of_wide 8 Tryz.f8 rfl rfl rfl rfl rfl rfl rfl ⟨rfl,rfl,rfl,rfl,rfl⟩ rfl rfl rfl rfl rfl (by kernel_rfl) Tryz.func8 vr
  (of_decide_eq_true (by kernel_rfl)) (by unfold Func.isWrapper; first|(rw [if_pos (by decide+kernel)]; kernel_rfl)|(rw [if_neg (by decide+kernel)]; exact ⟨rfl,rfl⟩))
  (fun os started H enc _=>vt os started H enc)
end Go.Gm.Tryz
namespace Go.Proofs.YtmnfgajihkfahaaGreatDoor
open Go.Gm.Tryz
set_option maxRecDepth 100000 in
theorem grantWaters_card_holds:Rows.GrantWatersCardSaid:=
 Claim7.holds_tied_plain_at .later [] [.data,.data,.data,.data,.pinned] true (true, "c50a2473247fd563652536c5189614d6c43fc7c925362f406516d21693885498") true
  xu (fun _ h=>by cases h) (by kernel_rfl) (fun _ h=>by cases h) grantWaters_row_tie rfl ⟨rfl,rfl⟩ anq rfl
  (fun f fn hf hfn=>by
   obtain rfl:f=8:=Option.some.inj ((show Tryz.prog.funcNamed "quinaria/quinarialaw06.GrantWaters"=some 8 by kernel_rfl).symm.trans hf)|>.symm
   obtain rfl:fn=Tryz.f8:=(Option.some.inj (Tryz.func8.symm.trans hfn)).symm
   exact ⟨agv,fun j t ht=>by
    rw [Tryz.params8] at ht
    have hm:t∈ [28,3]:=by simpa using Array.mem_of_getElem? ht
    have hall:([28,3].all fun u=> !Tryz.prog.wantsStandIn u)=true:=by kernel_rfl
    exact (show Tryz.prog.wantsStandIn t=false by simpa using List.all_eq_true.1 hall t hm)⟩)
  (by kernel_rfl)
end Go.Proofs.YtmnfgajihkfahaaGreatDoor
end
end
