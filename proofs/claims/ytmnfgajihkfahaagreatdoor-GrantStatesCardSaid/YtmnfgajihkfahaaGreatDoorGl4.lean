/- The function GrantStates, called with any register and any day, returns true, and never panics: by the model of the language, for every input that the card fits, and under the card's conditions alone. -/
import Derived.Test.YtmnfgajihkfahaaGreatDoorBa6
import Derived.Test.YtmnfgajihkfahaaGreatDoorTie
noncomputable section
section
namespace Go.Gm.Tryz
open Go.Proofs
theorem zt {b:Book} (h:nt b=true):aq b=true∧dw b=none:=by
 simp only [nt,Bool.and_eq_true,Option.isNone_iff_eq_none] at h
 exact h
theorem qv {b:Book} (h:nw b=true):b.tbl.rows.length≤15∧b.events.length≤14∧b.owners.length≤8∧(aq b=true→b.tbl.rows.length≤4):=by
 have h':=h
 simp [nw] at h'
 refine ⟨by omega,by omega,by omega,fun hB=>?_⟩
 have ht:=xj hB
 simp [ht] at h'
 omega
theorem qq {b:Book} (hB:aq b=true) (h:nt b=false) {d:Int} (hd:fu d=true) {ok:Bool} (hk:ok=true):im b d ok=.err 7:=by
 cases hw:dw b with
 |none=>simp [nt,hB,hw] at h
 |some n=>exact apd hB hw hd hk
theorem aml {H:GH} {l:BLoc} {b:Book} (hb:BookIn H l b) (hfx:FxOk H.fx) (day:Int):C 4 [dl l b,vi day] H (.bool true) H:=by
 refine au tok mix a92 (F:=g4) (c:=_) rfl (n:=89) rfl (rs:= [.tmp 4]) rfl (ac rfl) ?_
 rcases l with ⟨⟨⟨ra,rf⟩⟩,⟨oa,of'⟩,⟨va,vf⟩⟩
 simp
 generalize hH1:GH.push H _=H1
 have hs1:Sub H H1:=by subst hH1; exact Sub.push (.refl H) _
 have k0:H1.get H.next=some (.arr { cells:=bq ⟨⟨⟨ra,rf⟩⟩,⟨oa,of'⟩,⟨va,vf⟩⟩ b,ty:=28 }):=by subst hH1; simp
 have hn1:H1.next=H.next+1:=by subst hH1; simp
 have hf1:FxOk H1.fx:=by subst hH1; exact hfx
 have hb1:=hb.mono hs1
 clear hH1
 with_reducible refine (uc ⟨⟨⟨_,_⟩⟩,⟨_,_⟩,⟨_,_⟩⟩ b _ hb1).go ?_
 simp
 cases hsh:nw b
 ·simp
  refine (cx hf1).go ?_
  simp
  exact hs1
 obtain ⟨h15,h14,h8,h4⟩:=qv hsh
 simp [k0]
 refine (ab5 hb1 day).fx.mono ?_
 rintro x H2 ⟨⟨s2,v,rfl,hv⟩,f2⟩
 have k2:=(s2.2 H.next (by omega)).trans k0
 have hn2:=s2.1
 simp (disch:=omega) [k2]
 refine (aaa (hb1.mono s2) day).fx.mono ?_
 rintro x H3 ⟨⟨s3,w,rfl,hw⟩,f3⟩
 have k3:=(s3.2 H.next (by omega)).trans k2
 have hn3:=s3.1
 have hf3:FxOk H3.fx:=by rw [f3,f2]; exact hf1
 have hs3:=hs1.trans (s2.trans s3)
 have hb3:=hb.mono hs3
 have hv3:=hv.sub s3
 simp (disch:=omega) [k3]
 with_reducible refine (py ⟨⟨⟨_,_⟩⟩,⟨_,_⟩,⟨_,_⟩⟩ b _ hb3 (by omega)).go ?_
 simp
 have bad:∀n:Int,n≠0→im b day true=.err n→∃a1 q1 a2 q2,v=.slice a1 0 q1∧w=.slice a2 0 q2∧(o8 (im b day true)).2=n∧(me (im b day true)).2=n:=fun n hn ho=>by
  rw [ho] at hv hw
  obtain ⟨a1,q1,e1,_⟩:=hv
  obtain ⟨a2,q2,e2,_⟩:=hw
  exact ⟨a1,q1,a2,q2,e1,e2,by rw [ho]; rfl,by rw [ho]; rfl⟩
 cases hB:aq b
 ·obtain ⟨a1,q1,a2,q2,rfl,rfl,e1,e2⟩:=bad 2 (by decide) (oy (by simp [fz,hB]))
  simp [e1,e2]
  refine (cx hf3).go ?_
  simp
  exact hs3
 simp
 refine (sq _ _).go ?_
 simp
 cases hd:fu day
 ·obtain ⟨a1,q1,a2,q2,rfl,rfl,e1,e2⟩:=bad 2 (by decide) (oy (by simp [fz,hd]))
  simp [e1,e2]
  refine (cx hf3).go ?_
  simp
  exact hs3
 simp (disch:=omega) [k3]
 with_reducible refine (wm ⟨⟨⟨_,_⟩⟩,⟨_,_⟩,⟨_,_⟩⟩ b _ hb3 hsh).go ?_
 simp
 cases hR:nt b
 ·obtain ⟨a1,q1,a2,q2,rfl,rfl,e1,e2⟩:=bad 7 (by decide) (qq hB hR hd rfl)
  simp [e1,e2]
  refine (cx hf3).go ?_
  simp
  exact hs3
 obtain ⟨_,hwr⟩:=zt hR
 obtain ⟨s,hs⟩:=yr hB hwr day
 have ho:=zo hB hwr hs hd (ok:=true) rfl
 rw [ho] at hv3 hw ⊢
 simp (disch:=omega) [k3,o8,me]
 refine (ag9 hb3 hB (h4 hB) hs).fx.mono ?_
 rintro x H4 ⟨⟨s4,N,sg,O,hN,rfl,hS,hWf,hWg⟩,f4⟩
 have hf4:FxOk H4.fx:=by rw [f4]; exact hf3
 have hs4:=hs3.trans s4
 obtain ⟨a1,q1,rfl,hE1⟩:=hv3.sub s4
 obtain ⟨a2,q2,rfl,hE2⟩:=hw.sub s4
 obtain ⟨v1,v2,vl,vo,vg,va',vw,vb,vd,hS,_⟩:=hS
 have hg:=hS.g
 have hsl:=hS.sgl.2
 have hlen:=hWf.len
 have hown:=hWf.own
 obtain ⟨ag,fg,rfl,hEg⟩:=hS.grants.elems (fun _=>rfl)
 obtain ⟨ao,fo,rfl,hEo⟩:=hS.owners.elems (fun _=>rfl)
 simp only [o8,me] at hE1 hE2 ⊢
 simp (disch:=omega) [hg]
 refine (sv s.grants s.grants (by omega) _ _ _ _ _ hE1 hEg).go ?_
 simp (disch:=omega) [hg]
 refine (nv s.owners s.owners (by omega) _ _ _ _ _ hE2 hEo).go ?_
 simp
 refine (cx hf4).go ?_
 simp
 exact hs4
end Go.Gm.Tryz
end
section
namespace Go.Gm.Tryz
open Go.Proofs Go.Proofs.YtmnfgajihkfahaaGreatDoor Go.RowKit
theorem zf:LawSpec Rows.grantStatesSpec 2:=⟨rfl,fun H xs h=>by
 match xs,h with
 | [_,_],_=>rfl⟩
set_option maxRecDepth 100000 in
theorem vq (os:Os) (started:os.Started) (H:Type) (enc:TypeId×Value→H):
  ReturnsInHanded {} Tryz.checked os 4 .any (fun w args=>(Rows.grantStatesSpec.pre enc Tryz.prog Tryz.f4 [] false w args∧laidMetH Tryz.prog li w)∧sizedMet enc Tryz.prog Tryz.f4 (OpenSpec.ofChange Rows.grantStatesSpec) false w args)
   (Rows.grantStatesSpec.post enc Tryz.prog Tryz.f4 false true false false):=by
 refine fk (C:=Tryz.checked) (X:=fun w _=>laidMetH Tryz.prog li w) (fun _ _ _ hh h=>h.of_heap hh) own started (by kernel_rfl) Tryz.func4
  (ChangeSpec.witness_shaped (enc:=enc) (C:=Tryz.checked) (os:=os) (X:=fun w _=>laidMetH Tryz.prog li w) false (World.laidAll Tryz.prog os li) #[.agg #[.slice none 0 0,.int .i64 0,.int .i64 0,.int .i64 0,.int .i64 0,.slice none 0 0,.slice none 0 0],.int .i64 0] 9 (World.laidAll_os _ _ _)
   (World.shaped_of_ZipB (by kernel_rfl) (by kernel_rfl)) (by kernel_rfl) (by kernel_rfl) (by kernel_rfl)
   (by rw [MakeChecks.laidMetH_plain _ _ _ (by kernel_rfl)]; exact laidMet_laidAll _ (by kernel_rfl) (by kernel_rfl))) ?_
 intro W base args ds gs before hsh hval _ hw hL
 obtain ⟨fx,hfx,hok,hW⟩:=anh hL hsh
 refine tw (P:=Tryz.prog) (fn:=Tryz.f4) (ds:= [sh,dI]) abw (by rw [Tryz.params4]; exact .cons abt (.cons rz .nil)) (by kernel_rfl) Tryz.underlying4 (by
  rw [Tryz.params4]
  intro t ht
  have hall:([28,3].all fun t=>Tryz.prog.readableRec t&&decide (t<Tryz.prog.types.size))=true:=by kernel_rfl
  have:=List.all_eq_true.1 hall t (by simpa using ht)
  simpa using this) zf hW hfx ?_ hval hw
 intro G gss hG hLie
 have hfG:FxOk G.fx:=by rw [hG]; exact hok
 cases hLie with
 |cons h1 h2=>
 cases h2 with
 |cons h2 h3=>
 cases h3
 obtain ⟨l,b,e,hb,_,_,k3⟩:=yb h1
 obtain ⟨n,rfl⟩:=ew h2
 show ay Tryz.prog 4 [ahz sh _,vi n] G _
 rw [e]
 exact (aml hb hfG n).mono fun x _ h=>h.1
theorem uh:(Rows.grantStatesRow.inPlace==Tryz.prog.inPlace 4)=true:=by kernel_rfl
theorem aa8:(Rows.grantStatesRow.unfollowed==Tryz.prog.unfollowed 4)=true:=by kernel_rfl
theorem aa5:(Rows.grantStatesRow.recurses==Tryz.prog.recurses 4)=true:=by kernel_rfl
theorem xr:(Rows.grantStatesRow.named==Tryz.prog.varsNamed 4)=true:=by kernel_rfl
theorem vm:joinedFacts Tryz.prog 4 Tryz.f4 Rows.grantStatesSpec Rows.grantStatesRow=true:=by
 unfold joinedFacts
 exact am (am (am (am (am (am (am (am (am (am (am (am (am (am (am (am (am (am (am (am (am (am (am (am (am (am (am (am (am (am (am (by kernel_rfl) (by kernel_rfl)) (by kernel_rfl)) (by kernel_rfl)) (by kernel_rfl)) (by kernel_rfl)) (by kernel_rfl)) (by kernel_rfl)) (by kernel_rfl)) uh) aa8) aa5) xr) (by kernel_rfl)) (by kernel_rfl)) (by kernel_rfl)) (by kernel_rfl)) (by kernel_rfl)) (by kernel_rfl)) (by kernel_rfl)) (by kernel_rfl)) (by kernel_rfl)) (by kernel_rfl)) (by kernel_rfl)) (by kernel_rfl)) af9) (by rw [agc]; exact beq_self_eq_true _)) (by rw [anr]; exact beq_self_eq_true _)) (by kernel_rfl)) (by kernel_rfl)) (by kernel_rfl)) (by kernel_rfl)
theorem xq:Rows.GrantStatesSaid:=
 OpenClaim.holds_of_wide 4 Tryz.f4 rfl rfl rfl rfl rfl rfl rfl ⟨rfl,rfl,rfl,rfl,rfl⟩ rfl rfl rfl rfl rfl (by kernel_rfl) Tryz.func4 vm
  (of_decide_eq_true (by kernel_rfl)) (by unfold Func.isWrapper; first|(rw [if_pos (by decide+kernel)]; kernel_rfl)|(rw [if_neg (by decide+kernel)]; exact ⟨rfl,rfl⟩))
  (fun os started H enc _=>vq os started H enc)
end Go.Gm.Tryz
namespace Go.Proofs.YtmnfgajihkfahaaGreatDoor
open Go.Gm.Tryz
set_option maxRecDepth 100000 in
theorem grantStates_card_holds:Rows.GrantStatesCardSaid:=
 Claim7.holds_tied_plain_at .later [] [.data,.data,.data,.data,.pinned] true (true, "c50a2473247fd563652536c5189614d6c43fc7c925362f406516d21693885498") true
  xq (fun _ h=>by cases h) (by kernel_rfl) (fun _ h=>by cases h) grantStates_row_tie rfl ⟨rfl,rfl⟩ anq rfl
  (fun f fn hf hfn=>by
   obtain rfl:f=4:=Option.some.inj ((show Tryz.prog.funcNamed "quinaria/quinarialaw06.GrantStates"=some 4 by kernel_rfl).symm.trans hf)|>.symm
   obtain rfl:fn=Tryz.f4:=(Option.some.inj (Tryz.func4.symm.trans hfn)).symm
   exact ⟨agv,fun j t ht=>by
    rw [Tryz.params4] at ht
    have hm:t∈ [28,3]:=by simpa using Array.mem_of_getElem? ht
    have hall:([28,3].all fun u=> !Tryz.prog.wantsStandIn u)=true:=by kernel_rfl
    exact (show Tryz.prog.wantsStandIn t=false by simpa using List.all_eq_true.1 hall t hm)⟩)
  (by kernel_rfl)
end Go.Proofs.YtmnfgajihkfahaaGreatDoor
end
end
