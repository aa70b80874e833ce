/- The function GrantWrongs, called with any register, returns true, and never panics: by the model of the language, for every input that the card fits, and under the card's conditions alone. -/
import Derived.Test.YtmnfgajihkfahaaGreatDoorBa6
import Derived.Test.YtmnfgajihkfahaaGreatDoorTie
noncomputable section
section
namespace Go.Gm.Tryz
open Go.Proofs
theorem qv {b:Book} (h:nw b=true):b.tbl.rows.length≤15∧b.events.length≤14∧b.owners.length≤8∧(aq b=true→b.tbl.rows.length≤4):=by
 have h':=h
 simp [nw] at h'
 refine ⟨by omega,by omega,by omega,fun hB=>?_⟩
 have ht:=xj hB
 simp [ht] at h'
 omega
end Go.Gm.Tryz
end
section
namespace Go.Gm.Tryz
open Go.Proofs
theorem amy {H:GH} {l:BLoc} {b:Book} (hb:BookIn H l b) (hfx:FxOk H.fx):C 18 [dl l b] H (.bool true) H:=by
 refine au tok mix azg (F:=g18) (c:=_) rfl (n:=65) rfl (rs:= [.tmp 2]) rfl (ac rfl) ?_
 rcases l with ⟨⟨⟨ra,rf⟩⟩,⟨oa,of'⟩,⟨va,vf⟩⟩
 simp
 generalize hH1:GH.push H _=H1
 have hs1:Sub H H1:=by subst hH1; exact Sub.push (.refl H) _
 have k0:H1.get H.next=some (.arr { cells:=bq ⟨⟨⟨ra,rf⟩⟩,⟨oa,of'⟩,⟨va,vf⟩⟩ b,ty:=28 }):=by subst hH1; simp
 have hn1:H1.next=H.next+1:=by subst hH1; simp
 have hf1:FxOk H1.fx:=by subst hH1; exact hfx
 have hb1:=hb.mono hs1
 clear hH1
 with_reducible refine (uc ⟨⟨⟨_,_⟩⟩,⟨_,_⟩,⟨_,_⟩⟩ b _ hb1).go ?_
 simp
 cases hsh:nw b
 ·simp
  refine (cx hf1).go ?_
  simp
  exact hs1
 obtain ⟨h15,h14,h8,h4⟩:=qv hsh
 simp [k0]
 with_reducible refine (an7 (l:=⟨⟨⟨_,_⟩⟩,⟨_,_⟩,⟨_,_⟩⟩) hb1).go ?_
 simp [k0]
 with_reducible refine (aeo (l:=⟨⟨⟨_,_⟩⟩,⟨_,_⟩,⟨_,_⟩⟩) hb1).go ?_
 simp [k0]
 with_reducible refine (py ⟨⟨⟨_,_⟩⟩,⟨_,_⟩,⟨_,_⟩⟩ b _ hb1 (by omega)).go ?_
 simp
 cases hB:aq b
 ·have hwr:tk b=(0,2):=by unfold tk; rw [hB]; rfl
  simp [hwr]
  refine (cx hf1).go ?_
  simp
  exact hs1
 ·rw [aqh hB]
  simp [k0]
  with_reducible refine (ade ⟨⟨⟨_,_⟩⟩,⟨_,_⟩,⟨_,_⟩⟩ b _ hb1 hB (h4 hB)).go ?_
  simp
  cases hw:dw b with
  |none=>
   simp
   refine (cx hf1).go ?_
   simp
   exact hs1
  |some n=>
   have:=u5 hw
   have hn:¬n<0:=by omega
   simp [hn]
   refine (cx hf1).go ?_
   simp
   exact hs1
end Go.Gm.Tryz
end
section
namespace Go.Gm.Tryz
open Go.Proofs Go.Proofs.YtmnfgajihkfahaaGreatDoor Go.RowKit
theorem zh:LawSpec Rows.grantWrongsSpec 1:=⟨rfl,fun H xs h=>by
 match xs,h with
 | [_],_=>rfl⟩
set_option maxRecDepth 100000 in
theorem vy (os:Os) (started:os.Started) (H:Type) (enc:TypeId×Value→H):
  ReturnsInHanded {} Tryz.checked os 18 .any (fun w args=>(Rows.grantWrongsSpec.pre enc Tryz.prog Tryz.f18 [] false w args∧laidMetH Tryz.prog li w)∧sizedMet enc Tryz.prog Tryz.f18 (OpenSpec.ofChange Rows.grantWrongsSpec) false w args)
   (Rows.grantWrongsSpec.post enc Tryz.prog Tryz.f18 false true false false):=by
 refine fk (C:=Tryz.checked) (X:=fun w _=>laidMetH Tryz.prog li w) (fun _ _ _ hh h=>h.of_heap hh) own started (by kernel_rfl) Tryz.func18
  (ChangeSpec.witness_shaped (enc:=enc) (C:=Tryz.checked) (os:=os) (X:=fun w _=>laidMetH Tryz.prog li w) false (World.laidAll Tryz.prog os li) #[.agg #[.slice none 0 0,.int .i64 0,.int .i64 0,.int .i64 0,.int .i64 0,.slice none 0 0,.slice none 0 0]] 9 (World.laidAll_os _ _ _)
   (World.shaped_of_ZipB (by kernel_rfl) (by kernel_rfl)) (by kernel_rfl) (by kernel_rfl) (by kernel_rfl)
   (by rw [MakeChecks.laidMetH_plain _ _ _ (by kernel_rfl)]; exact laidMet_laidAll _ (by kernel_rfl) (by kernel_rfl))) ?_
 intro W base args ds gs before hsh hval _ hw hL
 obtain ⟨fx,hfx,hok,hW⟩:=anh hL hsh
 refine tw (P:=Tryz.prog) (fn:=Tryz.f18) (ds:= [sh]) abw (by rw [Tryz.params18]; exact .cons abt .nil) (by kernel_rfl) Tryz.underlying4 (by
  rw [Tryz.params18]
  intro t ht
  have hall:([28].all fun t=>Tryz.prog.readableRec t&&decide (t<Tryz.prog.types.size))=true:=by kernel_rfl
  have:=List.all_eq_true.1 hall t (by simpa using ht)
  simpa using this) zh hW hfx ?_ hval hw
 intro G gss hG hLie
 have hfG:FxOk G.fx:=by rw [hG]; exact hok
 cases hLie with
 |cons h1 h2=>
 cases h2
 obtain ⟨l,b,e,hb,_,_,k3⟩:=yb h1
 show ay Tryz.prog 18 [ahz sh _] G _
 rw [e]
 exact (amy hb hfG).mono fun x _ h=>h.1
theorem uj:(Rows.grantWrongsRow.inPlace==Tryz.prog.inPlace 18)=true:=by kernel_rfl
theorem abc:(Rows.grantWrongsRow.unfollowed==Tryz.prog.unfollowed 18)=true:=by kernel_rfl
theorem abb:(Rows.grantWrongsRow.recurses==Tryz.prog.recurses 18)=true:=by kernel_rfl
theorem xx:(Rows.grantWrongsRow.named==Tryz.prog.varsNamed 18)=true:=by kernel_rfl
theorem vu:joinedFacts Tryz.prog 18 Tryz.f18 Rows.grantWrongsSpec Rows.grantWrongsRow=true:=by
 unfold joinedFacts
 exact am (am (am (am (am (am (am (am (am (am (am (am (am (am (am (am (am (am (am (am (am (am (am (am (am (am (am (am (am (am (am (by kernel_rfl) (by kernel_rfl)) (by kernel_rfl)) (by kernel_rfl)) (by kernel_rfl)) (by kernel_rfl)) (by kernel_rfl)) (by kernel_rfl)) (by kernel_rfl)) uj) abc) abb) xx) (by kernel_rfl)) (by kernel_rfl)) (by kernel_rfl)) (by kernel_rfl)) (by kernel_rfl)) (by kernel_rfl)) (by kernel_rfl)) (by kernel_rfl)) (by kernel_rfl)) (by kernel_rfl)) (by kernel_rfl)) (by kernel_rfl)) af9) (by rw [agc]; exact beq_self_eq_true _)) (by rw [anr]; exact beq_self_eq_true _)) (by kernel_rfl)) (by kernel_rfl)) (by kernel_rfl)) (by kernel_rfl)
theorem xw:Rows.GrantWrongsSaid:=
 OpenClaim.holds_of_wide 18 Tryz.f18 rfl rfl rfl rfl rfl rfl rfl ⟨rfl,rfl,rfl,rfl,rfl⟩ rfl rfl rfl rfl rfl (by kernel_rfl) Tryz.func18 vu
  (of_decide_eq_true (by kernel_rfl)) (by unfold Func.isWrapper; first|(rw [if_pos (by decide+kernel)]; kernel_rfl)|(rw [if_neg (by decide+kernel)]; exact ⟨rfl,rfl⟩))
  (fun os started H enc _=>vy os started H enc)
end Go.Gm.Tryz
namespace Go.Proofs.YtmnfgajihkfahaaGreatDoor
open Go.Gm.Tryz
set_option maxRecDepth 100000 in
theorem grantWrongs_card_holds:Rows.GrantWrongsCardSaid:=
 Claim7.holds_tied_plain_at .later [] [.data,.data,.data,.data,.pinned] true (true, "c50a2473247fd563652536c5189614d6c43fc7c925362f406516d21693885498") true
  xw (fun _ h=>by cases h) (by kernel_rfl) (fun _ h=>by cases h) grantWrongs_row_tie rfl ⟨rfl,rfl⟩ anq rfl
  (fun f fn hf hfn=>by
   obtain rfl:f=18:=Option.some.inj ((show Tryz.prog.funcNamed "quinaria/quinarialaw06.GrantWrongs"=some 18 by kernel_rfl).symm.trans hf)|>.symm
   obtain rfl:fn=Tryz.f18:=(Option.some.inj (Tryz.func18.symm.trans hfn)).symm
   exact ⟨agv,fun j t ht=>by
    rw [Tryz.params18] at ht
    have hm:t∈ [28]:=by simpa using Array.mem_of_getElem? ht
    have hall:([28].all fun u=> !Tryz.prog.wantsStandIn u)=true:=by kernel_rfl
    exact (show Tryz.prog.wantsStandIn t=false by simpa using List.all_eq_true.1 hall t hm)⟩)
  (by kernel_rfl)
end Go.Proofs.YtmnfgajihkfahaaGreatDoor
end
end
