/- The function TopDivide, called with any register, any day, any grant, any units and any person, returns true, and never panics: by the model of the language, for every input that the row fits, and under the row's conditions alone. -/
import Derived.Test.YtbafdnglbblodaaGreatDa4
import Derived.JoinedOf
noncomputable section
section
namespace Go.Gm.Tryz
open Go.Proofs
section
variable {H:GH} {N:Nat} {l:BLoc} {b:Book} {sg:Nat} {s:Stand} {O:Nat→Prop} {bk dy:List Int} {v1 v2 vl vo vg va vw vb vd:Value}
theorem rGoes1 (h:RIn H N l b sg s bk dy v1 v2 vl vo vg va vw vb vd) (hw:Wf b s) (hG:Wg b s) (hsu:0≤b.supply∧b.supply≤10000) {e:Ev} (k1:e.kind=1) (he:EvOk b s e) (hev:isEventB b e=true):C 82 [.pointer (some (ga sg 0 0)),evV e] H (.bool (goesB b s e)) H:=by
 rcases l with ⟨⟨⟨ra,rf⟩⟩,⟨oa,of'⟩,⟨va',vf'⟩⟩
 refine con_wp tok mix fok82 (F:=g82) (c:=_) rfl (n:=274) rfl (rs:= [.tmp 4]) rfl (anch_closed rfl) ?_
 have h1:=h.sub (Sub.push (.refl H) (.arr { cells:= [vi e.kind,vi e.day,vi e.person,vi e.other,vi e.estate,vi e.grant,vi e.system,vi e.units],ty:=56 }))
 have hge:(H.push (.arr { cells:= [vi e.kind,vi e.day,vi e.person,vi e.other,vi e.estate,vi e.grant,vi e.system,vi e.units],ty:=56 })).get H.next=some (.arr { cells:= [vi e.kind,vi e.day,vi e.person,vi e.other,vi e.estate,vi e.grant,vi e.system,vi e.units],ty:=56 }):=by simp
 have hs1:Sub H (H.push (.arr { cells:= [vi e.kind,vi e.day,vi e.person,vi e.other,vi e.estate,vi e.grant,vi e.system,vi e.units],ty:=56 })):=Sub.push (.refl H) _
 have hn1:H.next<(H.push (.arr { cells:= [vi e.kind,vi e.day,vi e.person,vi e.other,vi e.estate,vi e.grant,vi e.system,vi e.units],ty:=56 })).next:=by simp
 generalize hH1:H.push (.arr { cells:= [vi e.kind,vi e.day,vi e.person,vi e.other,vi e.estate,vi e.grant,vi e.system,vi e.units],ty:=56 })=H1 at*
 have hg:=h1.g
 have hsl:=h1.sgl.2
 have hlen:=hw.len
 have hkk:=he.kind
 obtain ⟨al,fl,rfl,hEl⟩:=h1.lives.elems (fun _=>rfl)
 obtain ⟨ao,fo,rfl,hEo⟩:=h1.owners.elems (fun _=>rfl)
 obtain ⟨ag,fg,rfl,hEg⟩:=h1.grants.elems (fun _=>rfl)
 have hex:=fun (n:Int) (hn:0≤n)=>rowned_con h1 hn
 unfold goesB
 simp (disch:=omega) [hH1,hge]
 have hp:=he.person (by omega) (by omega)
 obtain ⟨a,rfl,hal,hrd⟩:=hEl.at e.person.toNat (by omega)
 have e1:s.lives[e.person.toNat]?.getD false=s.lives[e.person.toNat]:=by rw [List.getElem?_eq_getElem (by omega)]; rfl
 simp (disch:=omega) [k1,hg,hge,hrd]
 refine planG_bool (fun h5=>?_) (fun h5=>?_)
 ·simp (disch:=omega) [h5,hge]
  refine (rfits_con h1 hw hG hsu e (ev_units hev (.inl k1))).go ?_
  simp
  exact hs1
 ·simp [h5]
  exact hs1
theorem rGoes2 (h:RIn H N l b sg s bk dy v1 v2 vl vo vg va vw vb vd) (hw:Wf b s) (hG:Wg b s) (hsu:0≤b.supply∧b.supply≤10000) {e:Ev} (k2:e.kind=2) (he:EvOk b s e) (hev:isEventB b e=true):C 82 [.pointer (some (ga sg 0 0)),evV e] H (.bool (goesB b s e)) H:=by
 rcases l with ⟨⟨⟨ra,rf⟩⟩,⟨oa,of'⟩,⟨va',vf'⟩⟩
 refine con_wp tok mix fok82 (F:=g82) (c:=_) rfl (n:=274) rfl (rs:= [.tmp 4]) rfl (anch_closed rfl) ?_
 have h1:=h.sub (Sub.push (.refl H) (.arr { cells:= [vi e.kind,vi e.day,vi e.person,vi e.other,vi e.estate,vi e.grant,vi e.system,vi e.units],ty:=56 }))
 have hge:(H.push (.arr { cells:= [vi e.kind,vi e.day,vi e.person,vi e.other,vi e.estate,vi e.grant,vi e.system,vi e.units],ty:=56 })).get H.next=some (.arr { cells:= [vi e.kind,vi e.day,vi e.person,vi e.other,vi e.estate,vi e.grant,vi e.system,vi e.units],ty:=56 }):=by simp
 have hs1:Sub H (H.push (.arr { cells:= [vi e.kind,vi e.day,vi e.person,vi e.other,vi e.estate,vi e.grant,vi e.system,vi e.units],ty:=56 })):=Sub.push (.refl H) _
 have hn1:H.next<(H.push (.arr { cells:= [vi e.kind,vi e.day,vi e.person,vi e.other,vi e.estate,vi e.grant,vi e.system,vi e.units],ty:=56 })).next:=by simp
 generalize hH1:H.push (.arr { cells:= [vi e.kind,vi e.day,vi e.person,vi e.other,vi e.estate,vi e.grant,vi e.system,vi e.units],ty:=56 })=H1 at*
 have hg:=h1.g
 have hsl:=h1.sgl.2
 have hlen:=hw.len
 have hkk:=he.kind
 obtain ⟨al,fl,rfl,hEl⟩:=h1.lives.elems (fun _=>rfl)
 obtain ⟨ao,fo,rfl,hEo⟩:=h1.owners.elems (fun _=>rfl)
 obtain ⟨ag,fg,rfl,hEg⟩:=h1.grants.elems (fun _=>rfl)
 have hex:=fun (n:Int) (hn:0≤n)=>rowned_con h1 hn
 unfold goesB
 simp (disch:=omega) [hH1,hge]
 simp (disch:=omega) [k2,hge]
 refine (hex _ he.estate).go ?_
 simp
 refine contG_bool (fun h5=>?_) (fun h5=>?_)
 ·simp (disch:=omega) [h5,hge]
  refine (rfits_con h1 hw hG hsu e (ev_units hev (.inr (.inl k2)))).go ?_
  simp
  exact hs1
 ·simp [h5]
  exact hs1
theorem rGoes3 (h:RIn H N l b sg s bk dy v1 v2 vl vo vg va vw vb vd) (hw:Wf b s) (_hG:Wg b s) (_hsu:0≤b.supply∧b.supply≤10000) {e:Ev} (k3:e.kind=3) (he:EvOk b s e) (_hev:isEventB b e=true):C 82 [.pointer (some (ga sg 0 0)),evV e] H (.bool (goesB b s e)) H:=by
 rcases l with ⟨⟨⟨ra,rf⟩⟩,⟨oa,of'⟩,⟨va',vf'⟩⟩
 refine con_wp tok mix fok82 (F:=g82) (c:=_) rfl (n:=274) rfl (rs:= [.tmp 4]) rfl (anch_closed rfl) ?_
 have h1:=h.sub (Sub.push (.refl H) (.arr { cells:= [vi e.kind,vi e.day,vi e.person,vi e.other,vi e.estate,vi e.grant,vi e.system,vi e.units],ty:=56 }))
 have hge:(H.push (.arr { cells:= [vi e.kind,vi e.day,vi e.person,vi e.other,vi e.estate,vi e.grant,vi e.system,vi e.units],ty:=56 })).get H.next=some (.arr { cells:= [vi e.kind,vi e.day,vi e.person,vi e.other,vi e.estate,vi e.grant,vi e.system,vi e.units],ty:=56 }):=by simp
 have hs1:Sub H (H.push (.arr { cells:= [vi e.kind,vi e.day,vi e.person,vi e.other,vi e.estate,vi e.grant,vi e.system,vi e.units],ty:=56 })):=Sub.push (.refl H) _
 have hn1:H.next<(H.push (.arr { cells:= [vi e.kind,vi e.day,vi e.person,vi e.other,vi e.estate,vi e.grant,vi e.system,vi e.units],ty:=56 })).next:=by simp
 generalize hH1:H.push (.arr { cells:= [vi e.kind,vi e.day,vi e.person,vi e.other,vi e.estate,vi e.grant,vi e.system,vi e.units],ty:=56 })=H1 at*
 have hg:=h1.g
 have hsl:=h1.sgl.2
 have hlen:=hw.len
 have hkk:=he.kind
 obtain ⟨al,fl,rfl,hEl⟩:=h1.lives.elems (fun _=>rfl)
 obtain ⟨ao,fo,rfl,hEo⟩:=h1.owners.elems (fun _=>rfl)
 obtain ⟨ag,fg,rfl,hEg⟩:=h1.grants.elems (fun _=>rfl)
 have hex:=fun (n:Int) (hn:0≤n)=>rowned_con h1 hn
 unfold goesB
 simp (disch:=omega) [hH1,hge]
 have hp:=he.person (by omega) (by omega)
 have ho:=he.other k3
 obtain ⟨a,rfl,hal,hrd⟩:=hEl.at e.person.toNat (by omega)
 have e1:s.lives[e.person.toNat]?.getD false=s.lives[e.person.toNat]:=by rw [List.getElem?_eq_getElem (by omega)]; rfl
 obtain ⟨a',ha',hal',hrd'⟩:=hEl.at e.other.toNat (by omega)
 cases ha'
 have e2:s.lives[e.other.toNat]?.getD false=s.lives[e.other.toNat]:=by rw [List.getElem?_eq_getElem (by omega)]; rfl
 simp (disch:=omega) [k3,hg,hge,hrd]
 refine planG_bool (fun h5=>?_) (fun h5=>?_)
 ·simp (disch:=omega) [h5,hg,hge,hrd']
  refine planG_bool (fun h6=>?_) (fun h6=>?_)
  ·simp (disch:=omega) [h6,hge]
   exact hs1
  ·simp [h6]
   exact hs1
 ·simp [h5]
  exact hs1
theorem rGoes4 (h:RIn H N l b sg s bk dy v1 v2 vl vo vg va vw vb vd) (hw:Wf b s) (_hG:Wg b s) (_hsu:0≤b.supply∧b.supply≤10000) {e:Ev} (k4:e.kind=4) (he:EvOk b s e) (_hev:isEventB b e=true):C 82 [.pointer (some (ga sg 0 0)),evV e] H (.bool (goesB b s e)) H:=by
 rcases l with ⟨⟨⟨ra,rf⟩⟩,⟨oa,of'⟩,⟨va',vf'⟩⟩
 refine con_wp tok mix fok82 (F:=g82) (c:=_) rfl (n:=274) rfl (rs:= [.tmp 4]) rfl (anch_closed rfl) ?_
 have h1:=h.sub (Sub.push (.refl H) (.arr { cells:= [vi e.kind,vi e.day,vi e.person,vi e.other,vi e.estate,vi e.grant,vi e.system,vi e.units],ty:=56 }))
 have hge:(H.push (.arr { cells:= [vi e.kind,vi e.day,vi e.person,vi e.other,vi e.estate,vi e.grant,vi e.system,vi e.units],ty:=56 })).get H.next=some (.arr { cells:= [vi e.kind,vi e.day,vi e.person,vi e.other,vi e.estate,vi e.grant,vi e.system,vi e.units],ty:=56 }):=by simp
 have hs1:Sub H (H.push (.arr { cells:= [vi e.kind,vi e.day,vi e.person,vi e.other,vi e.estate,vi e.grant,vi e.system,vi e.units],ty:=56 })):=Sub.push (.refl H) _
 have hn1:H.next<(H.push (.arr { cells:= [vi e.kind,vi e.day,vi e.person,vi e.other,vi e.estate,vi e.grant,vi e.system,vi e.units],ty:=56 })).next:=by simp
 generalize hH1:H.push (.arr { cells:= [vi e.kind,vi e.day,vi e.person,vi e.other,vi e.estate,vi e.grant,vi e.system,vi e.units],ty:=56 })=H1 at*
 have hg:=h1.g
 have hsl:=h1.sgl.2
 have hlen:=hw.len
 have hkk:=he.kind
 obtain ⟨al,fl,rfl,hEl⟩:=h1.lives.elems (fun _=>rfl)
 obtain ⟨ao,fo,rfl,hEo⟩:=h1.owners.elems (fun _=>rfl)
 obtain ⟨ag,fg,rfl,hEg⟩:=h1.grants.elems (fun _=>rfl)
 have hex:=fun (n:Int) (hn:0≤n)=>rowned_con h1 hn
 unfold goesB
 simp (disch:=omega) [hH1,hge]
 have hp:=he.person (by omega) (by omega)
 obtain ⟨a,rfl,hal,hrd⟩:=hEl.at e.person.toNat (by omega)
 have e1:s.lives[e.person.toNat]?.getD false=s.lives[e.person.toNat]:=by rw [List.getElem?_eq_getElem (by omega)]; rfl
 simp (disch:=omega) [k4,hge]
 refine (hex _ he.estate).go ?_
 simp
 refine planG_bool (fun h5=>?_) (fun h5=>?_)
 ·have h5':=h5
  simp only [existsB,Bool.and_eq_true,decide_eq_true_eq] at h5'
  have hes:=he.estate
  obtain ⟨ao,rfl,hao,hro⟩:=hEo.at e.estate.toNat (by omega)
  have e2:s.owners[e.estate.toNat]?.getD 0=s.owners[e.estate.toNat]'(by omega):=by rw [List.getElem?_eq_getElem (by omega)]; rfl
  simp (disch:=omega) [h5,hg,hge,hrd]
  refine planG_bool (fun h6=>?_) (fun h6=>?_)
  ·simp (disch:=omega) [h6,hg,hge,hro]
   exact hs1
  ·simp [h6]
   exact hs1
 ·simp [h5]
  exact hs1
theorem rGoes5 (h:RIn H N l b sg s bk dy v1 v2 vl vo vg va vw vb vd) (hw:Wf b s) (hG:Wg b s) (hsu:0≤b.supply∧b.supply≤10000) {e:Ev} (k5:e.kind=5) (he:EvOk b s e) (hev:isEventB b e=true):C 82 [.pointer (some (ga sg 0 0)),evV e] H (.bool (goesB b s e)) H:=by
 rcases l with ⟨⟨⟨ra,rf⟩⟩,⟨oa,of'⟩,⟨va',vf'⟩⟩
 refine con_wp tok mix fok82 (F:=g82) (c:=_) rfl (n:=274) rfl (rs:= [.tmp 4]) rfl (anch_closed rfl) ?_
 have h1:=h.sub (Sub.push (.refl H) (.arr { cells:= [vi e.kind,vi e.day,vi e.person,vi e.other,vi e.estate,vi e.grant,vi e.system,vi e.units],ty:=56 }))
 have hge:(H.push (.arr { cells:= [vi e.kind,vi e.day,vi e.person,vi e.other,vi e.estate,vi e.grant,vi e.system,vi e.units],ty:=56 })).get H.next=some (.arr { cells:= [vi e.kind,vi e.day,vi e.person,vi e.other,vi e.estate,vi e.grant,vi e.system,vi e.units],ty:=56 }):=by simp
 have hs1:Sub H (H.push (.arr { cells:= [vi e.kind,vi e.day,vi e.person,vi e.other,vi e.estate,vi e.grant,vi e.system,vi e.units],ty:=56 })):=Sub.push (.refl H) _
 have hn1:H.next<(H.push (.arr { cells:= [vi e.kind,vi e.day,vi e.person,vi e.other,vi e.estate,vi e.grant,vi e.system,vi e.units],ty:=56 })).next:=by simp
 generalize hH1:H.push (.arr { cells:= [vi e.kind,vi e.day,vi e.person,vi e.other,vi e.estate,vi e.grant,vi e.system,vi e.units],ty:=56 })=H1 at*
 have hg:=h1.g
 have hsl:=h1.sgl.2
 have hlen:=hw.len
 have hkk:=he.kind
 obtain ⟨al,fl,rfl,hEl⟩:=h1.lives.elems (fun _=>rfl)
 obtain ⟨ao,fo,rfl,hEo⟩:=h1.owners.elems (fun _=>rfl)
 obtain ⟨ag,fg,rfl,hEg⟩:=h1.grants.elems (fun _=>rfl)
 have hex:=fun (n:Int) (hn:0≤n)=>rowned_con h1 hn
 unfold goesB
 simp (disch:=omega) [hH1,hge]
 have hu5:=ev_units5 hev k5
 have hp:=he.person (by omega) (by omega)
 have hgr:=he.grant
 obtain ⟨a,rfl,hal,hrd⟩:=hEl.at e.person.toNat (by omega)
 have e1:s.lives[e.person.toNat]?.getD false=s.lives[e.person.toNat]:=by rw [List.getElem?_eq_getElem (by omega)]; rfl
 simp (disch:=omega) [k5,hg,hge]
 refine planG_bool (fun h5=>?_) (fun h5=>?_)<;>(try simp only [Bool.not_eq_true',Bool.not_eq_false',decide_eq_true_eq,decide_eq_false_iff_not] at h5)
 ·have hgl:e.grant<s.grants.length:=by omega
  obtain ⟨ag,rfl,hag,hrg⟩:=hEg.at e.grant.toNat (by omega)
  have e2:s.grants[e.grant.toNat]?.getD default=s.grants[e.grant.toNat]'(by omega):=by rw [List.getElem?_eq_getElem (by omega)]; rfl
  have hm:=hG.gr _ (List.getElem_mem (show e.grant.toNat<s.grants.length by omega))
  generalize hGG:s.grants[e.grant.toNat]'(by omega)=G at hrg e2 hm
  simp (disch:=omega) [h5,hg,hge,hrg]
  refine planG_bool (fun h6=>?_) (fun h6=>?_)<;>(try simp only [Bool.not_eq_true',Bool.not_eq_false',decide_eq_true_eq,decide_eq_false_iff_not] at h6)
  ·have h6':0≤G.estate:=by omega
   simp (disch:=omega) [h6,hg,hge,hrg]
   refine planG_bool (fun h7=>?_) (fun h7=>?_)<;>(try simp only [Bool.not_eq_true',Bool.not_eq_false',decide_eq_true_eq,decide_eq_false_iff_not] at h7)
   ·have h7':e.units<G.units:=by omega
    simp (disch:=omega) [h7,hg,hge,hrd]
    refine wpB_bool (fun h8=>?_) (fun h8=>?_)<;>(try simp only [Bool.not_eq_true',Bool.not_eq_false'] at h8)
    ·simp [divB,h6',h7',h8,hgl,e2,e1]
     exact hs1
    ·simp (disch:=omega) [hg,hge,hrg,h8]
     generalize hH2:GH.put _ _ _=H2
     have hs2:Sub H1 H2:=by subst hH2; exact (Sub.push (.refl _) _).put (Nat.le_refl _) _
     have hb2:H2.get H1.next=some (.arr { cells:=encSt G,ty:=41 }):=by subst hH2; simp
     have he2:=(hs2.2 H.next hn1).trans hge
     have hn2:H1.next<H2.next:=by subst hH2; simp
     clear hH2
     have h2:=h1.sub hs2
     have hwr:IntKind.i64.wrap (G.units - e.units)=G.units - e.units:=wrap64 _ (by omega) (by omega)
     have hs12:=hs1.trans hs2
     refine (rWater_con h2 hm.1 ⟨by omega,by omega⟩).go ?_
     have hpre:divB b s e=partB b s G.system G.units e.units:=by simp [divB,h6',h7',h8,hgl,e2,e1]
     rw [hpre]
     simp (disch:=omega) [hb2,he2,hwr]
     refine (rWater_con h2 hm.1 ⟨by omega,by omega⟩).go ?_
     simp (disch:=omega)
     refine contG_bool (fun h9=>?_) (fun h9=>?_)<;>(try simp only [decide_eq_true_eq,decide_eq_false_iff_not] at h9)
     ·simp [h9]
      refine contG_bool (fun h10=>?_) (fun h10=>?_)<;>(try simp only [decide_eq_true_eq,decide_eq_false_iff_not] at h10)
      ·simp (disch:=omega) [h10,hb2]
       refine (rWater_con h2 hm.1 ⟨by omega,by omega⟩).go ?_
       simp
       refine (rFree_con h2 hG (by omega) hsu).go ?_
       simp [partB,h9,h10,hwr]
       exact hs12
      ·simp [h10,partB,hwr]
       exact hs12
     ·simp [h9,partB]
      exact hs12
   ·have hF:divB b s e=false:=Bool.eq_false_iff.2 fun h=>by simp [divB,e2] at h; omega
    simp [h7,hF]
    exact hs1
  ·have hF:divB b s e=false:=Bool.eq_false_iff.2 fun h=>by simp [divB,e2] at h; omega
   simp [h6,hF]
   exact hs1
 ·have hF:divB b s e=false:=Bool.eq_false_iff.2 fun h=>by simp [divB] at h; omega
  simp [h5,hF]
  exact hs1
theorem rGoes6 (h:RIn H N l b sg s bk dy v1 v2 vl vo vg va vw vb vd) (hw:Wf b s) (_hG:Wg b s) (_hsu:0≤b.supply∧b.supply≤10000) {e:Ev} (k6:e.kind=6) (he:EvOk b s e) (_hev:isEventB b e=true):C 82 [.pointer (some (ga sg 0 0)),evV e] H (.bool (goesB b s e)) H:=by
 rcases l with ⟨⟨⟨ra,rf⟩⟩,⟨oa,of'⟩,⟨va',vf'⟩⟩
 refine con_wp tok mix fok82 (F:=g82) (c:=_) rfl (n:=274) rfl (rs:= [.tmp 4]) rfl (anch_closed rfl) ?_
 have h1:=h.sub (Sub.push (.refl H) (.arr { cells:= [vi e.kind,vi e.day,vi e.person,vi e.other,vi e.estate,vi e.grant,vi e.system,vi e.units],ty:=56 }))
 have hge:(H.push (.arr { cells:= [vi e.kind,vi e.day,vi e.person,vi e.other,vi e.estate,vi e.grant,vi e.system,vi e.units],ty:=56 })).get H.next=some (.arr { cells:= [vi e.kind,vi e.day,vi e.person,vi e.other,vi e.estate,vi e.grant,vi e.system,vi e.units],ty:=56 }):=by simp
 have hs1:Sub H (H.push (.arr { cells:= [vi e.kind,vi e.day,vi e.person,vi e.other,vi e.estate,vi e.grant,vi e.system,vi e.units],ty:=56 })):=Sub.push (.refl H) _
 have hn1:H.next<(H.push (.arr { cells:= [vi e.kind,vi e.day,vi e.person,vi e.other,vi e.estate,vi e.grant,vi e.system,vi e.units],ty:=56 })).next:=by simp
 generalize hH1:H.push (.arr { cells:= [vi e.kind,vi e.day,vi e.person,vi e.other,vi e.estate,vi e.grant,vi e.system,vi e.units],ty:=56 })=H1 at*
 have hg:=h1.g
 have hsl:=h1.sgl.2
 have hlen:=hw.len
 have hkk:=he.kind
 obtain ⟨al,fl,rfl,hEl⟩:=h1.lives.elems (fun _=>rfl)
 obtain ⟨ao,fo,rfl,hEo⟩:=h1.owners.elems (fun _=>rfl)
 obtain ⟨ag,fg,rfl,hEg⟩:=h1.grants.elems (fun _=>rfl)
 have hex:=fun (n:Int) (hn:0≤n)=>rowned_con h1 hn
 unfold goesB
 simp (disch:=omega) [hH1,hge]
 have hes:=he.estate
 have hot:=he.other0
 simp (disch:=omega) [k6,hge]
 refine (hex _ he.estate).go ?_
 simp
 refine planG_bool (fun h5=>?_) (fun h5=>?_)
 ·simp (disch:=omega) [h5,hge]
  refine (hex _ he.other0).go ?_
  simp
  refine planG_bool (fun h6=>?_) (fun h6=>?_)
  ·have h5':=h5
   have h6':=h6
   simp only [existsB,Bool.and_eq_true,decide_eq_true_eq] at h5' h6'
   obtain ⟨ao,rfl,hao,hro⟩:=hEo.at e.estate.toNat (by omega)
   obtain ⟨ao',ha',hao',hro'⟩:=hEo.at e.other.toNat (by omega)
   cases ha'
   have e1:s.owners[e.estate.toNat]?.getD 0=s.owners[e.estate.toNat]'(by omega):=by rw [List.getElem?_eq_getElem (by omega)]; rfl
   have e2:s.owners[e.other.toNat]?.getD 0=s.owners[e.other.toNat]'(by omega):=by rw [List.getElem?_eq_getElem (by omega)]; rfl
   simp (disch:=omega) [h6,hge]
   refine planG_bool (fun h7=>?_) (fun h7=>?_)<;>(try simp only [Bool.not_eq_true',Bool.not_eq_false',decide_eq_true_eq,decide_eq_false_iff_not] at h7)
   ·simp (disch:=omega) [h7,hg,hge,hro,hro']
    exact hs1
   ·simp [h7]
    exact hs1
  ·simp [h6]
   exact hs1
 ·simp [h5]
  exact hs1
theorem rGoes7 (h:RIn H N l b sg s bk dy v1 v2 vl vo vg va vw vb vd) (hw:Wf b s) (_hG:Wg b s) (_hsu:0≤b.supply∧b.supply≤10000) {e:Ev} (k7:e.kind=7) (he:EvOk b s e) (_hev:isEventB b e=true):C 82 [.pointer (some (ga sg 0 0)),evV e] H (.bool (goesB b s e)) H:=by
 rcases l with ⟨⟨⟨ra,rf⟩⟩,⟨oa,of'⟩,⟨va',vf'⟩⟩
 refine con_wp tok mix fok82 (F:=g82) (c:=_) rfl (n:=274) rfl (rs:= [.tmp 4]) rfl (anch_closed rfl) ?_
 have h1:=h.sub (Sub.push (.refl H) (.arr { cells:= [vi e.kind,vi e.day,vi e.person,vi e.other,vi e.estate,vi e.grant,vi e.system,vi e.units],ty:=56 }))
 have hge:(H.push (.arr { cells:= [vi e.kind,vi e.day,vi e.person,vi e.other,vi e.estate,vi e.grant,vi e.system,vi e.units],ty:=56 })).get H.next=some (.arr { cells:= [vi e.kind,vi e.day,vi e.person,vi e.other,vi e.estate,vi e.grant,vi e.system,vi e.units],ty:=56 }):=by simp
 have hs1:Sub H (H.push (.arr { cells:= [vi e.kind,vi e.day,vi e.person,vi e.other,vi e.estate,vi e.grant,vi e.system,vi e.units],ty:=56 })):=Sub.push (.refl H) _
 have hn1:H.next<(H.push (.arr { cells:= [vi e.kind,vi e.day,vi e.person,vi e.other,vi e.estate,vi e.grant,vi e.system,vi e.units],ty:=56 })).next:=by simp
 generalize hH1:H.push (.arr { cells:= [vi e.kind,vi e.day,vi e.person,vi e.other,vi e.estate,vi e.grant,vi e.system,vi e.units],ty:=56 })=H1 at*
 have hg:=h1.g
 have hsl:=h1.sgl.2
 have hlen:=hw.len
 have hkk:=he.kind
 obtain ⟨al,fl,rfl,hEl⟩:=h1.lives.elems (fun _=>rfl)
 obtain ⟨ao,fo,rfl,hEo⟩:=h1.owners.elems (fun _=>rfl)
 obtain ⟨ag,fg,rfl,hEg⟩:=h1.grants.elems (fun _=>rfl)
 have hex:=fun (n:Int) (hn:0≤n)=>rowned_con h1 hn
 unfold goesB
 simp (disch:=omega) [hH1,hge]
 have hgr:=he.grant
 simp (disch:=omega) [k7,hg,hge]
 refine planG_bool (fun h5=>?_) (fun h5=>?_)<;>(try simp only [decide_eq_true_eq,decide_eq_false_iff_not] at h5)
 ·obtain ⟨ag,rfl,hag,hrg⟩:=hEg.at e.grant.toNat (by omega)
  have e1:s.grants[e.grant.toNat]?.getD default=s.grants[e.grant.toNat]'(by omega):=by rw [List.getElem?_eq_getElem (by omega)]; rfl
  simp (disch:=omega) [h5,hg,hge,hrg]
  refine planG_bool (fun h6=>?_) (fun h6=>?_)<;>(try simp only [decide_eq_true_eq,decide_eq_false_iff_not] at h6)
  ·simp (disch:=omega) [h6,hg,hge,hrg]
   exact hs1
  ·simp [h6]
   exact hs1
 ·simp [h5]
  exact hs1
theorem rGoes8 (h:RIn H N l b sg s bk dy v1 v2 vl vo vg va vw vb vd) (hw:Wf b s) (_hG:Wg b s) (_hsu:0≤b.supply∧b.supply≤10000) {e:Ev} (k8:e.kind=8) (he:EvOk b s e) (hev:isEventB b e=true):C 82 [.pointer (some (ga sg 0 0)),evV e] H (.bool (goesB b s e)) H:=by
 rcases l with ⟨⟨⟨ra,rf⟩⟩,⟨oa,of'⟩,⟨va',vf'⟩⟩
 refine con_wp tok mix fok82 (F:=g82) (c:=_) rfl (n:=274) rfl (rs:= [.tmp 4]) rfl (anch_closed rfl) ?_
 have h1:=h.sub (Sub.push (.refl H) (.arr { cells:= [vi e.kind,vi e.day,vi e.person,vi e.other,vi e.estate,vi e.grant,vi e.system,vi e.units],ty:=56 }))
 have hge:(H.push (.arr { cells:= [vi e.kind,vi e.day,vi e.person,vi e.other,vi e.estate,vi e.grant,vi e.system,vi e.units],ty:=56 })).get H.next=some (.arr { cells:= [vi e.kind,vi e.day,vi e.person,vi e.other,vi e.estate,vi e.grant,vi e.system,vi e.units],ty:=56 }):=by simp
 have hs1:Sub H (H.push (.arr { cells:= [vi e.kind,vi e.day,vi e.person,vi e.other,vi e.estate,vi e.grant,vi e.system,vi e.units],ty:=56 })):=Sub.push (.refl H) _
 have hn1:H.next<(H.push (.arr { cells:= [vi e.kind,vi e.day,vi e.person,vi e.other,vi e.estate,vi e.grant,vi e.system,vi e.units],ty:=56 })).next:=by simp
 generalize hH1:H.push (.arr { cells:= [vi e.kind,vi e.day,vi e.person,vi e.other,vi e.estate,vi e.grant,vi e.system,vi e.units],ty:=56 })=H1 at*
 have hg:=h1.g
 have hsl:=h1.sgl.2
 have hlen:=hw.len
 have hkk:=he.kind
 obtain ⟨al,fl,rfl,hEl⟩:=h1.lives.elems (fun _=>rfl)
 obtain ⟨ao,fo,rfl,hEo⟩:=h1.owners.elems (fun _=>rfl)
 obtain ⟨ag,fg,rfl,hEg⟩:=h1.grants.elems (fun _=>rfl)
 have hex:=fun (n:Int) (hn:0≤n)=>rowned_con h1 hn
 unfold goesB
 simp (disch:=omega) [hH1,hge]
 have hp:=he.person (by omega) (by omega)
 obtain ⟨a,rfl,hal,hrd⟩:=hEl.at e.person.toNat (by omega)
 have e1:s.lives[e.person.toNat]?.getD false=s.lives[e.person.toNat]:=by rw [List.getElem?_eq_getElem (by omega)]; rfl
 have hu:=ev_units hev (.inr (.inr k8))
 simp (disch:=omega) [k8,hg,hge,hrd]
 refine planG_bool (fun h5=>?_) (fun h5=>?_)
 ·simp (disch:=omega) [h5,hge]
  refine (rWater_con h1 hu.1 ⟨by omega,hu.2.2⟩).go ?_
  simp
  exact hs1
 ·simp [h5]
  exact hs1
theorem rGoes_con (h:RIn H N l b sg s bk dy v1 v2 vl vo vg va vw vb vd) (hw:Wf b s) (hG:Wg b s) (hsu:0≤b.supply∧b.supply≤10000) {e:Ev} (he:EvOk b s e) (hev:isEventB b e=true):C 82 [.pointer (some (ga sg 0 0)),evV e] H (.bool (goesB b s e)) H:=by
 have hk:=he.kind
 have:e.kind=1∨e.kind=2∨e.kind=3∨e.kind=4∨e.kind=5∨e.kind=6∨e.kind=7∨e.kind=8:=by omega
 rcases this with k|k|k|k|k|k|k|k
 ·exact rGoes1 h hw hG hsu k he hev
 ·exact rGoes2 h hw hG hsu k he hev
 ·exact rGoes3 h hw hG hsu k he hev
 ·exact rGoes4 h hw hG hsu k he hev
 ·exact rGoes5 h hw hG hsu k he hev
 ·exact rGoes6 h hw hG hsu k he hev
 ·exact rGoes7 h hw hG hsu k he hev
 ·exact rGoes8 h hw hG hsu k he hev
end
end Go.Gm.Tryz
end
section
namespace Go.Gm.Tryz
open Go.Proofs
section
variable {H:GH} {N:Nat} {l:BLoc} {b:Book} {sg:Nat} {s:Stand} {O:Nat→Prop} {bk dy:List Int} {v1 v2 vl vo vg va vw vb vd:Value}
theorem ownStep_fell (e:Ev) (s:Stand) (i:Nat):((List.range i).foldl (ownStep e) s).fell=s.fell:=by
 induction i with
 |zero=>rfl
 |succ i ih=>
  rw [range_fold]
  unfold ownStep
  split
  ·exact ih
  ·exact ih
theorem rdies_con (h:RegS H N l b sg s O) (hw:Wf b s) (hG:Wg b s) (hsu:0≤b.supply∧b.supply≤10000) (e:Ev) (he:0≤e.person∧e.person<s.lives.length):
  GCall Tryz.prog 114 [.pointer (some (ga sg 0 0)),evV e] H fun x H'=>x=.ret (.tuple #[])∧∃O',Frm O O' H H'∧RegS H' N l b sg (dieS b s e) O':=by
 rcases l with ⟨⟨⟨ra,rf⟩⟩,⟨oa,of'⟩,⟨va',vf'⟩⟩
 refine gcall_wp tok mix fok114 (F:=g114) (c:=_) rfl (n:=191) rfl (rs:= []) rfl ?_
 obtain ⟨h1,f1⟩:=h.sub (Sub.push (.refl H) (.arr { cells:= [vi e.kind,vi e.day,vi e.person,vi e.other,vi e.estate,vi e.grant,vi e.system,vi e.units],ty:=56 }))
 have hle:=hw.len
 have hlo:=hw.own
 have hl1:=fun g ho=>(h1.lt g ho).2
 have hge:(H.push (.arr { cells:= [vi e.kind,vi e.day,vi e.person,vi e.other,vi e.estate,vi e.grant,vi e.system,vi e.units],ty:=56 })).get H.next=some (.arr { cells:= [vi e.kind,vi e.day,vi e.person,vi e.other,vi e.estate,vi e.grant,vi e.system,vi e.units],ty:=56 }):=by simp
 have hOl:∀g,O g→g<H.next:=fun g hg=>(h.lt g hg).2
 have hnx:(H.push (.arr { cells:= [vi e.kind,vi e.day,vi e.person,vi e.other,vi e.estate,vi e.grant,vi e.system,vi e.units],ty:=56 })).next=H.next+1:=by simp
 generalize hH1:H.push (.arr { cells:= [vi e.kind,vi e.day,vi e.person,vi e.other,vi e.estate,vi e.grant,vi e.system,vi e.units],ty:=56 })=H1 at*
 obtain ⟨v1,v2,vl,vo,vg,va,vw,vb,vd,h1,hO⟩:=h1
 have hg:=h1.g
 have hsl:=h1.sgl.2
 obtain ⟨al,fl,rfl,hEl⟩:=h1.lives.elems (fun _=>rfl)
 obtain ⟨al,rfl,hal,hrl⟩:=hEl.at e.person.toNat (by omega)
 obtain ⟨ao,fo,rfl,hEo⟩:=h1.owners.elems (fun _=>rfl)
 have hbk:=h1.lives.blk_some
 have hbgs:al.block≠sg:=fun hc=>h1.ne 2 (by decide) (hbk.trans (congrArg some hc))
 have hOo:O al.block:=(hO _).2 (h1.own_ 2 (by decide) hbk)
 obtain ⟨H2,hw2,ho2,hn2,hs2⟩:=h1.lives.wr (fun _=>rfl) (i:=e.person.toNat) (k:=0) (by omega) (c:=.bool false) (new:= []) (by simp) (y:=false) (by simp [splice])
 have hg2:=(hs2 sg (Ne.symm hbgs)).trans hg
 have he2:=(hs2 H.next (fun hc=>by have:=hOl _ hOo; omega)).trans hge
 obtain ⟨hS2,hW2⟩:=h1.wr 2 (by decide) (H1:=H2) (s1:=dieA s e) (bk1:=s.fell.map Prod.fst) (dy1:=s.fell.map Prod.snd) (by omega) (ownL_id.2 ho2) (fun k hk hne=>hs2 k fun hc=>hne (hbk.trans (congrArg some hc.symm))) rfl
 have f2:Frm O O H1 H2:=Frm.wr hl1 hOo hn2 hs2
 have hwA:=dieA_wf hw e
 have hGA:Wg b (dieA s e):=⟨hG.gr,hG.wa⟩
 simp (disch:=omega) [hH1]
 simp (disch:=omega) [hg,hge,hw2]
 refine wp_up tok mix (by kernel_rfl) s.owners.length (fun i ρ m H3=>ρ 0=.pointer (some (ga sg 0 0))∧ρ 3=.pointer (some (ga H.next 0 0))∧ρ 4=vi i∧m= []∧Frm O O H1 H3∧
  RIn H3 N ⟨⟨⟨ra,rf⟩⟩,⟨oa,of'⟩,⟨va',vf'⟩⟩ b sg ((List.range i).foldl (ownStep e) (dieA s e)) (s.fell.map Prod.fst) (s.fell.map Prod.snd) v1 v2 (.slice (some al) s.lives.length fl) (.slice ao s.owners.length fo) vg va vw vb vd∧
  (∀g,O g↔RecOwn sg (vecs b ((List.range i).foldl (ownStep e) (dieA s e)) (s.fell.map Prod.fst) (s.fell.map Prod.snd) v1 v2 (.slice (some al) s.lives.length fl) (.slice ao s.owners.length fo) vg va vw vb vd) g)∧Wg b ((List.range i).foldl (ownStep e) (dieA s e))) (i0:=0) (by omega)
  ⟨by simp,by simp,by simp,by simp,f2,hS2,fun g=>(hO g).trans (hW2 g).symm,hGA⟩ ?_
 rintro i ρ m H3 hi ⟨e0,e3,e4,rfl,f3,h3,hO3,hG3⟩
 have hg3:=h3.g
 have he3:=(f3.keep H.next (by omega) (fun hc=>by have:=hOl _ hc; omega)).trans hge
 have hn3:=f3.next
 obtain ⟨hw3,ho3,hgl3,hww3⟩:=ownFold_ok (e:=e) hwA i
 simp (disch:=omega) [e0,e4,hg3]
 refine wpB_dec (fun hlt2=>?_) (fun hge1=>?_)
 ·have hrf:=range_fold (ownStep e) (dieA s e) i
  generalize hcur:(List.range i).foldl (ownStep e) (dieA s e)=c at*
  have hol:c.owners.length=s.owners.length:=ho3
  have hltI:(i:Int)<s.owners.length:=by omega
  obtain ⟨a2,rfl,hab,hrd⟩:=(h3.owners.elems' (fun _=>rfl)).at i (by omega)
  have hoa:oAt c i=c.owners[i]'(by omega):=getD_at (by omega)
  simp (disch:=omega) [e0,e3,e4,hg3,hrd,he3]
  refine wpB_dec (fun h5=>?_) (fun h5=>?_)
  ·simp (disch:=omega) [e0,e3,e4,he3]
   refine (rown_con h3 hO3 (by have:=hw3.len; omega) i (by omega) e.other).mono ?_
   rintro x H4 ⟨rfl,f4,h4,hO4⟩
   simp (disch:=omega) [e0,e3,e4,hlt2,wrap64]
   have hst:ownStep e c i=ownS c i e.other:=by unfold ownStep; rw [if_pos (by rw [hoa]; exact h5)]
   rw [hrf,hst]
   exact ⟨f3.trans f4,h4,hO4,hG3.own _ _⟩
  ·simp (disch:=omega) [e0,e3,e4,hlt2,wrap64]
   have hst:ownStep e c i=c:=by unfold ownStep; rw [if_neg (by rw [hoa]; exact h5)]
   rw [hrf,hst]
   exact ⟨f3,h3,hO3,hG3⟩
 ·have:i=s.owners.length:=by omega
  subst this
  obtain ⟨sB,hsB⟩:∃sB,dieB (dieA s e) e=sB:=⟨_,rfl⟩
  change RIn H3 N _ b sg (dieB (dieA s e) e) _ _ _ _ _ _ _ _ _ _ _ at h3
  change Wf b (dieB (dieA s e) e) at hw3
  change Wg b (dieB (dieA s e) e) at hG3
  change (dieB (dieA s e) e).waits=s.waits at hww3
  change (dieB (dieA s e) e).grants.length=s.grants.length at hgl3
  have hO3':∀g,O g↔RecOwn sg (vecs b (dieB (dieA s e) e) (s.fell.map Prod.fst) (s.fell.map Prod.snd) v1 v2 (.slice (some al) s.lives.length fl) (.slice ao s.owners.length fo) vg va vw vb vd) g:=hO3
  have hfB:(dieB (dieA s e) e).fell=s.fell:=ownStep_fell e (dieA s e) _
  rw [hsB] at h3 hw3 hG3 hww3 hgl3 hO3' hfB
  clear hO3
  obtain ⟨aw,fw,rfl,hEw⟩:=h3.waits.elems (fun _=>rfl)
  rw [hww3] at h3 hO3'
  have hg3:=h3.g
  have hn31:H1.next≤H3.next:=f3.next
  simp
  refine wp_up tok mix (by kernel_rfl) s.waits.length (fun i ρ m H4=>ρ 0=.pointer (some (ga sg 0 0))∧ρ 3=.pointer (some (ga H.next 0 0))∧ρ 6=vi i∧m= []∧Sub H3 H4∧
   OwnL H4 H3.next (ρ 5) 3 1 encI ((s.waits.take i).filter (notOf b e))) (i0:=0) (by omega)
   ⟨by simp [e0],by simp [e3],by simp,by simp,.refl _,by simpa using OwnL.nil⟩ ?_
  rintro i ρ m H4 hi ⟨d0,d3,d6,rfl,hs4,hv4⟩
  have h4:=h3.sub hs4
  have hg4:=h4.g
  have he4:=(hs4.2 H.next (by omega)).trans he3
  have hn4:=hs4.1
  generalize hv8:ρ 5=v8 at hv4
  have hl8:=hv4.len
  have htl:((s.waits.take i).filter (notOf b e)).length≤100:=by
   have:=List.length_filter_le (notOf b e) (s.waits.take i)
   simp at this ⊢; omega
  simp (disch:=omega) [d0,d6,hg4]
  refine wpB_dec (fun hlt2=>?_) (fun hge2=>?_)
  ·have hltI:(i:Int)<s.waits.length:=by omega
   have hil:i<sB.waits.length:=by rw [hww3]; exact hlt2
   obtain ⟨a2,ha2,hab,hrd⟩:=(hEw.mono hs4).at i hil
   cases ha2
   obtain ⟨w,hW⟩:∃w,s.waits[i]=w:=⟨_,rfl⟩
   have hwi:sB.waits[i]=w:=by rw [←hW]; congr 1
   rw [hwi] at hrd
   have hwr:=hw.w w (hW▸List.getElem_mem hlt2)
   obtain ⟨a3,rfl,hbb,hrb⟩:=h4.book.events.at w.toNat (by omega)
   have hev:evAt b w=b.events[w.toNat]'(by omega):=getD_at (by omega)
   have htk:s.waits.take (i+1)=s.waits.take i++ [w]:=by rw [←hW]; exact List.take_succ_eq_append_getElem hlt2
   simp (disch:=omega) [d0,d3,d6,hrd,he4,hg4,hrb]
   refine wpB_bool (fun h5=>?_) (fun h5=>?_)<;>(try simp only [Bool.not_eq_true',Bool.not_eq_false',decide_eq_true_eq,decide_eq_false_iff_not] at h5)
   ·obtain ⟨v8',H5,happ,ho5,hn5,hf5,hb5⟩:=(hv4.push (.arr { cells:= [vi w],ty:=3 })).app (by simp) (by simp) (by decide) w (by simp; omega)
    simp only [encI] at happ
    generalize hF:((s.waits.take i).filter (notOf b e))=F at*
    have d8:8*(1+F.length)≤1000000:=by omega
    have d9:1+F.length≤1000000:=by omega
    obtain ⟨a8,f8,rfl⟩:=ho5.slice
    simp (disch:=omega) [d0,d3,d6,hg4,hrd,hv8,hl8,d8,d9,happ,hlt2,wrap64]
    simp only [GH.next_push] at hn5
    refine ⟨⟨by omega,fun g hg=>?_⟩,?_⟩
    ·rw [hf5 g (by simp; omega) (fun hc=>by have:=(hv4.blk_lt hc).1; omega),GH.get_push_lt _ _ (by omega),hs4.2 g hg]
    ·rw [htk,List.filter_append,hF]
     have: [w].filter (notOf b e)= [w]:=by simp [notOf,hev,h5]
     rw [this]
     simpa using ho5
   ·simp (disch:=omega) [d0,d3,d6,hlt2,wrap64]
    refine ⟨hs4,?_⟩
    rw [htk,List.filter_append]
    have: [w].filter (notOf b e)= []:=by simp [notOf,hev,h5]
    rw [this,List.append_nil,hv8]; exact hv4
  ·have:i=s.waits.length:=by omega
   subst this
   rw [List.take_length] at hv4
   have hC:({ sB with waits:=s.waits.filter (notOf b e) }:Stand)=dieC b sB e:=by simp only [dieC,hww3]
   have hfC:(dieC b sB e).fell=s.fell:=hfB
   have hbC:∀k,k<H3.next→H4.get k=H3.get k:=hs4.2
   obtain ⟨hS5,hW5⟩:=h3.upd 6 (by decide) (H1:=H4) (s1:= { sB with waits:=s.waits.filter (notOf b e) }) (bk1:=s.fell.map Prod.fst) (dy1:=s.fell.map Prod.snd) hs4.1 (ownL_id.2 (hv4.weaken (by have:=h3.sgl; omega))) (fun k hk _=>hs4.2 k hk) (fun k hk=>.inr (hv4.blk_lt hk).1) rfl
   rw [hC] at hS5 hW5
   rw [←hfC] at hS5
   obtain ⟨O5,f5,h5⟩:=RegS.of h3 hO3' hS5 (by simpa using hs4.1) (fun k hk ho=>by
    rw [hO3'] at ho
    rw [GH.get_put_ne _ _ (fun hc=>ho (.inl hc)),hs4.2 k hk]) (fun k hk=>hW5 k (by rw [hfC] at hk; exact hk))
   have hwC:=dieC_wf hw3 e
   have hGC:Wg b (dieC b sB e):=⟨hG3.gr,fun w hw=>hG3.wa w (List.mem_filter.1 hw).1⟩
   obtain ⟨a8,f8,rfl⟩:=hv4.slice
   obtain ⟨ag,fg,rfl,hEg⟩:=hS5.grants.elems (fun _=>rfl)
   have hgC:=hS5.g
   have hslC:=hS5.sgl.2
   have hglC:(dieC b sB e).grants.length=sB.grants.length:=rfl
   simp only [bookC,List.cons_append,List.nil_append] at hgC hslC f5 h5
   simp (disch:=omega) [d0,hg4,hv8]
   generalize hHC:H4.put sg _=HC at f5 h5 hgC hslC ⊢
   generalize hsC:dieC b sB e=sC at*
   have hC100:sC.grants.length≤100:=by have:=hwC.len; omega
   refine wp_up tok mix (by kernel_rfl) sC.grants.length (fun i ρ m H6=>ρ 0=.pointer (some (ga sg 0 0))∧ρ 3=.pointer (some (ga H.next 0 0))∧ρ 7=vi sC.grants.length∧ρ 8=vi i∧m= []∧
    ∃O6,Frm O O6 H1 H6∧RegS H6 N ⟨⟨⟨ra,rf⟩⟩,⟨oa,of'⟩,⟨va',vf'⟩⟩ b sg ((List.range i).foldl (endStep b e) sC) O6∧Wf b ((List.range i).foldl (endStep b e) sC)∧Wg b ((List.range i).foldl (endStep b e) sC)∧sC.grants.length≤((List.range i).foldl (endStep b e) sC).grants.length) (i0:=0) (by omega)
    ⟨by simp [d0],by simp [d3],by simp,by simp,by simp,O5,f3.trans f5,h5,hwC,hGC,Nat.le_refl _⟩ ?_
   rintro i ρ m H6 hi ⟨c0,c3,c7,c8,rfl,O6,f6,h6,hw6,hG6,hl6⟩
   have he6:=(f6.keep H.next (by omega) (fun hc=>by have:=hOl _ hc; omega)).trans hge
   simp [c7,c8]
   refine wpB_dec (fun hlt3=>?_) (fun hge3=>?_)
   ·have hrf:=range_fold (endStep b e) sC i
    generalize hcur:(List.range i).foldl (endStep b e) sC=c at*
    have hil:i<c.grants.length:=by omega
    obtain ⟨hwn,hln⟩:=endStep_ok (e:=e) hw6 hil
    have hGn:Wg b (endStep b e c i):=by
     unfold endStep
     split
     ·exact hG6.endS hil _
     ·exact hG6
    rw [←hrf] at hwn hln hGn
    have hga:gAt c i=c.grants[i]:=getD_at hil
    have h6s:=h6
    obtain ⟨_,_,_,_,vg6,_,_,_,_,h6',hO6⟩:=h6
    have hg6:=h6'.g
    have hsl6:=h6'.sgl.2
    obtain ⟨a6,q6,rfl,hE6⟩:=h6'.grants.elems (fun _=>rfl)
    obtain ⟨a6,rfl,hab6,hrd6⟩:=hE6.at i hil
    have hilI:(i:Int)<c.grants.length:=by omega
    simp (disch:=omega) [c0,c8,hg6,hrd6]
    refine planG_bool (fun h8=>?_) (fun h8=>?_)<;>(try simp only [decide_eq_true_eq,decide_eq_false_iff_not] at h8)
    ·simp (disch:=omega) [c0,c3,c8,hg6,hrd6,he6,h8]
     refine wpB_dec (fun h9=>?_) (fun h9=>?_)
     ·simp (disch:=omega) [c0,c3,c8,he6]
      refine (rend_con h6s hw6 hG6 hsu i hil (by rw [h8]; decide) e.day).mono ?_
      rintro x H8 ⟨rfl,O8,f8',h8'⟩
      have hcs:endStep b e c i=endS b c i e.day:=by unfold endStep; rw [if_pos ⟨by rw [hga]; exact h8,by rw [hga]; exact h9⟩]
      rw [hcs] at hrf
      rw [←hrf] at h8'
      simp (disch:=omega) [c0,c3,c7,c8,wrap64]
      exact ⟨hlt3,O8,f6.trans f8',h8',hwn,hGn,by omega⟩
     ·have hcs:endStep b e c i=c:=by unfold endStep; rw [if_neg (fun hc=>h9 (by rw [←hga]; exact hc.2))]
      rw [hcs] at hrf
      rw [←hrf] at h6s
      simp (disch:=omega) [c0,c3,c7,c8,wrap64]
      exact ⟨hlt3,O6,f6,h6s,hwn,hGn,by omega⟩
    ·have hcs:endStep b e c i=c:=by unfold endStep; rw [if_neg (fun hc=>h8 (by rw [←hga]; exact hc.1))]
     rw [hcs] at hrf
     rw [←hrf] at h6s
     simp (disch:=omega) [c0,c3,c7,c8,wrap64,h8]
     exact ⟨hlt3,O6,f6,h6s,hwn,hGn,by omega⟩
   ·have:i=sC.grants.length:=by omega
    subst this
    change RegS H6 N _ b sg (dieD b sC e) O6 at h6
    change Wf b (dieD b sC e) at hw6
    change Wg b (dieD b sC e) at hG6
    have hfin:dieS b s e=dieE b (dieD b sC e) e:=by rw [←hsC,←hsB]; rfl
    generalize hsD:dieD b sC e=sD at*
    have hD100:sD.grants.length≤100:=by have:=hw6.len; omega
    have hO6l:=fun g ho=>(h6.lt g ho).2
    have hlD:=hw6.last
    obtain ⟨u1,u2,ul,uo,ug,ua,uw,ub,ud,h6',hO6⟩:=h6
    have hg6:=h6'.g
    have hsl6:=h6'.sgl.2
    obtain ⟨a6,q6,rfl,hE6⟩:=h6'.grants.elems (fun _=>rfl)
    obtain ⟨aa6,qa6,rfl,hEa6⟩:=h6'.last.elems (fun _=>rfl)
    have hst0:∀i,((List.range i).foldl (heirStep b e) sD).fell=sD.fell:=by
     intro i
     induction i with
     |zero=>rfl
     |succ i ih=>
      rw [range_fold]
      unfold heirStep
      split
      ·exact ih
      ·exact ih
    simp
    refine wp_up tok mix (by kernel_rfl) sD.grants.length (fun i ρ m H7=>ρ 0=.pointer (some (ga sg 0 0))∧ρ 3=.pointer (some (ga H.next 0 0))∧ρ 9=vi i∧m= []∧
     Frm O6 O6 H6 H7∧RIn H7 N ⟨⟨⟨ra,rf⟩⟩,⟨oa,of'⟩,⟨va',vf'⟩⟩ b sg ((List.range i).foldl (heirStep b e) sD) (sD.fell.map Prod.fst) (sD.fell.map Prod.snd) u1 u2 ul uo (.slice a6 sD.grants.length q6) (.slice aa6 sD.last.length qa6) uw ub ud∧
     (∀g,O6 g↔RecOwn sg (vecs b ((List.range i).foldl (heirStep b e) sD) (sD.fell.map Prod.fst) (sD.fell.map Prod.snd) u1 u2 ul uo (.slice a6 sD.grants.length q6) (.slice aa6 sD.last.length qa6) uw ub ud) g)∧((List.range i).foldl (heirStep b e) sD).grants.length=sD.grants.length∧((List.range i).foldl (heirStep b e) sD).last.length=sD.last.length) (i0:=0) (by omega)
     ⟨by simp [c0],by simp [c3],by simp,by simp,Frm.refl hO6l,h6',hO6,rfl,rfl⟩ ?_
    rintro i ρ m H7 hi ⟨b0,b3,b9,rfl,f7,h7,hO7,hgl7,hll7⟩
    have f17:=f6.trans f7
    have he7:=(f17.keep H.next (by omega) (fun hc=>by have:=hOl _ hc; omega)).trans hge
    have hg7:=h7.g
    have hsl7:=h7.sgl.2
    simp (disch:=omega) [b0,b9,hg7]
    refine wpB_dec (fun hlt3=>?_) (fun hge3=>?_)
    ·have hrf:=range_fold (heirStep b e) sD i
     generalize hcur:(List.range i).foldl (heirStep b e) sD=c at*
     have hil:i<c.grants.length:=by omega
     have hga:gAt c i=c.grants[i]:=getD_at hil
     obtain ⟨a7,ha7,hab7,hrd7⟩:=(h7.grants.elems' (fun _=>rfl)).at i hil
     subst ha7
     have hilI:(i:Int)<sD.grants.length:=by omega
     have hskip:¬((gAt c i).is=1∧(gAt c i).estate<0∧(gAt c i).person=e.person)→heirStep b e c i=c:=fun hc=>by unfold heirStep; rw [if_neg hc]
     simp (disch:=omega) [b0,b9,hg7,hrd7]
     refine planG_bool (fun k1=>?_) (fun k1=>?_)<;>(try simp only [decide_eq_true_eq,decide_eq_false_iff_not] at k1)
     ·simp (disch:=omega) [b0,b9,hg7,hrd7,k1]
      refine planG_bool (fun k2=>?_) (fun k2=>?_)<;>(try simp only [decide_eq_true_eq,decide_eq_false_iff_not] at k2)
      ·simp (disch:=omega) [b0,b3,b9,hg7,hrd7,he7,k1,k2]
       refine wpB_dec (fun k3=>?_) (fun k3=>?_)
       ·have hst:heirStep b e c i= { c with grants:=c.grants.set i { c.grants[i] with is:=2,person:=e.other },last:=c.last.set i (IntKind.i64.wrap (e.day+b.term)) }:=by
         unfold heirStep; rw [if_pos (by rw [hga]; exact ⟨k1,k2,k3⟩),hga]
        have hbk7:=h7.grants.blk_some
        obtain ⟨aa7,haa,_,_⟩:=(h7.last.elems' (fun _=>rfl)).at i (by omega)
        subst haa
        have hbka:=h7.last.blk_some
        obtain ⟨Ha,hwa,hoa,hna,hsa⟩:=h7.grants.wr (fun _=>rfl) (i:=i) (k:=0) hil (c:=vi 2) (new:= []) (by simp) (y:= { c.grants[i] with is:=2 }) (by simp [splice])
        obtain ⟨Hb,hwb,hob,hnb,hsb⟩:=hoa.wr (fun _=>rfl) (i:=i) (k:=1) (by simpa using hil) (c:=vi e.other) (new:= []) (by simp) (y:= { c.grants[i] with is:=2,person:=e.other }) (by simp [splice])
        simp only [List.set_set] at hob
        have hne1:a7.block≠sg:=fun hc=>h7.ne 4 (by decide) (hbk7.trans (congrArg some hc))
        have hne2:aa7.block≠sg:=fun hc=>h7.ne 5 (by decide) (hbka.trans (congrArg some hc))
        have hOg:O6 a7.block:=(hO7 _).2 (h7.own_ 4 (by decide) hbk7)
        have hOa:O6 aa7.block:=(hO7 _).2 (h7.own_ 5 (by decide) hbka)
        obtain ⟨hSb,hWb⟩:=h7.wr 4 (by decide) (H1:=Hb) (s1:= { c with grants:=c.grants.set i { c.grants[i] with is:=2,person:=e.other } }) (bk1:=sD.fell.map Prod.fst) (dy1:=sD.fell.map Prod.snd) (by omega) (ownL_id.2 hob) (fun k hk hne=>by
         have hka:k≠a7.block:=fun hc=>hne (hbk7.trans (congrArg some hc.symm))
         rw [hsb k hka,hsa k hka]) rfl
        obtain ⟨Hc,hwc,hoc,hnc,hsc⟩:=hSb.last.wr (fun _=>rfl) (i:=i) (k:=0) (by show i<c.last.length; omega) (c:=vi (IntKind.i64.wrap (e.day+b.term))) (new:= []) (by simp) (y:=IntKind.i64.wrap (e.day+b.term)) (by simp [splice])
        obtain ⟨hSc,hWc⟩:=hSb.wr 5 (by decide) (H1:=Hc) (s1:= { c with grants:=c.grants.set i { c.grants[i] with is:=2,person:=e.other },last:=c.last.set i (IntKind.i64.wrap (e.day+b.term)) }) (bk1:=sD.fell.map Prod.fst) (dy1:=sD.fell.map Prod.snd) (by omega) (ownL_id.2 hoc) (fun k hk hne=>hsc k fun hc=>hne (hbka.trans (congrArg some hc.symm))) rfl
        have f9:Frm O6 O6 H7 Ha:=Frm.wr f7.lt hOg hna hsa
        have f10:Frm O6 O6 Ha Hb:=Frm.wr f9.lt hOg hnb hsb
        have f11:Frm O6 O6 Hb Hc:=Frm.wr f10.lt hOa hnc hsc
        have hnO:¬O6 H.next:=fun hc=>by
         rcases f6.own _ hc with h|h
         ·have:=hOl _ h; omega
         ·omega
        have hn7:=f17.next
        have hea:Ha.get H.next=_:=(f9.keep H.next (by omega) hnO).trans he7
        have heb:Hb.get H.next=_:=(f10.keep H.next (by omega) hnO).trans hea
        have hga7:Ha.get sg=_:=(hsa sg (Ne.symm hne1)).trans hg7
        have hgb7:Hb.get sg=_:=(hsb sg (Ne.symm hne1)).trans hga7
        have hilL:(i:Int)<sD.last.length:=by omega
        simp (disch:=omega) [b0,b3,b9,hg7,hwa,hga7,hea,hwb,hgb7,heb,hwc,wrap64]
        refine ⟨hlt3,f7.trans (f9.trans (f10.trans f11)),?_,?_,?_,?_⟩
        ·rw [hrf,hst]; exact hSc
        ·rw [hrf,hst]; exact fun g=>((hO7 g).trans (hWb g).symm).trans (hWc g).symm
        ·rw [hrf,hst]; simpa using hgl7
        ·rw [hrf,hst]; simpa using hll7
       ·rw [hskip (fun hc=>k3 (by rw [←hga]; exact hc.2.2))] at hrf
        simp (disch:=omega) [b0,b3,b9,wrap64]
        exact ⟨hlt3,f7,by rw [hrf]; exact h7,by rw [hrf]; exact hO7,by rw [hrf]; exact hgl7,by rw [hrf]; exact hll7⟩
      ·rw [hskip (fun hc=>k2 (by rw [←hga]; exact hc.2.1))] at hrf
       simp (disch:=omega) [b0,b3,b9,wrap64,k2]
       exact ⟨hlt3,f7,by rw [hrf]; exact h7,by rw [hrf]; exact hO7,by rw [hrf]; exact hgl7,by rw [hrf]; exact hll7⟩
     ·rw [hskip (fun hc=>k1 (by rw [←hga]; exact hc.1))] at hrf
      simp (disch:=omega) [b0,b3,b9,wrap64,k1]
      exact ⟨hlt3,f7,by rw [hrf]; exact h7,by rw [hrf]; exact hO7,by rw [hrf]; exact hgl7,by rw [hrf]; exact hll7⟩
    ·have:i=sD.grants.length:=by omega
     subst this
     simp
     have hfE:=hst0 sD.grants.length
     rw [hfin]
     change RIn H7 N _ b sg (dieE b sD e) _ _ _ _ _ _ _ _ _ _ _ at h7
     have hO7':∀g,O6 g↔RecOwn sg (vecs b (dieE b sD e) (sD.fell.map Prod.fst) (sD.fell.map Prod.snd) u1 u2 ul uo (.slice a6 sD.grants.length q6) (.slice aa6 sD.last.length qa6) uw ub ud) g:=hO7
     change (dieE b sD e).fell=sD.fell at hfE
     rw [←hfE] at h7 hO7'
     exact ⟨O6,f1.trans (f6.trans f7),_,_,_,_,_,_,_,_,_,h7,hO7'⟩
end
end Go.Gm.Tryz
end
section
namespace Go.Gm.Tryz
open Go.Proofs
section
variable {H:GH} {N:Nat} {l:BLoc} {b:Book} {sg:Nat} {s:Stand} {O:Nat→Prop}
theorem rdo1 (h:RegS H N l b sg s O) (hw:Wf b s) (_hG:Wg b s) (hsu:0≤b.supply∧b.supply≤10000) {i:Nat} (hi:i<b.events.length) {e:Ev} (hE:b.events[i]=e) (k:e.kind=1) (_he:EvOk b s e) (_hgo:goesB b s e=true) (hwd:Wf b (doS b s e i)) (hGd:Wg b (doS b s e i)):
  GCall Tryz.prog 83 [.pointer (some (ga sg 0 0)),vi i] H fun x H'=>x=.ret (.tuple #[])∧∃O',Frm O O' H H'∧RegS H' N l b sg (serve b (doS b s e i)) O':=by
 rcases l with ⟨⟨⟨ra,rf⟩⟩,⟨oa,of'⟩,⟨va',vf'⟩⟩
 refine gcall_wp tok mix fok83 (F:=g83) (c:=_) rfl (n:=168) rfl (rs:= []) rfl ?_
 have hs1:Sub H ((H.push (.arr { cells:= [vi 0,vi 0,vi 0,vi 0,vi 0,vi 0,vi 0,vi 0],ty:=56 })).put H.next (.arr { cells:= [vi e.kind,vi e.day,vi e.person,vi e.other,vi e.estate,vi e.grant,vi e.system,vi e.units],ty:=56 })):=(Sub.push (.refl H) _).put (Nat.le_refl _) _
 obtain ⟨h1S,f1⟩:=h.sub hs1
 have hge:((H.push (.arr { cells:= [vi 0,vi 0,vi 0,vi 0,vi 0,vi 0,vi 0,vi 0],ty:=56 })).put H.next (.arr { cells:= [vi e.kind,vi e.day,vi e.person,vi e.other,vi e.estate,vi e.grant,vi e.system,vi e.units],ty:=56 })).get H.next=some (.arr { cells:= [vi e.kind,vi e.day,vi e.person,vi e.other,vi e.estate,vi e.grant,vi e.system,vi e.units],ty:=56 }):=by simp
 have hnx:((H.push (.arr { cells:= [vi 0,vi 0,vi 0,vi 0,vi 0,vi 0,vi 0,vi 0],ty:=56 })).put H.next (.arr { cells:= [vi e.kind,vi e.day,vi e.person,vi e.other,vi e.estate,vi e.grant,vi e.system,vi e.units],ty:=56 })).next=H.next+1:=by simp
 have hOl:∀g,O g→g<H.next:=fun g hg=>(h.lt g hg).2
 have hlen:=hw.len
 have hla:=hw.last
 have hlo:=hw.own
 have hltI:(i:Int)<b.events.length:=by omega
 obtain ⟨_,_,_,_,_,_,_,_,_,h0,_⟩:=h
 have hg0:=h0.g
 obtain ⟨ae,rfl,haeb,hrev⟩:=h0.book.events.at i hi
 rw [hE] at hrev
 simp (disch:=omega) [hg0,hrev]
 generalize hH1:GH.put (GH.push H _) H.next (.arr { cells:= [vi e.kind,vi e.day,vi e.person,vi e.other,vi e.estate,vi e.grant,vi e.system,vi e.units],ty:=56 })=H1 at*
 have hdo:doS b s e i=giveS s e:=by unfold doS; simp [k]
 rw [hdo] at hwd hGd ⊢
 simp (disch:=omega) [hge,k]
 refine (rgrant_con h1S (by omega) (by omega) _ _ _ _).mono ?_
 rintro x H5 ⟨rfl,O5,f5,h5⟩
 simp
 refine (rserve_con h5 hwd hGd hsu).mono ?_
 rintro x H6 ⟨rfl,O6,f6,h6⟩
 simp
 exact ⟨O6,f1.trans (f5.trans f6),h6⟩
theorem rdo2 (h:RegS H N l b sg s O) (hw:Wf b s) (_hG:Wg b s) (hsu:0≤b.supply∧b.supply≤10000) {i:Nat} (hi:i<b.events.length) {e:Ev} (hE:b.events[i]=e) (k:e.kind=2) (he:EvOk b s e) (hgo:goesB b s e=true) (hwd:Wf b (doS b s e i)) (hGd:Wg b (doS b s e i)):
  GCall Tryz.prog 83 [.pointer (some (ga sg 0 0)),vi i] H fun x H'=>x=.ret (.tuple #[])∧∃O',Frm O O' H H'∧RegS H' N l b sg (serve b (doS b s e i)) O':=by
 rcases l with ⟨⟨⟨ra,rf⟩⟩,⟨oa,of'⟩,⟨va',vf'⟩⟩
 refine gcall_wp tok mix fok83 (F:=g83) (c:=_) rfl (n:=168) rfl (rs:= []) rfl ?_
 have hs1:Sub H ((H.push (.arr { cells:= [vi 0,vi 0,vi 0,vi 0,vi 0,vi 0,vi 0,vi 0],ty:=56 })).put H.next (.arr { cells:= [vi e.kind,vi e.day,vi e.person,vi e.other,vi e.estate,vi e.grant,vi e.system,vi e.units],ty:=56 })):=(Sub.push (.refl H) _).put (Nat.le_refl _) _
 obtain ⟨h1S,f1⟩:=h.sub hs1
 have hge:((H.push (.arr { cells:= [vi 0,vi 0,vi 0,vi 0,vi 0,vi 0,vi 0,vi 0],ty:=56 })).put H.next (.arr { cells:= [vi e.kind,vi e.day,vi e.person,vi e.other,vi e.estate,vi e.grant,vi e.system,vi e.units],ty:=56 })).get H.next=some (.arr { cells:= [vi e.kind,vi e.day,vi e.person,vi e.other,vi e.estate,vi e.grant,vi e.system,vi e.units],ty:=56 }):=by simp
 have hnx:((H.push (.arr { cells:= [vi 0,vi 0,vi 0,vi 0,vi 0,vi 0,vi 0,vi 0],ty:=56 })).put H.next (.arr { cells:= [vi e.kind,vi e.day,vi e.person,vi e.other,vi e.estate,vi e.grant,vi e.system,vi e.units],ty:=56 })).next=H.next+1:=by simp
 have hOl:∀g,O g→g<H.next:=fun g hg=>(h.lt g hg).2
 have hlen:=hw.len
 have hla:=hw.last
 have hlo:=hw.own
 have hltI:(i:Int)<b.events.length:=by omega
 obtain ⟨_,_,_,_,_,_,_,_,_,h0,_⟩:=h
 have hg0:=h0.g
 obtain ⟨ae,rfl,haeb,hrev⟩:=h0.book.events.at i hi
 rw [hE] at hrev
 simp (disch:=omega) [hg0,hrev]
 generalize hH1:GH.put (GH.push H _) H.next (.arr { cells:= [vi e.kind,vi e.day,vi e.person,vi e.other,vi e.estate,vi e.grant,vi e.system,vi e.units],ty:=56 })=H1 at*
 have hdo:doS b s e i=attachS s e:=by unfold doS; simp [k]
 rw [hdo] at hwd hGd ⊢
 have hes:=he.estate
 have hgo':=hgo
 simp [goesB,k,existsB] at hgo'
 obtain ⟨v1,v2,vl,vo,vg,va,vw,vb,vd,h1,hO⟩:=h1S
 have hg:=h1.g
 have hsl:=h1.sgl.2
 obtain ⟨ao,fo,rfl,hEo⟩:=h1.owners.elems (fun _=>rfl)
 obtain ⟨ao,rfl,hao,hro⟩:=hEo.at e.estate.toNat (by omega)
 have e2:s.owners.getD e.estate.toNat 0=s.owners[e.estate.toNat]'(by omega):=getD_at (by omega)
 have hlt:e.estate<s.owners.length:=by omega
 simp (disch:=omega) [hge,k,hg,hro]
 unfold attachS at hwd hGd ⊢
 rw [e2] at hwd hGd ⊢
 refine (rgrant_con ⟨_,_,_,_,_,_,_,_,_,h1,hO⟩ (by omega) (by omega) _ _ _ _).mono ?_
 rintro x H5 ⟨rfl,O5,f5,h5⟩
 simp
 refine (rserve_con h5 hwd hGd hsu).mono ?_
 rintro x H6 ⟨rfl,O6,f6,h6⟩
 simp
 exact ⟨O6,f1.trans (f5.trans f6),h6⟩
theorem rdo3 (h:RegS H N l b sg s O) (hw:Wf b s) (hG:Wg b s) (hsu:0≤b.supply∧b.supply≤10000) {i:Nat} (hi:i<b.events.length) {e:Ev} (hE:b.events[i]=e) (k:e.kind=3) (he:EvOk b s e) (_hgo:goesB b s e=true) (hwd:Wf b (doS b s e i)) (hGd:Wg b (doS b s e i)):
  GCall Tryz.prog 83 [.pointer (some (ga sg 0 0)),vi i] H fun x H'=>x=.ret (.tuple #[])∧∃O',Frm O O' H H'∧RegS H' N l b sg (serve b (doS b s e i)) O':=by
 rcases l with ⟨⟨⟨ra,rf⟩⟩,⟨oa,of'⟩,⟨va',vf'⟩⟩
 refine gcall_wp tok mix fok83 (F:=g83) (c:=_) rfl (n:=168) rfl (rs:= []) rfl ?_
 have hs1:Sub H ((H.push (.arr { cells:= [vi 0,vi 0,vi 0,vi 0,vi 0,vi 0,vi 0,vi 0],ty:=56 })).put H.next (.arr { cells:= [vi e.kind,vi e.day,vi e.person,vi e.other,vi e.estate,vi e.grant,vi e.system,vi e.units],ty:=56 })):=(Sub.push (.refl H) _).put (Nat.le_refl _) _
 obtain ⟨h1S,f1⟩:=h.sub hs1
 have hge:((H.push (.arr { cells:= [vi 0,vi 0,vi 0,vi 0,vi 0,vi 0,vi 0,vi 0],ty:=56 })).put H.next (.arr { cells:= [vi e.kind,vi e.day,vi e.person,vi e.other,vi e.estate,vi e.grant,vi e.system,vi e.units],ty:=56 })).get H.next=some (.arr { cells:= [vi e.kind,vi e.day,vi e.person,vi e.other,vi e.estate,vi e.grant,vi e.system,vi e.units],ty:=56 }):=by simp
 have hnx:((H.push (.arr { cells:= [vi 0,vi 0,vi 0,vi 0,vi 0,vi 0,vi 0,vi 0],ty:=56 })).put H.next (.arr { cells:= [vi e.kind,vi e.day,vi e.person,vi e.other,vi e.estate,vi e.grant,vi e.system,vi e.units],ty:=56 })).next=H.next+1:=by simp
 have hOl:∀g,O g→g<H.next:=fun g hg=>(h.lt g hg).2
 have hlen:=hw.len
 have hla:=hw.last
 have hlo:=hw.own
 have hltI:(i:Int)<b.events.length:=by omega
 obtain ⟨_,_,_,_,_,_,_,_,_,h0,_⟩:=h
 have hg0:=h0.g
 obtain ⟨ae,rfl,haeb,hrev⟩:=h0.book.events.at i hi
 rw [hE] at hrev
 simp (disch:=omega) [hg0,hrev]
 generalize hH1:GH.put (GH.push H _) H.next (.arr { cells:= [vi e.kind,vi e.day,vi e.person,vi e.other,vi e.estate,vi e.grant,vi e.system,vi e.units],ty:=56 })=H1 at*
 have hdo:doS b s e i=dieS b s e:=by unfold doS; simp [k]
 rw [hdo] at hwd hGd ⊢
 simp (disch:=omega) [hge,k]
 have hd:=rdies_con h1S hw hG hsu e (he.person (by omega) (by omega))
 simp only [evV,k] at hd
 refine hd.mono ?_
 rintro x H5 ⟨rfl,O5,f5,h5⟩
 simp
 refine (rserve_con h5 hwd hGd hsu).mono ?_
 rintro x H6 ⟨rfl,O6,f6,h6⟩
 simp
 exact ⟨O6,f1.trans (f5.trans f6),h6⟩
theorem rdo4 (h:RegS H N l b sg s O) (hw:Wf b s) (_hG:Wg b s) (hsu:0≤b.supply∧b.supply≤10000) {i:Nat} (hi:i<b.events.length) {e:Ev} (hE:b.events[i]=e) (k:e.kind=4) (he:EvOk b s e) (hgo:goesB b s e=true) (hwd:Wf b (doS b s e i)) (hGd:Wg b (doS b s e i)):
  GCall Tryz.prog 83 [.pointer (some (ga sg 0 0)),vi i] H fun x H'=>x=.ret (.tuple #[])∧∃O',Frm O O' H H'∧RegS H' N l b sg (serve b (doS b s e i)) O':=by
 rcases l with ⟨⟨⟨ra,rf⟩⟩,⟨oa,of'⟩,⟨va',vf'⟩⟩
 refine gcall_wp tok mix fok83 (F:=g83) (c:=_) rfl (n:=168) rfl (rs:= []) rfl ?_
 have hs1:Sub H ((H.push (.arr { cells:= [vi 0,vi 0,vi 0,vi 0,vi 0,vi 0,vi 0,vi 0],ty:=56 })).put H.next (.arr { cells:= [vi e.kind,vi e.day,vi e.person,vi e.other,vi e.estate,vi e.grant,vi e.system,vi e.units],ty:=56 })):=(Sub.push (.refl H) _).put (Nat.le_refl _) _
 obtain ⟨h1S,f1⟩:=h.sub hs1
 have hge:((H.push (.arr { cells:= [vi 0,vi 0,vi 0,vi 0,vi 0,vi 0,vi 0,vi 0],ty:=56 })).put H.next (.arr { cells:= [vi e.kind,vi e.day,vi e.person,vi e.other,vi e.estate,vi e.grant,vi e.system,vi e.units],ty:=56 })).get H.next=some (.arr { cells:= [vi e.kind,vi e.day,vi e.person,vi e.other,vi e.estate,vi e.grant,vi e.system,vi e.units],ty:=56 }):=by simp
 have hnx:((H.push (.arr { cells:= [vi 0,vi 0,vi 0,vi 0,vi 0,vi 0,vi 0,vi 0],ty:=56 })).put H.next (.arr { cells:= [vi e.kind,vi e.day,vi e.person,vi e.other,vi e.estate,vi e.grant,vi e.system,vi e.units],ty:=56 })).next=H.next+1:=by simp
 have hOl:∀g,O g→g<H.next:=fun g hg=>(h.lt g hg).2
 have hlen:=hw.len
 have hla:=hw.last
 have hlo:=hw.own
 have hltI:(i:Int)<b.events.length:=by omega
 obtain ⟨_,_,_,_,_,_,_,_,_,h0,_⟩:=h
 have hg0:=h0.g
 obtain ⟨ae,rfl,haeb,hrev⟩:=h0.book.events.at i hi
 rw [hE] at hrev
 simp (disch:=omega) [hg0,hrev]
 generalize hH1:GH.put (GH.push H _) H.next (.arr { cells:= [vi e.kind,vi e.day,vi e.person,vi e.other,vi e.estate,vi e.grant,vi e.system,vi e.units],ty:=56 })=H1 at*
 have hdo:doS b s e i=ownS s e.estate.toNat e.person:=by unfold doS; simp [k]
 rw [hdo] at hwd hGd ⊢
 have hes:=he.estate
 have hgo':=hgo
 simp [goesB,k,existsB] at hgo'
 obtain ⟨en,hen⟩:=Int.eq_ofNat_of_zero_le hes
 obtain ⟨v1,v2,vl,vo,vg,va,vw,vb,vd,h1,hO⟩:=h1S
 simp (disch:=omega) [hge,k]
 have ho:=rown_con h1 hO (by omega) en (by omega) e.person
 rw [←hen,show en=e.estate.toNat by omega] at ho
 refine (ho.mono (R':=fun x H'=>x=.ret (.tuple #[])∧∃O',Frm O O' H1 H'∧RegS H' N ⟨⟨⟨ra,rf⟩⟩,⟨oa,of'⟩,⟨some ae,vf'⟩⟩ b sg (ownS s e.estate.toNat e.person) O') (fun x H' hx=>⟨hx.1,O,hx.2.1,_,_,_,_,_,_,_,_,_,hx.2.2.1,hx.2.2.2⟩)).mono ?_
 rintro x H5 ⟨rfl,O5,f5,h5⟩
 simp
 refine (rserve_con h5 hwd hGd hsu).mono ?_
 rintro x H6 ⟨rfl,O6,f6,h6⟩
 simp
 exact ⟨O6,f1.trans (f5.trans f6),h6⟩
theorem rdo5 (h:RegS H N l b sg s O) (hw:Wf b s) (_hG:Wg b s) (hsu:0≤b.supply∧b.supply≤10000) {i:Nat} (hi:i<b.events.length) {e:Ev} (hE:b.events[i]=e) (k:e.kind=5) (he:EvOk b s e) (hgo:goesB b s e=true) (hwd:Wf b (doS b s e i)) (hGd:Wg b (doS b s e i)):
  GCall Tryz.prog 83 [.pointer (some (ga sg 0 0)),vi i] H fun x H'=>x=.ret (.tuple #[])∧∃O',Frm O O' H H'∧RegS H' N l b sg (serve b (doS b s e i)) O':=by
 rcases l with ⟨⟨⟨ra,rf⟩⟩,⟨oa,of'⟩,⟨va',vf'⟩⟩
 refine gcall_wp tok mix fok83 (F:=g83) (c:=_) rfl (n:=168) rfl (rs:= []) rfl ?_
 have hs1:Sub H ((H.push (.arr { cells:= [vi 0,vi 0,vi 0,vi 0,vi 0,vi 0,vi 0,vi 0],ty:=56 })).put H.next (.arr { cells:= [vi e.kind,vi e.day,vi e.person,vi e.other,vi e.estate,vi e.grant,vi e.system,vi e.units],ty:=56 })):=(Sub.push (.refl H) _).put (Nat.le_refl _) _
 obtain ⟨h1S,f1⟩:=h.sub hs1
 have hge:((H.push (.arr { cells:= [vi 0,vi 0,vi 0,vi 0,vi 0,vi 0,vi 0,vi 0],ty:=56 })).put H.next (.arr { cells:= [vi e.kind,vi e.day,vi e.person,vi e.other,vi e.estate,vi e.grant,vi e.system,vi e.units],ty:=56 })).get H.next=some (.arr { cells:= [vi e.kind,vi e.day,vi e.person,vi e.other,vi e.estate,vi e.grant,vi e.system,vi e.units],ty:=56 }):=by simp
 have hnx:((H.push (.arr { cells:= [vi 0,vi 0,vi 0,vi 0,vi 0,vi 0,vi 0,vi 0],ty:=56 })).put H.next (.arr { cells:= [vi e.kind,vi e.day,vi e.person,vi e.other,vi e.estate,vi e.grant,vi e.system,vi e.units],ty:=56 })).next=H.next+1:=by simp
 have hOl:∀g,O g→g<H.next:=fun g hg=>(h.lt g hg).2
 have hlen:=hw.len
 have hla:=hw.last
 have hlo:=hw.own
 have hltI:(i:Int)<b.events.length:=by omega
 obtain ⟨_,_,_,_,_,_,_,_,_,h0,_⟩:=h
 have hg0:=h0.g
 obtain ⟨ae,rfl,haeb,hrev⟩:=h0.book.events.at i hi
 rw [hE] at hrev
 simp (disch:=omega) [hg0,hrev]
 generalize hH1:GH.put (GH.push H _) H.next (.arr { cells:= [vi e.kind,vi e.day,vi e.person,vi e.other,vi e.estate,vi e.grant,vi e.system,vi e.units],ty:=56 })=H1 at*
 have hdo:doS b s e i=divideS s e:=by unfold doS; simp [k]
 rw [hdo] at hwd hGd ⊢
 have hgr:=he.grant
 have hgo':=hgo
 simp [goesB,k,divB] at hgo'
 have hlt:e.grant<s.grants.length:=hgo'.1
 obtain ⟨v1,v2,vl,vo,vg,va,vw,vb,vd,h1,hO⟩:=h1S
 have hg:=h1.g
 have hsl:=h1.sgl.2
 have hsN:=h1.sgl.1
 have hlow:=h1.owners.len
 obtain ⟨ag,fg,rfl,hEg⟩:=h1.grants.elems (fun _=>rfl)
 obtain ⟨ag,rfl,hag,_⟩:=hEg.at e.grant.toNat (by omega)
 have e2:s.grants.getD e.grant.toNat default=s.grants[e.grant.toNat]'(by omega):=getD_at (by omega)
 obtain ⟨vo',H3,happ,ho3,hn3,hf3,hb3⟩:=(h1.owners.push (.arr { cells:= [vi e.person],ty:=3 })).app (by simp) (by simp) (by decide) e.person (by simp; omega)
 simp only [encI] at happ
 simp only [GH.next_push] at hn3
 have d8:8*(1+s.owners.length)≤1000000:=by omega
 have d9:1+s.owners.length≤1000000:=by omega
 have hg3:=(hf3 sg (by simp; omega) (h1.ne 3 (by decide))).trans ((GH.get_push_lt _ _ hsl).trans hg)
 have he3:=(hf3 H.next (by simp; omega) (fun hc=>by have:=hOl _ ((hO _).2 (h1.own_ 3 (by decide) hc)); omega)).trans ((GH.get_push_lt _ _ (by omega)).trans hge)
 obtain ⟨ao,fo,rfl⟩:=ho3.slice
 obtain ⟨hS3,hW3⟩:=h1.upd 3 (by decide) (H1:=H3) (s1:= { s with owners:=s.owners++ [e.person] }) (bk1:=s.fell.map Prod.fst) (dy1:=s.fell.map Prod.snd) (by omega) (ownL_id.2 ho3) (fun k hk hne=>by rw [hf3 k (by simp; omega) hne,GH.get_push_lt _ _ hk]) (fun k hk=>(hb3 k hk).imp id fun h=>by simp at h; omega) rfl
 simp only [bookC,List.cons_append,List.nil_append,List.length_append,List.length_cons,List.length_nil,Nat.zero_add] at hS3 hW3
 have hne:H.next≠sg:=by have:=hOl _ ((hO sg).2 (.inl rfl)); omega
 generalize hH4:H3.put sg _=H4 at hS3
 have hf4:∀g,g<H1.next→¬O g→H4.get g=H1.get g:=fun k hk ho=>by
  rw [hO] at ho
  subst hH4
  rw [GH.get_put_ne _ _ (fun hc=>ho (.inl hc)),hf3 k (by simp; omega) (fun hc=>ho (h1.own_ 3 (by decide) hc)),GH.get_push_lt _ _ (by omega)]
 have hn4:H1.next+1≤H4.next:=by subst hH4; simp; omega
 have he4:H4.get H.next=some (.arr { cells:= [vi e.kind,vi e.day,vi e.person,vi e.other,vi e.estate,vi e.grant,vi e.system,vi e.units],ty:=56 }):=by subst hH4; exact (GH.get_put_ne _ _ hne).trans he3
 obtain ⟨O4,f4,h4⟩:=RegS.of h1 hO hS3 (by omega) hf4 hW3
 have hrg:=(hS3.grants.elems' (fun _=>rfl)).at e.grant.toNat (by show e.grant.toNat<s.grants.length; omega)
 obtain ⟨ag',hag',hagb,hrg⟩:=hrg
 cases hag'
 have hg4:=hS3.g
 simp only [bookC,List.cons_append,List.nil_append] at hg3 hg4
 simp (disch:=omega) [hge,k,hg,hlow,d8,d9,happ,hg3,hH4,hg4,he4,hrg]
 generalize hH5:GH.put (GH.push H4 _) H4.next _=H5
 have hs5:Sub H4 H5:=by subst hH5; exact (Sub.push (.refl H4) _).put (Nat.le_refl _) _
 have hb5:H5.get H4.next=some (.arr { cells:=encSt (s.grants[e.grant.toNat]'(by omega)),ty:=41 }):=by subst hH5; simp
 have hn5:H4.next<H5.next:=by subst hH5; simp
 clear hH5
 have he5:=(hs5.2 H.next (by omega)).trans he4
 have hS5:=hS3.sub hs5
 have hg5:=hS5.g
 have hsl5:=hS5.sgl.2
 have hbk:=hS5.grants.blk_some
 have hbgs:ag.block≠sg:=fun hc=>hS5.ne 4 (by decide) (hbk.trans (congrArg some hc))
 have hagO:O ag.block:=(hO _).2 (h1.own_ 4 (by decide) (h1.grants.blk_some))
 obtain ⟨H6,hw6,ho6,hn6,hs6⟩:=hS5.grants.wr (fun _=>rfl) (i:=e.grant.toNat) (k:=4) (by show e.grant.toNat<s.grants.length; omega) (c:=vi (IntKind.i64.wrap ((s.grants[e.grant.toNat]'(by omega)).units - e.units))) (new:= []) (by simp) (y:= { s.grants[e.grant.toNat]'(by omega) with units:=IntKind.i64.wrap ((s.grants[e.grant.toNat]'(by omega)).units - e.units) }) (by simp [splice])
 obtain ⟨hS6,hW6⟩:=hS5.wr 4 (by decide) (H1:=H6) (s1:= { s with owners:=s.owners++ [e.person],grants:=s.grants.set e.grant.toNat { s.grants[e.grant.toNat]'(by omega) with units:=IntKind.i64.wrap ((s.grants[e.grant.toNat]'(by omega)).units - e.units) } }) (bk1:=s.fell.map Prod.fst) (dy1:=s.fell.map Prod.snd) (by omega) (ownL_id.2 ho6) (fun k hk hne=>hs6 k fun hc=>hne (hbk.trans (congrArg some hc.symm))) rfl
 have he6:=(hs6 H.next (fun hc=>by have:=hOl _ hagO; omega)).trans he5
 have hb6:=(hs6 H4.next (fun hc=>by have:=hOl _ hagO; omega)).trans hb5
 have hg6:=(hs6 sg (Ne.symm hbgs)).trans hg5
 simp only [bookC,List.cons_append,List.nil_append] at hg5 hg6
 have hlen3:IntKind.i64.wrap (s.owners.length:Int)=s.owners.length:=by simp (disch:=omega) [wrap64]
 simp (disch:=omega) [hw6,hg6,he6,hb6,hlen3]
 obtain ⟨O6,f6,h6⟩:=RegS.of h1 hO hS6 (by omega) (fun g hg ho=>by
  rw [hs6 g (fun hc=>ho (by rw [hc]; exact hagO)),hs5.2 g (by omega),hf4 g hg ho]) (fun g hg=>hW3 g ((hW6 g).1 hg))
 have hds:divideS s e=addG { s with owners:=s.owners++ [e.person],grants:=s.grants.set e.grant.toNat { s.grants[e.grant.toNat]'(by omega) with units:=IntKind.i64.wrap ((s.grants[e.grant.toNat]'(by omega)).units - e.units) } } e.person s.owners.length (s.grants[e.grant.toNat]'(by omega)).system e.units:=by unfold divideS; rw [e2]
 rw [hds] at hwd hGd ⊢
 refine (rgrant_con h6 (by simp; omega) (by show s.last.length≤1000; omega) _ _ _ _).mono ?_
 rintro x H7 ⟨rfl,O7,f7,h7⟩
 simp
 refine (rserve_con h7 hwd hGd hsu).mono ?_
 rintro x H8 ⟨rfl,O8,f8,h8⟩
 simp
 exact ⟨O8,f1.trans (f6.trans (f7.trans f8)),h8⟩
theorem rdo6 (h:RegS H N l b sg s O) (hw:Wf b s) (_hG:Wg b s) (hsu:0≤b.supply∧b.supply≤10000) {i:Nat} (hi:i<b.events.length) {e:Ev} (hE:b.events[i]=e) (k:e.kind=6) (he:EvOk b s e) (hgo:goesB b s e=true) (hwd:Wf b (doS b s e i)) (hGd:Wg b (doS b s e i)):
  GCall Tryz.prog 83 [.pointer (some (ga sg 0 0)),vi i] H fun x H'=>x=.ret (.tuple #[])∧∃O',Frm O O' H H'∧RegS H' N l b sg (serve b (doS b s e i)) O':=by
 rcases l with ⟨⟨⟨ra,rf⟩⟩,⟨oa,of'⟩,⟨va',vf'⟩⟩
 refine gcall_wp tok mix fok83 (F:=g83) (c:=_) rfl (n:=168) rfl (rs:= []) rfl ?_
 have hs1:Sub H ((H.push (.arr { cells:= [vi 0,vi 0,vi 0,vi 0,vi 0,vi 0,vi 0,vi 0],ty:=56 })).put H.next (.arr { cells:= [vi e.kind,vi e.day,vi e.person,vi e.other,vi e.estate,vi e.grant,vi e.system,vi e.units],ty:=56 })):=(Sub.push (.refl H) _).put (Nat.le_refl _) _
 obtain ⟨h1S,f1⟩:=h.sub hs1
 have hge:((H.push (.arr { cells:= [vi 0,vi 0,vi 0,vi 0,vi 0,vi 0,vi 0,vi 0],ty:=56 })).put H.next (.arr { cells:= [vi e.kind,vi e.day,vi e.person,vi e.other,vi e.estate,vi e.grant,vi e.system,vi e.units],ty:=56 })).get H.next=some (.arr { cells:= [vi e.kind,vi e.day,vi e.person,vi e.other,vi e.estate,vi e.grant,vi e.system,vi e.units],ty:=56 }):=by simp
 have hnx:((H.push (.arr { cells:= [vi 0,vi 0,vi 0,vi 0,vi 0,vi 0,vi 0,vi 0],ty:=56 })).put H.next (.arr { cells:= [vi e.kind,vi e.day,vi e.person,vi e.other,vi e.estate,vi e.grant,vi e.system,vi e.units],ty:=56 })).next=H.next+1:=by simp
 have hOl:∀g,O g→g<H.next:=fun g hg=>(h.lt g hg).2
 have hlen:=hw.len
 have hla:=hw.last
 have hlo:=hw.own
 have hltI:(i:Int)<b.events.length:=by omega
 obtain ⟨_,_,_,_,_,_,_,_,_,h0,_⟩:=h
 have hg0:=h0.g
 obtain ⟨ae,rfl,haeb,hrev⟩:=h0.book.events.at i hi
 rw [hE] at hrev
 simp (disch:=omega) [hg0,hrev]
 generalize hH1:GH.put (GH.push H _) H.next (.arr { cells:= [vi e.kind,vi e.day,vi e.person,vi e.other,vi e.estate,vi e.grant,vi e.system,vi e.units],ty:=56 })=H1 at*
 have hdo:doS b s e i=joinS s e:=by unfold doS; simp [k]
 rw [hdo] at hwd hGd ⊢
 have hot:=he.other0
 have hgo':=hgo
 simp [goesB,k,existsB] at hgo'
 have hlt:e.other<s.owners.length:=hgo'.2.2.1.1
 obtain ⟨v1,v2,vl,vo,vg,va,vw,vb,vd,h1,hO⟩:=h1S
 have hg:=h1.g
 have hsl:=h1.sgl.2
 obtain ⟨ao,fo,rfl,hEo⟩:=h1.owners.elems (fun _=>rfl)
 obtain ⟨ao,rfl,hao,hro⟩:=hEo.at e.other.toNat (by omega)
 obtain ⟨ag,fg,rfl,hEg⟩:=h1.grants.elems (fun _=>rfl)
 have hbk:=h1.owners.blk_some
 have hbgs:ao.block≠sg:=fun hc=>h1.ne 3 (by decide) (hbk.trans (congrArg some hc))
 have hOo:O ao.block:=(hO _).2 (h1.own_ 3 (by decide) hbk)
 obtain ⟨H2,hw2,ho2,hn2,hs2⟩:=h1.owners.wr (fun _=>rfl) (i:=e.other.toNat) (k:=0) (by omega) (c:=vi (-1)) (new:= []) (by simp) (y:=(-1:Int)) (by simp [splice])
 have hg2:=(hs2 sg (Ne.symm hbgs)).trans hg
 obtain ⟨hS2,hW2⟩:=h1.wr 3 (by decide) (H1:=H2) (s1:= { s with owners:=s.owners.set e.other.toNat (-1) }) (bk1:=s.fell.map Prod.fst) (dy1:=s.fell.map Prod.snd) (by omega) (ownL_id.2 ho2) (fun k hk hne=>hs2 k fun hc=>hne (hbk.trans (congrArg some hc.symm))) rfl
 have f2:Frm O O H1 H2:=Frm.wr f1.lt hOo hn2 hs2
 simp (disch:=omega) [hge,k,hg,hw2]
 refine wp_up tok mix (by kernel_rfl) s.grants.length (fun i ρ m H3=>ρ 0=.pointer (some (ga sg 0 0))∧ρ 4=.pointer (some (ga H.next 0 0))∧ρ 6=vi i∧m= []∧Frm O O H1 H3∧
  RIn H3 N ⟨⟨⟨ra,rf⟩⟩,⟨oa,of'⟩,⟨some ae,vf'⟩⟩ b sg { s with owners:=s.owners.set e.other.toNat (-1),grants:=upto (joinF e) s.grants i } (s.fell.map Prod.fst) (s.fell.map Prod.snd) v1 v2 vl (.slice (some ao) s.owners.length fo) (.slice ag s.grants.length fg) va vw vb vd∧
  (∀g,O g↔RecOwn sg (vecs b { s with owners:=s.owners.set e.other.toNat (-1),grants:=upto (joinF e) s.grants i } (s.fell.map Prod.fst) (s.fell.map Prod.snd) v1 v2 vl (.slice (some ao) s.owners.length fo) (.slice ag s.grants.length fg) va vw vb vd) g)) (i0:=0) (by omega)
  ⟨by simp,by simp,by simp,by simp,f2,by rw [upto_zero]; exact hS2,by rw [upto_zero]; exact fun g=>(hO g).trans (hW2 g).symm⟩ ?_
 rintro j ρ m H3 hj ⟨e0,e4,e6,rfl,f3,h3,hO3⟩
 have hg3:=h3.g
 have he3:=(f3.keep H.next (by omega) (fun hc=>by have:=hOl _ hc; omega)).trans hge
 have hn3:=f3.next
 simp (disch:=omega) [e0,e6,hg3]
 refine wpB_dec (fun hlt2=>?_) (fun hge2=>?_)
 ·obtain ⟨a2,rfl,hab,hrd⟩:=(h3.grants.elems' (fun _=>rfl)).at j (by rw [upto_len]; exact hlt2)
  rw [upto_at _ hlt2] at hrd
  have hltI2:(j:Int)<s.grants.length:=by omega
  have hbk2:=h3.grants.blk_some
  have hOg:O a2.block:=(hO3 _).2 (h3.own_ 4 (by decide) hbk2)
  have hsu2:=upto_succ (joinF e) hlt2
  simp (disch:=omega) [e0,e4,e6,hg3,hrd,he3]
  refine wpB_bool (fun h5=>?_) (fun h5=>?_)<;>(try simp only [decide_eq_true_eq,decide_eq_false_iff_not] at h5)
  ·obtain ⟨H4,hw4,ho4,hn4,hs4⟩:=h3.grants.wr (fun _=>rfl) (i:=j) (k:=2) (by rw [upto_len]; exact hlt2) (c:=vi e.estate) (new:= []) (by simp) (y:= { s.grants[j] with estate:=e.estate }) (by rw [upto_at _ hlt2]; simp [splice])
   simp (disch:=omega) [e0,e4,e6,hg3,he3,hw4]
   have hjf:joinF e s.grants[j]= { s.grants[j] with estate:=e.estate }:=by unfold joinF; rw [if_pos h5]
   obtain ⟨h4,hW4⟩:=h3.wr 4 (by decide) (H1:=H4) (s1:= { s with owners:=s.owners.set e.other.toNat (-1),grants:=upto (joinF e) s.grants (j+1) }) (bk1:=s.fell.map Prod.fst) (dy1:=s.fell.map Prod.snd) (by omega) (ownL_id.2 ho4) (fun k hk hne=>hs4 k fun hc=>hne (hbk2.trans (congrArg some hc.symm))) (by rw [hsu2,hjf]; rfl)
   simp (disch:=omega) [hlt2,wrap64]
   exact ⟨f3.trans (Frm.wr f3.lt hOg hn4 hs4),h4,fun g=>(hO3 g).trans (hW4 g).symm⟩
  ·simp (disch:=omega) [e0,e4,e6,hlt2,wrap64]
   have hjf:joinF e s.grants[j]=s.grants[j]:=by unfold joinF; rw [if_neg h5]
   have:(upto (joinF e) s.grants j).set j s.grants[j]=upto (joinF e) s.grants j:=by
    conv=>lhs; rw [←upto_at (joinF e) hlt2]
    exact List.set_getElem_self _
   rw [hsu2,hjf,this]
   exact ⟨f3,h3,hO3⟩
 ·have:j=s.grants.length:=by omega
  subst this
  rw [upto_all] at h3 hO3
  simp [e0]
  refine (rserve_con ⟨_,_,_,_,_,_,_,_,_,h3,hO3⟩ hwd hGd hsu).mono ?_
  rintro x H6 ⟨rfl,O6,f6,h6⟩
  simp
  exact ⟨O6,f1.trans (f3.trans f6),h6⟩
theorem rdo7 (h:RegS H N l b sg s O) (hw:Wf b s) (_hG:Wg b s) (hsu:0≤b.supply∧b.supply≤10000) {i:Nat} (hi:i<b.events.length) {e:Ev} (hE:b.events[i]=e) (k:e.kind=7) (he:EvOk b s e) (hgo:goesB b s e=true) (hwd:Wf b (doS b s e i)) (hGd:Wg b (doS b s e i)):
  GCall Tryz.prog 83 [.pointer (some (ga sg 0 0)),vi i] H fun x H'=>x=.ret (.tuple #[])∧∃O',Frm O O' H H'∧RegS H' N l b sg (serve b (doS b s e i)) O':=by
 rcases l with ⟨⟨⟨ra,rf⟩⟩,⟨oa,of'⟩,⟨va',vf'⟩⟩
 refine gcall_wp tok mix fok83 (F:=g83) (c:=_) rfl (n:=168) rfl (rs:= []) rfl ?_
 have hs1:Sub H ((H.push (.arr { cells:= [vi 0,vi 0,vi 0,vi 0,vi 0,vi 0,vi 0,vi 0],ty:=56 })).put H.next (.arr { cells:= [vi e.kind,vi e.day,vi e.person,vi e.other,vi e.estate,vi e.grant,vi e.system,vi e.units],ty:=56 })):=(Sub.push (.refl H) _).put (Nat.le_refl _) _
 obtain ⟨h1S,f1⟩:=h.sub hs1
 have hge:((H.push (.arr { cells:= [vi 0,vi 0,vi 0,vi 0,vi 0,vi 0,vi 0,vi 0],ty:=56 })).put H.next (.arr { cells:= [vi e.kind,vi e.day,vi e.person,vi e.other,vi e.estate,vi e.grant,vi e.system,vi e.units],ty:=56 })).get H.next=some (.arr { cells:= [vi e.kind,vi e.day,vi e.person,vi e.other,vi e.estate,vi e.grant,vi e.system,vi e.units],ty:=56 }):=by simp
 have hnx:((H.push (.arr { cells:= [vi 0,vi 0,vi 0,vi 0,vi 0,vi 0,vi 0,vi 0],ty:=56 })).put H.next (.arr { cells:= [vi e.kind,vi e.day,vi e.person,vi e.other,vi e.estate,vi e.grant,vi e.system,vi e.units],ty:=56 })).next=H.next+1:=by simp
 have hOl:∀g,O g→g<H.next:=fun g hg=>(h.lt g hg).2
 have hlen:=hw.len
 have hla:=hw.last
 have hlo:=hw.own
 have hltI:(i:Int)<b.events.length:=by omega
 obtain ⟨_,_,_,_,_,_,_,_,_,h0,_⟩:=h
 have hg0:=h0.g
 obtain ⟨ae,rfl,haeb,hrev⟩:=h0.book.events.at i hi
 rw [hE] at hrev
 simp (disch:=omega) [hg0,hrev]
 generalize hH1:GH.put (GH.push H _) H.next (.arr { cells:= [vi e.kind,vi e.day,vi e.person,vi e.other,vi e.estate,vi e.grant,vi e.system,vi e.units],ty:=56 })=H1 at*
 have hdo:doS b s e i=renewS s e:=by unfold doS; simp [k]
 rw [hdo] at hwd hGd ⊢
 have hgr:=he.grant
 have hgo':=hgo
 simp [goesB,k] at hgo'
 obtain ⟨v1,v2,vl,vo,vg,va,vw,vb,vd,h1,hO⟩:=h1S
 have hg:=h1.g
 have hsl:=h1.sgl.2
 obtain ⟨ag,fg,rfl,hEg⟩:=h1.grants.elems (fun _=>rfl)
 obtain ⟨ag,rfl,hag,hrg⟩:=hEg.at e.grant.toNat (by omega)
 have hbk:=h1.grants.blk_some
 have e2:s.grants.getD e.grant.toNat default=s.grants[e.grant.toNat]'(by omega):=getD_at (by omega)
 have hlt:e.grant<s.grants.length:=by omega
 obtain ⟨H2,hw2,ho2,hn2,hs2⟩:=h1.grants.wr (fun _=>rfl) (i:=e.grant.toNat) (k:=0) (by omega) (c:=vi 1) (new:= []) (by simp) (y:= { s.grants[e.grant.toNat]'(by omega) with is:=1 }) (by simp [splice])
 obtain ⟨hS2,hW2⟩:=h1.wr 4 (by decide) (H1:=H2) (s1:= { s with grants:=s.grants.set e.grant.toNat { s.grants[e.grant.toNat]'(by omega) with is:=1 } }) (bk1:=s.fell.map Prod.fst) (dy1:=s.fell.map Prod.snd) (by omega) (ownL_id.2 ho2) (fun k hk hne=>hs2 k fun hc=>hne (hbk.trans (congrArg some hc.symm))) rfl
 have f2:Frm O O H1 H2:=Frm.wr f1.lt ((hO _).2 (h1.own_ 4 (by decide) hbk)) hn2 hs2
 simp (disch:=omega) [hge,k,hg,hw2]
 unfold renewS at hwd hGd ⊢
 rw [e2] at hwd hGd ⊢
 refine (rserve_con ⟨_,_,_,_,_,_,_,_,_,hS2,fun g=>(hO g).trans (hW2 g).symm⟩ hwd hGd hsu).mono ?_
 rintro x H6 ⟨rfl,O6,f6,h6⟩
 simp
 exact ⟨O6,f1.trans (f2.trans f6),h6⟩
theorem rdo8 (h:RegS H N l b sg s O) (hw:Wf b s) (_hG:Wg b s) (hsu:0≤b.supply∧b.supply≤10000) {i:Nat} (hi:i<b.events.length) {e:Ev} (hE:b.events[i]=e) (k:e.kind=8) (_he:EvOk b s e) (_hgo:goesB b s e=true) (hwd:Wf b (doS b s e i)) (hGd:Wg b (doS b s e i)):
  GCall Tryz.prog 83 [.pointer (some (ga sg 0 0)),vi i] H fun x H'=>x=.ret (.tuple #[])∧∃O',Frm O O' H H'∧RegS H' N l b sg (serve b (doS b s e i)) O':=by
 rcases l with ⟨⟨⟨ra,rf⟩⟩,⟨oa,of'⟩,⟨va',vf'⟩⟩
 refine gcall_wp tok mix fok83 (F:=g83) (c:=_) rfl (n:=168) rfl (rs:= []) rfl ?_
 have hs1:Sub H ((H.push (.arr { cells:= [vi 0,vi 0,vi 0,vi 0,vi 0,vi 0,vi 0,vi 0],ty:=56 })).put H.next (.arr { cells:= [vi e.kind,vi e.day,vi e.person,vi e.other,vi e.estate,vi e.grant,vi e.system,vi e.units],ty:=56 })):=(Sub.push (.refl H) _).put (Nat.le_refl _) _
 obtain ⟨h1S,f1⟩:=h.sub hs1
 have hge:((H.push (.arr { cells:= [vi 0,vi 0,vi 0,vi 0,vi 0,vi 0,vi 0,vi 0],ty:=56 })).put H.next (.arr { cells:= [vi e.kind,vi e.day,vi e.person,vi e.other,vi e.estate,vi e.grant,vi e.system,vi e.units],ty:=56 })).get H.next=some (.arr { cells:= [vi e.kind,vi e.day,vi e.person,vi e.other,vi e.estate,vi e.grant,vi e.system,vi e.units],ty:=56 }):=by simp
 have hnx:((H.push (.arr { cells:= [vi 0,vi 0,vi 0,vi 0,vi 0,vi 0,vi 0,vi 0],ty:=56 })).put H.next (.arr { cells:= [vi e.kind,vi e.day,vi e.person,vi e.other,vi e.estate,vi e.grant,vi e.system,vi e.units],ty:=56 })).next=H.next+1:=by simp
 have hOl:∀g,O g→g<H.next:=fun g hg=>(h.lt g hg).2
 have hlen:=hw.len
 have hla:=hw.last
 have hlo:=hw.own
 have hltI:(i:Int)<b.events.length:=by omega
 obtain ⟨_,_,_,_,_,_,_,_,_,h0,_⟩:=h
 have hg0:=h0.g
 obtain ⟨ae,rfl,haeb,hrev⟩:=h0.book.events.at i hi
 rw [hE] at hrev
 simp (disch:=omega) [hg0,hrev]
 generalize hH1:GH.put (GH.push H _) H.next (.arr { cells:= [vi e.kind,vi e.day,vi e.person,vi e.other,vi e.estate,vi e.grant,vi e.system,vi e.units],ty:=56 })=H1 at*
 have hdo:doS b s e i=askS s i:=by unfold doS; simp [k]
 rw [hdo] at hwd hGd ⊢
 obtain ⟨v1,v2,vl,vo,vg,va,vw,vb,vd,h1,hO⟩:=h1S
 have hg:=h1.g
 have hsl:=h1.sgl.2
 have hsN:=h1.sgl.1
 have hlw:=h1.waits.len
 obtain ⟨vw',H3,happ,ho3,hn3,hf3,hb3⟩:=(h1.waits.push (.arr { cells:= [vi i],ty:=3 })).app (by simp) (by simp) (by decide) (i:Int) (by simp; omega)
 simp only [encI] at happ
 simp only [GH.next_push] at hn3
 have d8:8*(1+s.waits.length)≤1000000:=by omega
 have d9:1+s.waits.length≤1000000:=by omega
 have hg3:=(hf3 sg (by simp; omega) (h1.ne 6 (by decide))).trans ((GH.get_push_lt _ _ hsl).trans hg)
 obtain ⟨a3,q3,rfl⟩:=ho3.slice
 simp (disch:=omega) [k,hg,hlw,d8,d9,happ,hg3]
 obtain ⟨hS3,hW3⟩:=h1.upd 6 (by decide) (H1:=H3) (s1:=askS s i) (bk1:=s.fell.map Prod.fst) (dy1:=s.fell.map Prod.snd) (by omega) (ownL_id.2 ho3) (fun k hk hne=>by rw [hf3 k (by simp; omega) hne,GH.get_push_lt _ _ hk]) (fun k hk=>(hb3 k hk).imp id fun h=>by simp at h; omega) rfl
 simp only [bookC,List.cons_append,List.nil_append,List.length_append,List.length_cons,List.length_nil,Nat.zero_add] at hS3 hW3
 obtain ⟨O3,f3,h3⟩:=RegS.of h1 hO hS3 (by simp; omega) (fun k hk ho=>by
  rw [hO] at ho
  rw [GH.get_put_ne _ _ (fun hc=>ho (.inl hc)),hf3 k (by simp; omega) (fun hc=>ho (h1.own_ 6 (by decide) hc)),GH.get_push_lt _ _ (by omega)]) hW3
 refine (rserve_con h3 hwd hGd hsu).mono ?_
 rintro x H6 ⟨rfl,O6,f6,h6⟩
 simp
 exact ⟨O6,f1.trans (f3.trans f6),h6⟩
theorem rdo_con (h:RegS H N l b sg s O) (hw:Wf b s) (hG:Wg b s) (hsu:0≤b.supply∧b.supply≤10000) {i:Nat} (hi:i<b.events.length) {e:Ev} (hE:b.events[i]=e) (he:EvOk b s e) (hgo:goesB b s e=true) (hwd:Wf b (doS b s e i)) (hGd:Wg b (doS b s e i)):
  GCall Tryz.prog 83 [.pointer (some (ga sg 0 0)),vi i] H fun x H'=>x=.ret (.tuple #[])∧∃O',Frm O O' H H'∧RegS H' N l b sg (serve b (doS b s e i)) O':=by
 have hk:=he.kind
 have:e.kind=1∨e.kind=2∨e.kind=3∨e.kind=4∨e.kind=5∨e.kind=6∨e.kind=7∨e.kind=8:=by omega
 rcases this with k|k|k|k|k|k|k|k
 ·exact rdo1 h hw hG hsu hi hE k he hgo hwd hGd
 ·exact rdo2 h hw hG hsu hi hE k he hgo hwd hGd
 ·exact rdo3 h hw hG hsu hi hE k he hgo hwd hGd
 ·exact rdo4 h hw hG hsu hi hE k he hgo hwd hGd
 ·exact rdo5 h hw hG hsu hi hE k he hgo hwd hGd
 ·exact rdo6 h hw hG hsu hi hE k he hgo hwd hGd
 ·exact rdo7 h hw hG hsu hi hE k he hgo hwd hGd
 ·exact rdo8 h hw hG hsu hi hE k he hgo hwd hGd
end
end Go.Gm.Tryz
end
section
namespace Go.Gm.Tryz
open Go.Proofs
theorem upFrom_ok {b:Book} {d:Int}:∀ {es:List Ev} {n:Nat} {s t:Stand},runS b es n s=.inr t→∃u,upFrom b d es n s=.inr u:=by
 intro es
 induction es with
 |nil=>intro n s t _; exact ⟨_,rfl⟩
 |cons e es ih=>
  intro n s t h
  simp only [runS] at h
  simp only [upFrom]
  split
  ·exact ⟨_,rfl⟩
  ·split at h
   ·rename_i hg; rw [if_pos hg]; exact ih h
   ·cases h
theorem wrong_none {b:Book} (hB:isBookB b=true) (hw:wrongO b=none):∃t,runS b b.events 0 (start b)=.inr t:=by
 rw [wrong_run hB] at hw
 cases h:runS b b.events 0 (start b) with
 |inl k=>rw [h] at hw; cases hw
 |inr t=>exact ⟨t,rfl⟩
theorem right_up {b:Book} (hB:isBookB b=true) (hw:wrongO b=none) (d:Int):∃s,upS b d=.inr s:=by
 obtain ⟨t,ht⟩:=wrong_none hB hw
 exact upFrom_ok ht
theorem out_right {b:Book} (hB:isBookB b=true) (hw:wrongO b=none) {d:Int} {s:Stand} (hs:upS b d=.inr s) (hd:isDayI d=true) {ok:Bool} (hk:ok=true):outS b d ok=.ok s:=by
 subst hk
 unfold outS rightOk rightS
 obtain ⟨t,ht⟩:=right_up hB hw 36500
 rw [hB,hd,ht,hs]
 rfl
theorem upFrom_append {b:Book} {d:Int}:∀ {es fs:List Ev} {n:Nat} {s:Stand},(∀e∈es,e.day≤d)→upFrom b d (es++fs) n s=match runS b es n s with| .inl k=>.inl k| .inr t=>upFrom b d fs (n+es.length) t:=by
 intro es
 induction es with
 |nil=>intro fs n s _; rfl
 |cons e es ih=>
  intro fs n s hd
  have h1:¬e.day>d:=by have:=hd e (by simp); omega
  simp only [List.cons_append,upFrom,runS,if_neg h1]
  split
  ·rw [ih fun x hx=>hd x (by simp [hx])]
   simp only [List.length_cons]
   rw [show n+1+es.length=n+(es.length+1) by omega]
  ·rfl
end Go.Gm.Tryz
end
section
namespace Go.Gm.Tryz
open Go.Proofs
def mkG (b:Book) (w:Int):GSt:=⟨1,(evAt b w).person,-1,(evAt b w).system,(evAt b w).units⟩
theorem serve_app (b:Book) (s:Stand):∃ws rest,s.waits=ws++rest∧serve b s= { s with grants:=s.grants++ws.map (mkG b),last:=s.last++ws.map (fun _=>0),waits:=rest }:=by
 have:∀(n:Nat) (s:Stand),∃ws rest,s.waits=ws++rest∧serveS b n s= { s with grants:=s.grants++ws.map (mkG b),last:=s.last++ws.map (fun _=>0),waits:=rest }:=by
  intro n
  induction n with
  |zero=>intro s; exact ⟨[],s.waits,rfl,by simp [serveS]⟩
  |succ n ih=>
   intro s
   simp only [serveS]
   cases hw:s.waits with
   |nil=>exact ⟨[],[],rfl,by cases s; simp at hw; subst hw; simp⟩
   |cons w ws=>
    simp only
    split
    ·exact ⟨[],w::ws,rfl,by cases s; simp at hw; subst hw; simp⟩
    ·obtain ⟨xs,rest,h1,h2⟩:=ih { addG s (evAt b w).person (-1) (evAt b w).system (evAt b w).units with waits:=ws }
     refine ⟨w::xs,rest,by simp at h1; rw [h1]; rfl,?_⟩
     rw [h2]
     simp [addG,mkG]
 exact this _ s
def Liv (b:Book) (s:Stand) (p:Int):Prop:=0≤p∧p<b.persons∧s.lives.getD p.toNat false=true
structure JX (b:Book) (s:Stand) (XO XW X1 X2:Int→Prop):Prop where
 own:∀i,i<s.owners.length→oAt s i= -1∨XO (oAt s i)
 wt:∀w∈s.waits,XW (evAt b w).person
 gr:∀g∈s.grants,(g.is=3∧g.person= -1∧g.estate= -1)∨(g.is=2∧X2 g.person∧g.estate= -1)∨(g.is=1∧g.estate= -1∧X1 g.person)∨
  (g.is=1∧0≤g.estate∧g.estate<s.owners.length∧oAt s g.estate.toNat=g.person∧g.person≠ -1)
section
variable {b:Book} {s:Stand} {XO XW X1 X2:Int→Prop}
theorem JX.mono (h:JX b s XO XW X1 X2) {YO YW Y1 Y2:Int→Prop} (a:∀p,XO p→YO p) (b':∀p,XW p→YW p) (c:∀p,X1 p→Y1 p) (d:∀p,X2 p→Y2 p):JX b s YO YW Y1 Y2:=
 ⟨fun i hi=>(h.own i hi).imp id (a _),fun w hw=>b' _ (h.wt w hw),fun g hg=>by
  rcases h.gr g hg with h|h|h|h
  ·exact .inl h
  ·exact .inr (.inl ⟨h.1,d _ h.2.1,h.2.2⟩)
  ·exact .inr (.inr (.inl ⟨h.1,h.2.1,c _ h.2.2⟩))
  ·exact .inr (.inr (.inr h))⟩
theorem JX.serve (h:JX b s XO XW X1 X2) (hx:∀p,XW p→X1 p):JX b (serve b s) XO XW X1 X2:=by
 obtain ⟨ws,rest,hw,e⟩:=serve_app b s
 rw [e]
 refine ⟨h.own,fun w hw'=>h.wt w (by rw [hw]; exact List.mem_append_right _ hw'),fun g hg=>?_⟩
 rcases List.mem_append.1 hg with hg|hg
 ·exact h.gr g hg
 ·obtain ⟨w,hm,rfl⟩:=List.mem_map.1 hg
  exact .inr (.inr (.inl ⟨rfl,rfl,hx _ (h.wt w (by rw [hw]; exact List.mem_append_left _ hm))⟩))
theorem JX.set (h:JX b s XO XW X1 X2) {i:Nat} {y:GSt} (hy:(y.is=3∧y.person= -1∧y.estate= -1)∨(y.is=2∧X2 y.person∧y.estate= -1)∨(y.is=1∧y.estate= -1∧X1 y.person)∨
  (y.is=1∧0≤y.estate∧y.estate<s.owners.length∧oAt s y.estate.toNat=y.person∧y.person≠ -1)) {l:List Int} {f:List (Int×Int)}:JX b { s with grants:=s.grants.set i y,last:=l,fell:=f } XO XW X1 X2:=
 ⟨h.own,h.wt,fun g hg=>by
  rcases List.mem_or_eq_of_mem_set hg with hg|rfl
  ·exact h.gr g hg
  ·exact hy⟩
theorem JX.open_ (h:JX b s XO XW X1 X2) {g:Nat} (hg:g<s.grants.length) (h2:(gAt s g).is=2):X2 (gAt s g).person∧(gAt s g).estate= -1:=by
 rcases h.gr _ (gAt_mem hg) with k|k|k|k
 ·omega
 ·exact k.2
 ·omega
 ·omega
theorem JX.endG (h:JX b s XO XW X1 X2) {g:Nat} (hg:g<s.grants.length) (h2:(gAt s g).is=2) (d:Int):JX b (endG s g d) XO XW X1 X2:=
 h.set (i:=g) (y:= { s.grants.getD g default with is:=3,person:= -1 }) (.inl ⟨rfl,rfl,(h.open_ hg h2).2⟩)
theorem JX.pass (h:JX b s XO XW X1 X2) (hx:∀p,XW p→X1 p) (d:Int):JX b (pass b s d) XO XW X1 X2:=
 pass_ind (I:=fun t=>JX b t XO XW X1 X2) (fun s w ws h hw _=>by
  refine ⟨h.own,fun v hv=>h.wt v (by rw [hw]; exact List.mem_cons_of_mem _ hv),fun g hg=>?_⟩
  simp only [addG,List.mem_append,List.mem_singleton] at hg
  rcases hg with hg|rfl
  ·exact h.gr g hg
  ·exact .inr (.inr (.inl ⟨rfl,rfl,hx _ (h.wt w (by rw [hw]; simp))⟩))) (fun s g h hg h2 _=>h.endG hg h2 _) h
theorem oAt_set {s:Stand} {n i:Nat} {p:Int} (hn:n<s.owners.length) {t:Stand} (ht:t.owners=s.owners.set n p):oAt t i=if i=n then p else oAt s i:=by
 unfold oAt
 rw [ht,List.getD_eq_getElem?_getD,List.getD_eq_getElem?_getD,List.getElem?_set]
 by_cases h:n=i
 ·subst h; simp [hn]
 ·simp [h,Ne.symm h]
theorem JX.own_ (h:JX b s XO XW X1 X2) {n:Nat} (hn:n<s.owners.length) {p:Int} (hp:XO p) (hp1:p≠ -1):JX b (ownS s n p) XO XW X1 X2:=by
 have ho:∀i,oAt (ownS s n p) i=if i=n then p else oAt s i:=fun i=>oAt_set hn rfl
 have hl:(ownS s n p).owners.length=s.owners.length:=by simp [ownS]
 refine ⟨fun i hi=>?_,h.wt,fun g hg=>?_⟩
 ·rw [ho]
  split
  ·exact .inr hp
  ·exact h.own i (by omega)
 ·obtain ⟨x,hx,rfl⟩:=List.mem_map.1 hg
  rw [hl]
  by_cases hc:x.estate=(n:Int)
  ·rw [if_pos hc]
   rcases h.gr x hx with k|k|k|k
   ·omega
   ·omega
   ·omega
   ·refine .inr (.inr (.inr ⟨k.1,k.2.1,k.2.2.1,?_,hp1⟩))
    rw [ho]
    simp only
    rw [if_pos (by omega)]
  ·rw [if_neg hc]
   rcases h.gr x hx with k|k|k|k
   ·exact .inl k
   ·exact .inr (.inl k)
   ·exact .inr (.inr (.inl k))
   ·refine .inr (.inr (.inr ⟨k.1,k.2.1,k.2.2.1,?_,k.2.2.2.2⟩))
    rw [ho,if_neg (by omega)]
    exact k.2.2.2.1
theorem JX.add1 (h:JX b s XO XW X1 X2) {p:Int} (hp:X1 p) (sy u:Int):JX b (addG s p (-1) sy u) XO XW X1 X2:=by
 refine ⟨h.own,h.wt,fun g hg=>?_⟩
 simp only [addG,List.mem_append,List.mem_singleton] at hg
 rcases hg with hg|rfl
 ·exact h.gr g hg
 ·exact .inr (.inr (.inl ⟨rfl,rfl,hp⟩))
end
structure J (b:Book) (done:List Ev) (s:Stand):Prop where
 wf:Wf b s
 ll:s.lives.length=b.persons.toNat
 dead:∀e∈done,e.kind=3→s.lives.getD e.person.toNat false=false
 jx:JX b s (Liv b s) (Liv b s) (Liv b s) (Liv b s)
 sz:size s≤done.length
 ow:s.owners.length≤b.owners.length+done.length
section
variable {b:Book} {s:Stand} {done:List Ev} {p:Int}
theorem serve_lives (b:Book) (s:Stand):(serve b s).lives=s.lives:=by obtain ⟨_,_,_,e⟩:=serve_app b s; rw [e]
theorem pass_lives (b:Book) (s:Stand) (d:Int):(pass b s d).lives=s.lives:=
 pass_ind (I:=fun t=>t.lives=s.lives) (fun _t _w _ws h _ _=>h) (fun _t _g h _ _ _=>h) rfl
theorem Liv.congr {s t:Stand} (h:t.lives=s.lives):Liv b t=Liv b s:=by funext p; unfold Liv; rw [h]
theorem J.serve (h:J b done s):J b done (serve b s):=by
 have hl:=serve_lives b s
 have h1:=(serve_sh b s).size
 have h2:=(serve_sh b s).own
 have h3:=h.sz
 have h4:=h.ow
 exact ⟨serve_wf h.wf,by rw [hl]; exact h.ll,by rw [hl]; exact h.dead,by rw [Liv.congr hl]; exact h.jx.serve fun _ h=>h,by omega,by omega⟩
theorem J.pass (h:J b done s) (d:Int):J b done (pass b s d):=by
 have hl:=pass_lives b s d
 have h1:=(pass_sh b s d).size
 have h2:=(pass_sh b s d).own
 have h3:=h.sz
 have h4:=h.ow
 exact ⟨pass_wf h.wf,by rw [hl]; exact h.ll,by rw [hl]; exact h.dead,by rw [Liv.congr hl]; exact h.jx.pass (fun _ h=>h) d,by omega,by omega⟩
theorem Liv.ne (h:Liv b s p):p≠ -1:=by have:=h.1; omega
def Ex (P:Int→Prop) (q:Int) (p:Int):Prop:=P p∨p=q
theorem endS_at {b:Book} {s:Stand} {g:Nat} {d:Int} {j:Nat} (hj:j<(endS b s g d).grants.length):(j<s.grants.length→j≠g→gAt (endS b s g d) j=gAt s j)∧(j=g→g<s.grants.length→(gAt (endS b s g d) j).is=3)∧(s.grants.length≤j→(gAt (endS b s g d) j).is=1):=by
 unfold endS at*
 obtain ⟨ws,rest,hw,e⟩:=serve_app b (endG s g d)
 rw [e] at hj ⊢
 have hl:(endG s g d).grants.length=s.grants.length:=by simp [endG]
 unfold gAt
 simp only [List.getD_eq_getElem?_getD]
 refine ⟨fun h1 h2=>?_,fun h1 h2=>?_,fun h1=>?_⟩
 ·rw [List.getElem?_append_left (by omega)]
  simp only [endG]
  rw [List.getElem?_set_ne (Ne.symm h2)]
 ·subst h1
  rw [List.getElem?_append_left (by omega)]
  simp [endG,h2]
 ·rw [List.getElem?_append_right (by omega)]
  simp only [List.length_append,List.length_map] at hj
  rw [List.getElem?_map,List.getElem?_eq_getElem (by omega)]
  rfl
theorem endS_lives (b:Book) (s:Stand) (g:Nat) (d:Int):(endS b s g d).lives=s.lives:=serve_lives b (endG s g d)
theorem J.die (h:J b done s) {e:Ev} (hk:e.kind=3) (hq:0≤e.person∧e.person<b.persons) (ho:Liv b s e.other) (hne:e.person≠e.other):J b (done++ [e]) (dieS b s e):=by
 have hqn:e.person.toNat<s.lives.length:=by rw [h.ll]; omega
 obtain ⟨hwf,hsh⟩:=dieS_ok h.wf e
 obtain ⟨L,hLd⟩:∃L:Int→Prop,L=Liv b (dieA s e):=⟨_,rfl⟩
 have hL:∀p,Liv b s p→Ex L e.person p:=fun p hp=>by
  by_cases hc:p=e.person
  ·exact .inr hc
  ·left
   rw [hLd]
   refine ⟨hp.1,hp.2.1,?_⟩
   have:=hp.2.2
   have h0:=hp.1
   simp only [dieA,List.getD_eq_getElem?_getD] at this ⊢
   rw [List.getElem?_set_ne (by omega)]
   exact this
 have hLo:L e.other:=(hL _ ho).resolve_right (Ne.symm hne)
 have hnq:∀p,Ex L e.person p→p≠e.person→L p:=fun p hp hc=>hp.resolve_right hc
 have j0:JX b (dieA s e) (Ex L e.person) (Ex L e.person) (Ex L e.person) (Ex L e.person):=JX.mono (s:=dieA s e) ⟨h.jx.own,h.jx.wt,h.jx.gr⟩ hL hL hL hL
 have j1:JX b (dieB (dieA s e) e) (Ex L e.person) (Ex L e.person) (Ex L e.person) (Ex L e.person)∧(dieB (dieA s e) e).lives=(dieA s e).lives∧∀j,j<(dieB (dieA s e) e).owners.length→oAt (dieB (dieA s e) e) j≠e.person:=by
  have:∀i,i≤(dieA s e).owners.length→JX b ((List.range i).foldl (ownStep e) (dieA s e)) (Ex L e.person) (Ex L e.person) (Ex L e.person) (Ex L e.person)∧((List.range i).foldl (ownStep e) (dieA s e)).lives=(dieA s e).lives∧
    ((List.range i).foldl (ownStep e) (dieA s e)).owners.length=(dieA s e).owners.length∧∀j,j<i→oAt ((List.range i).foldl (ownStep e) (dieA s e)) j≠e.person:=by
   intro i
   induction i with
   |zero=>intro _; exact ⟨j0,rfl,rfl,fun j hj=>by omega⟩
   |succ i ih=>
    intro hi
    obtain ⟨i1,i2,i3,i4⟩:=ih (by omega)
    rw [range_fold]
    generalize (List.range i).foldl (ownStep e) (dieA s e)=t at i1 i2 i3 i4 ⊢
    unfold ownStep
    split
    ·rename_i hc
     have hlt:i<t.owners.length:=by omega
     refine ⟨i1.own_ hlt (.inl hLo) (Liv.ne ho),i2,by simp only [ownS,List.length_set]; exact i3,fun j hj=>?_⟩
     rw [oAt_set hlt (t:=ownS t i e.other) rfl]
     split
     ·exact Ne.symm hne
     ·exact i4 j (by omega)
    ·rename_i hc
     refine ⟨i1,i2,i3,fun j hj=>?_⟩
     by_cases hji:j=i
     ·subst hji; exact hc
     ·exact i4 j (by omega)
  obtain ⟨i1,i2,i3,i4⟩:=this _ (Nat.le_refl _)
  exact ⟨i1,i2,fun j hj=>i4 j (by unfold dieB at hj; rw [i3] at hj; exact hj)⟩
 have hS:dieS b s e=dieE b (dieD b (dieC b (dieB (dieA s e) e) e) e) e:=rfl
 obtain ⟨j1,l1,n1⟩:=j1
 generalize dieB (dieA s e) e=s1 at j1 l1 n1 hS
 have j1':JX b s1 L (Ex L e.person) (Ex L e.person) (Ex L e.person):=⟨fun i hi=>(j1.own i hi).imp id fun hx=>hnq _ hx (n1 i hi),j1.wt,j1.gr⟩
 have j2:JX b (dieC b s1 e) L L (Ex L e.person) (Ex L e.person):=⟨j1'.own,fun w hw=>by
  obtain ⟨h1,h2⟩:=List.mem_filter.1 hw
  exact hnq _ (j1'.wt w h1) (by simpa [notOf] using h2),j1'.gr⟩
 have l2:(dieC b s1 e).lives=(dieA s e).lives:=l1
 generalize dieC b s1 e=s2 at j2 l2 hS
 have j3:JX b (dieD b s2 e) L L (Ex L e.person) L∧(dieD b s2 e).lives=(dieA s e).lives:=by
  have:∀i,i≤s2.grants.length→JX b ((List.range i).foldl (endStep b e) s2) L L (Ex L e.person) (Ex L e.person)∧((List.range i).foldl (endStep b e) s2).lives=(dieA s e).lives∧
    s2.grants.length≤((List.range i).foldl (endStep b e) s2).grants.length∧∀j,j<((List.range i).foldl (endStep b e) s2).grants.length→(j<i∨s2.grants.length≤j)→¬((gAt ((List.range i).foldl (endStep b e) s2) j).is=2∧(gAt ((List.range i).foldl (endStep b e) s2) j).person=e.person):=by
   intro i
   induction i with
   |zero=>intro _; exact ⟨j2,l2,Nat.le_refl _,fun j h1 h2=>by simp at h1; omega⟩
   |succ i ih=>
    intro hi
    obtain ⟨i1,i2,i3,i4⟩:=ih (by omega)
    rw [range_fold]
    generalize (List.range i).foldl (endStep b e) s2=t at i1 i2 i3 i4 ⊢
    unfold endStep
    split
    ·rename_i hc
     refine ⟨(i1.endG (by omega) hc.1 e.day).serve (fun p hp=>.inl hp),by rw [endS_lives]; exact i2,Nat.le_trans i3 (endS_len b t i e.day),fun j h1 h2=>?_⟩
     obtain ⟨a1,a2,a3⟩:=endS_at h1
     by_cases hji:j=i
     ·have:=a2 hji (by omega); omega
     ·by_cases hjl:j<t.grants.length
      ·rw [a1 hjl hji]
       exact i4 j hjl (by omega)
      ·have:=a3 (by omega); omega
    ·rename_i hc
     refine ⟨i1,i2,i3,fun j h1 h2=>?_⟩
     by_cases hji:j=i
     ·subst hji; exact hc
     ·exact i4 j h1 (by omega)
  obtain ⟨i1,i2,i3,i4⟩:=this _ (Nat.le_refl _)
  refine ⟨⟨i1.own,i1.wt,fun g hg=>?_⟩,i2⟩
  rcases i1.gr g hg with k|k|k|k
  ·exact .inl k
  ·obtain ⟨j,hj,rfl⟩:=List.mem_iff_getElem.1 hg
   have hgj:gAt (dieD b s2 e) j=(dieD b s2 e).grants[j]:=getD_at hj
   refine .inr (.inl ⟨k.1,hnq _ k.2.1 fun hc=>?_,k.2.2⟩)
   exact i4 j hj (by omega) (by
    have:gAt ((List.range s2.grants.length).foldl (endStep b e) s2) j=(dieD b s2 e).grants[j]:=hgj
    rw [this]; exact ⟨k.1,hc⟩)
  ·exact .inr (.inr (.inl k))
  ·exact .inr (.inr (.inr k))
 obtain ⟨j3,l3⟩:=j3
 generalize dieD b s2 e=s3 at j3 l3 hS
 have j4:JX b (dieE b s3 e) L L L L∧(dieE b s3 e).lives=(dieA s e).lives:=by
  have:∀i,i≤s3.grants.length→JX b ((List.range i).foldl (heirStep b e) s3) L L (Ex L e.person) L∧((List.range i).foldl (heirStep b e) s3).lives=(dieA s e).lives∧
    ((List.range i).foldl (heirStep b e) s3).grants.length=s3.grants.length∧∀j,j<i→¬((gAt ((List.range i).foldl (heirStep b e) s3) j).is=1∧(gAt ((List.range i).foldl (heirStep b e) s3) j).estate<0∧(gAt ((List.range i).foldl (heirStep b e) s3) j).person=e.person):=by
   intro i
   induction i with
   |zero=>intro _; exact ⟨j3,l3,rfl,fun j hj=>by omega⟩
   |succ i ih=>
    intro hi
    obtain ⟨i1,i2,i3,i4⟩:=ih (by omega)
    rw [range_fold]
    generalize (List.range i).foldl (heirStep b e) s3=t at i1 i2 i3 i4 ⊢
    unfold heirStep
    split
    ·rename_i hc
     have hm:=i1.gr _ (gAt_mem (show i<t.grants.length by omega))
     refine ⟨i1.set (.inr (.inl ⟨rfl,hLo,?_⟩)),i2,by simp only [List.length_set]; exact i3,fun j hj=>?_⟩
     ·show (gAt t i).estate= -1
      rcases hm with k|k|k|k<;>omega
     ·by_cases hji:j=i
      ·subst hji
       have:(gAt { t with grants:=t.grants.set j { gAt t j with is:=2,person:=e.other },last:=t.last.set j (IntKind.i64.wrap (e.day+b.term)) } j).is=2:=by
        unfold gAt
        simp only [List.getD_eq_getElem?_getD]
        rw [List.getElem?_set_self (by omega)]
        rfl
       rw [this]
       omega
      ·have:gAt { t with grants:=t.grants.set i { gAt t i with is:=2,person:=e.other },last:=t.last.set i (IntKind.i64.wrap (e.day+b.term)) } j=gAt t j:=by
        unfold gAt
        simp only [List.getD_eq_getElem?_getD]
        rw [List.getElem?_set_ne (Ne.symm hji)]
       rw [this]
       exact i4 j (by omega)
    ·rename_i hc
     refine ⟨i1,i2,i3,fun j hj=>?_⟩
     by_cases hji:j=i
     ·subst hji; exact hc
     ·exact i4 j (by omega)
  obtain ⟨i1,i2,i3,i4⟩:=this _ (Nat.le_refl _)
  refine ⟨⟨i1.own,i1.wt,fun g hg=>?_⟩,i2⟩
  rcases i1.gr g hg with k|k|k|k
  ·exact .inl k
  ·exact .inr (.inl k)
  ·obtain ⟨j,hj,rfl⟩:=List.mem_iff_getElem.1 hg
   have hgj:gAt ((List.range s3.grants.length).foldl (heirStep b e) s3) j=(dieE b s3 e).grants[j]:=getD_at hj
   have hj':j<s3.grants.length:=by rw [←i3]; exact hj
   refine .inr (.inr (.inl ⟨k.1,k.2.1,hnq _ k.2.2 fun hc=>?_⟩))
   refine i4 j hj' ?_
   rw [hgj]
   exact ⟨k.1,by have:=k.2.1; omega,hc⟩
  ·exact .inr (.inr (.inr k))
 rw [←hS] at j4
 obtain ⟨j4,l4⟩:=j4
 have hLL:L=Liv b (dieS b s e):=by rw [hLd]; exact (Liv.congr l4).symm
 rw [hLL] at j4
 have h1:=hsh.size
 have h2:=hsh.own
 have h3:=h.sz
 have h4:=h.ow
 refine ⟨hwf,hsh.liv.trans h.ll,fun x hx hxk=>?_,j4,by simp; omega,by simp; omega⟩
 rw [l4]
 simp only [dieA,List.getD_eq_getElem?_getD]
 by_cases hc:x.person.toNat=e.person.toNat
 ·rw [hc,List.getElem?_set_self hqn]; rfl
 ·rw [List.getElem?_set_ne (Ne.symm hc),←List.getD_eq_getElem?_getD]
  rcases List.mem_append.1 hx with hx|hx
  ·exact h.dead x hx hxk
  ·simp at hx; subst hx; exact absurd rfl hc
theorem J.start (hB:isBookB b=true):J b [] (Tryz.start b):=by
 have hbo:=book_ok hB
 refine ⟨start_wf hbo,by simp [Tryz.start],fun e he=>by simp at he,⟨fun i hi=>.inr ?_,fun w hw=>by simp [Tryz.start] at hw,fun g hg=>by simp [Tryz.start] at hg⟩,by simp [size,Tryz.start],by simp [Tryz.start]⟩
 have hi':i<b.owners.length:=hi
 have ho:oAt (Tryz.start b) i=b.owners[i]:=getD_at hi'
 rw [ho]
 have hp:isPersonI b b.owners[i]=true:=by
  simp only [isBookB,Bool.and_eq_true,Bool.not_eq_true',List.any_eq_false] at hB
  have:=hB.2 _ (List.getElem_mem hi')
  simpa using this
 have h1:=isPerson_ok hp hbo.persons
 refine ⟨h1.1,by omega,?_⟩
 simp only [Tryz.start,List.getD_eq_getElem?_getD]
 rw [List.getElem?_eq_getElem (by simp; omega)]
 simp
theorem J.do_ (h:J b done s) (hB:BookOk b) {e:Ev} (he:isEventB b e=true) (hg:goesB b s e=true) {n:Nat} (hn:evAt b n=e) (hnl:n<b.events.length) (hd:done.length<100) (hod:s.owners.length<100):J b (done++ [e]) (doS b s e n):=by
 have hev:=event_ok (s:=s) hB.persons h.ll he
 have hdone:∀x∈done++ [e],x.kind=3→e.kind≠3→s.lives.getD x.person.toNat false=false:=fun x hx hk hk3=>by
  rcases List.mem_append.1 hx with hx|hx
  ·exact h.dead x hx hk
  ·simp at hx; subst hx; exact absurd hk hk3
 have hsz:=h.sz
 have how:=h.ow
 have hs100:size s<100:=by omega
 have liv:∀p:Int,0≤p∧p<s.lives.length→s.lives.getD p.toNat false=true→Liv b s p:=fun p hp hl=>⟨hp.1,by have:=h.ll; omega,hl⟩
 unfold goesB at hg
 unfold doS
 by_cases k1:e.kind=1
 ·rw [if_pos k1] at hg ⊢
  simp only [Bool.and_eq_true] at hg
  have hl:=liv _ (hev.person (by omega) (by omega)) hg.1
  have hs:=addG_sh s e.person (-1) e.system e.units
  have:=hs.size; have:=hs.own
  exact ⟨addG_wf h.wf hs100 ..,h.ll,fun x hx hk=>hdone x hx hk (by omega),h.jx.add1 hl _ _,by simp [giveS]; omega,by simp [giveS,addG]; omega⟩
 rw [if_neg k1] at hg ⊢
 by_cases k2:e.kind=2
 ·rw [if_pos k2] at hg ⊢
  simp only [Bool.and_eq_true,existsB,decide_eq_true_eq] at hg
  have hs:=addG_sh s (s.owners.getD e.estate.toNat 0) e.estate e.system e.units
  have:=hs.size; have:=hs.own
  refine ⟨addG_wf h.wf hs100 ..,h.ll,fun x hx hk=>hdone x hx hk (by omega),⟨h.jx.own,h.jx.wt,fun g hgm=>?_⟩,by show size (addG s (s.owners.getD e.estate.toNat 0) e.estate e.system e.units)≤_; simp only [List.length_append,List.length_cons,List.length_nil]; omega,by simp [attachS,addG]; omega⟩
  simp only [attachS,addG,List.mem_append,List.mem_singleton] at hgm
  rcases hgm with hgm|rfl
  ·exact h.jx.gr g hgm
  ·exact .inr (.inr (.inr ⟨rfl,hev.estate,hg.1.1,rfl,by simp only; omega⟩))
 rw [if_neg k2] at hg ⊢
 by_cases k3:e.kind=3
 ·rw [if_pos k3] at hg ⊢
  simp only [Bool.and_eq_true,decide_eq_true_eq] at hg
  have hp:=hev.person (by omega) (by omega)
  exact h.die k3 ⟨hp.1,by have:=h.ll; omega⟩ (liv _ (hev.other k3) hg.2.2) hg.1
 rw [if_neg k3] at hg ⊢
 by_cases k4:e.kind=4
 ·rw [if_pos k4] at hg ⊢
  simp only [Bool.and_eq_true,existsB,decide_eq_true_eq] at hg
  have hl:=liv _ (hev.person (by omega) (by omega)) hg.2.1
  have hs:=ownS_sh s e.estate.toNat e.person
  have:=hs.size; have:=hs.own
  have:=hev.estate
  exact ⟨ownS_wf h.wf _ _,h.ll,fun x hx hk=>hdone x hx hk (by omega),h.jx.own_ (by omega) hl (Liv.ne hl),by simp; omega,by simp [ownS]; omega⟩
 rw [if_neg k4] at hg ⊢
 by_cases k5:e.kind=5
 ·rw [if_pos k5] at hg ⊢
  have hl0:=hev.person (by omega) (by omega)
  simp [divB] at hg
  obtain ⟨g1,g2,g3,g4,_⟩:=hg
  have hl:Liv b s e.person:=liv _ hl0 (by simpa using g4)
  have hgd:s.grants[e.grant.toNat]?.getD default=gAt s e.grant.toNat:=by simp [gAt]
  rw [hgd] at g2
  have hge:=hev.grant
  have hs:=divideS_sh s e
  have:=hs.size; have:=hs.own
  have hm:=h.jx.gr _ (gAt_mem (show e.grant.toNat<s.grants.length by omega))
  have hoa:∀i,i<s.owners.length→(s.owners++ [e.person]).getD i 0=oAt s i:=fun i hi=>by
   unfold oAt
   rw [List.getD_eq_getElem?_getD,List.getD_eq_getElem?_getD,List.getElem?_append_left hi]
  have hol:(s.owners++ [e.person]).getD s.owners.length 0=e.person:=by
   rw [List.getD_eq_getElem?_getD]; simp
  have keep:∀g:GSt,(g.is=3∧g.person= -1∧g.estate= -1)∨(g.is=2∧Liv b s g.person∧g.estate= -1)∨(g.is=1∧g.estate= -1∧Liv b s g.person)∨(g.is=1∧0≤g.estate∧g.estate<s.owners.length∧oAt s g.estate.toNat=g.person∧g.person≠ -1)→
    (g.is=3∧g.person= -1∧g.estate= -1)∨(g.is=2∧Liv b s g.person∧g.estate= -1)∨(g.is=1∧g.estate= -1∧Liv b s g.person)∨(g.is=1∧0≤g.estate∧g.estate<(divideS s e).owners.length∧oAt (divideS s e) g.estate.toNat=g.person∧g.person≠ -1):=fun g hgg=>by
   rcases hgg with k|k|k|k
   ·exact .inl k
   ·exact .inr (.inl k)
   ·exact .inr (.inr (.inl k))
   ·refine .inr (.inr (.inr ⟨k.1,k.2.1,by simp [divideS,addG]; omega,?_,k.2.2.2.2⟩))
    show (s.owners++ [e.person]).getD g.estate.toNat 0=_
    rw [hoa _ (by omega)]
    exact k.2.2.2.1
  refine ⟨divideS_wf h.wf hs100 hod e (by omega),h.ll,fun x hx hk=>hdone x hx hk (by omega),⟨fun i hi=>?_,h.jx.wt,fun g hgm=>?_⟩,by simp; omega,by simp [divideS,addG]; omega⟩
  ·have hi':i<s.owners.length+1:=by simpa [divideS,addG] using hi
   show (s.owners++ [e.person]).getD i 0= -1∨Liv b s ((s.owners++ [e.person]).getD i 0)
   by_cases hc:i<s.owners.length
   ·rw [hoa i hc]; exact h.jx.own i hc
   ·have:i=s.owners.length:=by omega
    subst this
    rw [hol]
    exact .inr hl
  ·simp only [divideS,addG,List.mem_append,List.mem_singleton] at hgm
   rcases hgm with hgm|rfl
   ·rcases List.mem_or_eq_of_mem_set hgm with hgm|rfl
    ·exact keep g (h.jx.gr g hgm)
    ·exact keep _ (by exact hm)
   ·refine .inr (.inr (.inr ⟨rfl,by simp only; omega,by simp [divideS,addG]; omega,?_,Liv.ne hl⟩))
    show (s.owners++ [e.person]).getD (Int.toNat s.owners.length) 0=e.person
    rw [Int.toNat_natCast,hol]
 rw [if_neg k5] at hg ⊢
 by_cases k6:e.kind=6
 ·rw [if_pos k6] at hg ⊢
  simp only [Bool.and_eq_true,existsB,decide_eq_true_eq] at hg
  obtain ⟨g1,⟨g2,g3⟩,⟨g4,g5⟩,g6⟩:=hg
  have he0:=hev.estate
  have ho0:=hev.other0
  have hs:=joinS_sh s e
  have:=hs.size; have:=hs.own
  have hoj:∀i,oAt (joinS s e) i=if i=e.other.toNat then -1 else oAt s i:=fun i=>oAt_set (by omega) rfl
  have hlj:(joinS s e).owners.length=s.owners.length:=by simp [joinS]
  refine ⟨joinS_wf h.wf e,h.ll,fun x hx hk=>hdone x hx hk (by omega),⟨fun i hi=>?_,h.jx.wt,fun g hgm=>?_⟩,by simp; omega,by simp [joinS]; omega⟩
  ·rw [hoj]
   split
   ·exact .inl rfl
   ·exact h.jx.own i (by omega)
  ·obtain ⟨x,hx,rfl⟩:=List.mem_map.1 hgm
   rw [hlj]
   unfold joinF
   by_cases hc:x.estate=e.other
   ·rw [if_pos hc]
    rcases h.jx.gr x hx with k|k|k|k
    ·omega
    ·omega
    ·omega
    ·refine .inr (.inr (.inr ⟨k.1,he0,g2,?_,k.2.2.2.2⟩))
     simp only
     rw [hoj,if_neg (by omega)]
     have e1:oAt s e.estate.toNat=oAt s e.other.toNat:=g6
     rw [e1,←hc]
     exact k.2.2.2.1
   ·rw [if_neg hc]
    rcases h.jx.gr x hx with k|k|k|k
    ·exact .inl k
    ·exact .inr (.inl k)
    ·exact .inr (.inr (.inl k))
    ·refine .inr (.inr (.inr ⟨k.1,k.2.1,k.2.2.1,?_,k.2.2.2.2⟩))
     rw [hoj,if_neg (by omega)]
     exact k.2.2.2.1
 rw [if_neg k6] at hg ⊢
 by_cases k7:e.kind=7
 ·rw [if_pos k7] at hg ⊢
  simp only [Bool.and_eq_true,decide_eq_true_eq] at hg
  obtain ⟨g1,g2,g3⟩:=hg
  have hge:=hev.grant
  have hlt:e.grant.toNat<s.grants.length:=by omega
  have hs:=renewS_sh s e
  have:=hs.size; have:=hs.own
  have hop:=h.jx.open_ hlt g2
  exact ⟨renewS_wf h.wf e hlt (by rw [←g2]; exact (congrArg GSt.is (getD_at hlt)).symm),h.ll,fun x hx hk=>hdone x hx hk (by omega),h.jx.set (i:=e.grant.toNat) (y:= { s.grants.getD e.grant.toNat default with is:=1 }) (.inr (.inr (.inl ⟨rfl,hop.2,hop.1⟩))),by simp; omega,by simp [renewS]; omega⟩
 rw [if_neg k7] at hg ⊢
 simp only [Bool.and_eq_true] at hg
 have hl:=liv _ (hev.person (by omega) (by omega)) hg.1
 have hs:=askS_sh s n
 have:=hs.size; have:=hs.own
 refine ⟨askS_wf h.wf hs100 hnl,h.ll,fun x hx hk=>hdone x hx hk (by omega),⟨h.jx.own,fun w hw=>?_,h.jx.gr⟩,by simp; omega,by simp [askS]; omega⟩
 simp only [askS,List.mem_append,List.mem_singleton] at hw
 rcases hw with hw|rfl
 ·exact h.jx.wt w hw
 ·rw [hn]; exact hl
end
end Go.Gm.Tryz
end
section
namespace Go.Gm.Tryz
open Go.Proofs
theorem day_step {b:Book} (hB:isBookB b=true) {i:Nat} (hi:i+1<b.events.length):b.events[i].day≤b.events[i+1].day:=by
 simp only [isBookB,Bool.and_eq_true,List.all_eq_true,List.mem_range] at hB
 have:=hB.1.2 (i+1) hi
 unfold badAt at this
 rw [getD_at hi,Nat.add_sub_cancel,getD_at (show i<b.events.length by omega)] at this
 simp at this
 exact this.2
theorem day_mono {b:Book} (hB:isBookB b=true) {i:Nat}:∀(k:Nat) (h:i+k<b.events.length),(b.events[i]'(by omega)).day≤b.events[i+k].day:=by
 intro k
 induction k with
 |zero=>intro h; exact Int.le_refl _
 |succ k ih=>intro h; exact Int.le_trans (ih (by omega)) (day_step hB h)
theorem day_ev {b:Book} (hB:isBookB b=true) {e:Ev} (he:e∈b.events):0≤e.day∧e.day≤36500:=by
 obtain ⟨i,hi,rfl⟩:=List.mem_iff_getElem.1 he
 have:=(book_ok hB).ev i hi
 unfold isEventB at this
 simp [isDayI,inI] at this
 exact this.1
structure Cut (b:Book) (d:Int) (n:Nat):Prop where
 le:n≤b.events.length
 lo:∀e∈b.events.take n,e.day≤d
 hi:∀h:n<b.events.length,d<b.events[n].day
theorem up_ind {b:Book} {d:Int} {I:List Ev→Stand→Prop} (h0:I [] (start b)) (hs:∀(n:Nat) (hn:n<b.events.length) (s:Stand),b.events[n].day≤d→I (b.events.take n) s→goesB b (pass b s b.events[n].day) b.events[n]=true→I (b.events.take n++ [b.events[n]]) (serve b (doS b (pass b s b.events[n].day) b.events[n] n))) {u:Stand} (h:upS b d=.inr u):
  ∃n t,Cut b d n∧I (b.events.take n) t∧u=pass b t d:=by
 have:∀(es:List Ev) (n:Nat) (s:Stand),es=b.events.drop n→n≤b.events.length→I (b.events.take n) s→(∀e∈b.events.take n,e.day≤d)→upFrom b d es n s=.inr u→∃n t,Cut b d n∧I (b.events.take n) t∧u=pass b t d:=by
  intro es
  induction es with
  |nil=>
   intro n s he hn hI hd hu
   have hl:=congrArg List.length he
   simp only [List.length_drop,List.length_nil] at hl
   simp only [upFrom] at hu
   cases hu
   exact ⟨n,s,⟨hn,hd,fun h=>by omega⟩,hI,rfl⟩
  |cons e es ih=>
   intro n s he hn hI hd hu
   have hl:=congrArg List.length he
   simp only [List.length_drop,List.length_cons] at hl
   have hlt:n<b.events.length:=by omega
   rw [List.drop_eq_getElem_cons hlt] at he
   cases he
   simp only [upFrom] at hu
   split at hu
   ·rename_i hgt
    cases hu
    exact ⟨n,s,⟨hn,hd,fun _=>hgt⟩,hI,rfl⟩
   ·rename_i hgt
    split at hu
    ·rename_i hg
     have htk:b.events.take (n+1)=b.events.take n++ [b.events[n]]:=List.take_succ_eq_append_getElem hlt
     refine ih (n+1) _ rfl (by omega) (by rw [htk]; exact hs n hlt s (by omega) hI hg) (fun x hx=>?_) hu
     rw [htk] at hx
     rcases List.mem_append.1 hx with hx|hx
     ·exact hd x hx
     ·simp at hx; subst hx; omega
    ·cases hu
 exact this b.events 0 (start b) rfl (Nat.zero_le _) h0 (fun e he=>by simp at he) h
theorem evAt_lt {b:Book} {n:Nat} (h:n<b.events.length):evAt b n=b.events[n]:=by
 unfold evAt
 rw [Int.toNat_natCast]
 exact getD_at h
theorem Wg_up {b:Book} (hB:isBookB b=true) {d:Int} {u:Stand} (h:upS b d=.inr u):Wg b u:=by
 have hbo:=book_ok hB
 have h12:=hbo.events
 have h6:=hbo.owners
 obtain ⟨n,t,h1,h2,rfl⟩:=up_ind (I:=fun done s=>J b done s∧Wg b s) ⟨J.start hB,Wg.start b⟩ (fun n hn s _ ⟨hJ,hW⟩ hg=>by
  have hJ':=hJ.pass b.events[n].day
  have ho:=hJ'.ow
  have hlen:(b.events.take n).length=n:=by simp; omega
  have hev:=event_ok (s:=pass b s b.events[n].day) hbo.persons hJ'.ll (hbo.ev n hn)
  exact ⟨(hJ'.do_ hbo (hbo.ev n hn) hg (evAt_lt hn) hn (by omega) (by omega)).serve,((hW.pass _).do_ (hbo.ev n hn) hg hev.kind hev.grant (evAt_lt hn)).serve⟩) h
 exact h2.2.pass d
def diedB (b:Book) (p d:Int):Bool:=b.events.any fun e=>decide (e.kind=3∧e.day≤d∧e.person=p)
end Go.Gm.Tryz
end
section
namespace Go.Gm.Tryz
open Go.Proofs
def El (s:Stand) (d:Int) (i:Nat):Prop:=(gAt s i).is=2∧lastAt s i<d
theorem find_spec (s:Stand) (d:Int) (i:Nat):((List.range i).foldl (findStep s d) (-1)<0∧∀k,k<i→¬El s d k)∨
  ∃j:Nat,(List.range i).foldl (findStep s d) (-1)=j∧j<i∧El s d j∧∀k,k<i→El s d k→lastAt s j≤lastAt s k∧(k<j→lastAt s j<lastAt s k):=by
 induction i with
 |zero=>exact .inl ⟨by simp,fun k hk=>by omega⟩
 |succ i ih=>
  have hr:(List.range (i+1)).foldl (findStep s d) (-1)=findStep s d ((List.range i).foldl (findStep s d) (-1)) i:=by rw [List.range_succ,List.foldl_append]; rfl
  rw [hr]
  generalize (List.range i).foldl (findStep s d) (-1)=a at ih
  have hel:El s d i↔¬((s.grants.getD i default).is≠2∨lastAt s i≥d):=by
   unfold El gAt
   constructor
   ·rintro ⟨h1,h2⟩ (h|h)
    ·exact h h1
    ·omega
   ·intro h
    exact ⟨Classical.not_not.1 fun hc=>h (.inl hc),by
     have:¬lastAt s i≥d:=fun hc=>h (.inr hc)
     omega⟩
  unfold findStep
  by_cases hc:El s d i
  ·rw [if_neg (hel.1 hc)]
   rcases ih with ⟨h1,h2⟩|⟨j,rfl,h2,h3,h4⟩
   ·rw [if_pos (.inl h1)]
    refine .inr ⟨i,rfl,by omega,hc,fun k hk hke=>?_⟩
    by_cases hki:k=i
    ·subst hki; exact ⟨Int.le_refl _,fun h=>by omega⟩
    ·exact absurd hke (h2 k (by omega))
   ·by_cases hl:lastAt s i<lastAt s j
    ·rw [if_pos (.inr hl)]
     refine .inr ⟨i,rfl,by omega,hc,fun k hk hke=>?_⟩
     by_cases hki:k=i
     ·subst hki; exact ⟨Int.le_refl _,fun h=>by omega⟩
     ·have:=(h4 k (by omega) hke).1
      exact ⟨by omega,fun _=>by omega⟩
    ·rw [if_neg (by omega)]
     refine .inr ⟨j,rfl,by omega,h3,fun k hk hke=>?_⟩
     by_cases hki:k=i
     ·subst hki; exact ⟨by omega,fun h=>by omega⟩
     ·exact h4 k (by omega) hke
  ·rw [if_pos (Classical.not_not.1 fun h=>hc (hel.2 h))]
   rcases ih with ⟨h1,h2⟩|⟨j,rfl,h2,h3,h4⟩
   ·refine .inl ⟨h1,fun k hk=>?_⟩
    by_cases hki:k=i
    ·subst hki; exact hc
    ·exact h2 k (by omega)
   ·refine .inr ⟨j,rfl,by omega,h3,fun k hk hke=>?_⟩
    by_cases hki:k=i
    ·subst hki; exact absurd hke hc
    ·exact h4 k (by omega) hke
theorem findAt_spec (s:Stand) (d:Int):(findAt s d<0∧∀k,k<s.grants.length→¬El s d k)∨
  ∃j:Nat,findAt s d=j∧j<s.grants.length∧El s d j∧∀k,k<s.grants.length→El s d k→lastAt s j≤lastAt s k∧(k<j→lastAt s j<lastAt s k):=find_spec s d _
theorem pass_unfold (b:Book) (s:Stand) (d:Int):pass b s d=if findAt s d<0 then s else pass b (endS b s (findAt s d).toNat (IntKind.i64.wrap (lastAt s (findAt s d)+1))) d:=by
 unfold pass
 split
 ·rename_i h
  cases opens s with
  |zero=>rfl
  |succ n=>simp only [passS]; rw [if_pos h]
 ·rename_i h
  rcases findAt_spec s d with ⟨h1,_⟩|⟨j,e1,h2,h3,h4⟩
  ·omega
  have hop:=endS_opens (b:=b) (s:=s) (g:=j) h2 (by have:=h3.1; rwa [gAt,getD_at h2] at this) (IntKind.i64.wrap (lastAt s (findAt s d)+1))
  have ej:(findAt s d).toNat=j:=by omega
  rw [ej,←hop]
  simp only [passS]
  rw [if_neg h,ej]
theorem pass_done (b:Book) (d:Int):∀(n:Nat) (s:Stand),opens s=n→findAt (pass b s d) d<0:=by
 intro n
 induction n with
 |zero=>
  intro s hn
  rcases findAt_spec s d with ⟨h1,_⟩|⟨j,e1,h2,h3,h4⟩
  ·rw [pass_unfold,if_pos h1]; exact h1
  ·have hop:=endS_opens (b:=b) (s:=s) (g:=j) h2 (by have:=h3.1; rwa [gAt,getD_at h2] at this) 0
   omega
 |succ n ih=>
  intro s hn
  rw [pass_unfold]
  split
  ·assumption
  ·rename_i h
   rcases findAt_spec s d with ⟨h1,_⟩|⟨j,e1,h2,h3,h4⟩
   ·omega
   have hop:=endS_opens (b:=b) (s:=s) (g:=j) h2 (by have:=h3.1; rwa [gAt,getD_at h2] at this) (IntKind.i64.wrap (lastAt s (findAt s d)+1))
   have ej:(findAt s d).toNat=j:=by omega
   refine ih _ ?_
   rw [ej]
   omega
theorem gAt_set {s t:Stand} {i j:Nat} {y:GSt} (hi:i<s.grants.length) (h:t.grants=s.grants.set i y):gAt t j=if j=i then y else gAt s j:=by
 unfold gAt
 rw [h,List.getD_eq_getElem?_getD,List.getD_eq_getElem?_getD]
 by_cases hc:j=i
 ·subst hc; rw [List.getElem?_set_self hi,if_pos rfl]; rfl
 ·rw [List.getElem?_set_ne (Ne.symm hc),if_neg hc]
theorem gAt_app {s t:Stand} {j:Nat} {y:GSt} (h:t.grants=s.grants++ [y]) (hj:j≤s.grants.length):gAt t j=if j=s.grants.length then y else gAt s j:=by
 unfold gAt
 rw [h,List.getD_eq_getElem?_getD,List.getD_eq_getElem?_getD]
 by_cases hc:j=s.grants.length
 ·subst hc; rw [if_pos rfl]; simp
 ·rw [List.getElem?_append_left (by omega),if_neg hc]
theorem gAt_map {s t:Stand} {f:GSt→GSt} {j:Nat} (h:t.grants=s.grants.map f) (hj:j<s.grants.length):gAt t j=f (gAt s j):=by
 unfold gAt
 rw [h,List.getD_eq_getElem?_getD,List.getD_eq_getElem?_getD,List.getElem?_map,List.getElem?_eq_getElem hj]
 rfl
theorem last_app {s t:Stand} {j:Nat} (h:t.last=s.last++ [0]) (hj:j<s.last.length):lastAt t j=lastAt s j:=by
 unfold lastAt
 rw [h,List.getD_eq_getElem?_getD,List.getD_eq_getElem?_getD,List.getElem?_append_left (by simpa using hj)]
theorem last_set {s t:Stand} {i j:Nat} {x:Int} (hi:i<s.last.length) (h:t.last=s.last.set i x):lastAt t j=if j=i then x else lastAt s j:=by
 unfold lastAt
 rw [h,List.getD_eq_getElem?_getD,List.getD_eq_getElem?_getD]
 simp only [Int.toNat_natCast]
 by_cases hc:j=i
 ·subst hc; rw [List.getElem?_set_self hi,if_pos rfl]; rfl
 ·rw [List.getElem?_set_ne (Ne.symm hc),if_neg hc]
structure Fd (b:Book) (done:List Ev) (s:Stand):Prop where
 ll:s.last.length=s.grants.length
 es:∀i,i<s.grants.length→ -1≤(gAt s i).estate∧((gAt s i).is=1∨(gAt s i).estate= -1)
 st:∀i,i<s.grants.length→(gAt s i).is=1→(gAt s i).estate= -1→∃e∈done,e.person=(gAt s i).person∧(e.kind=1∨e.kind=8∨(e.kind=7∧e.grant=i))
 op:∀i,i<s.grants.length→(gAt s i).is=2→∃e∈done,e.kind=3∧e.other=(gAt s i).person∧lastAt s i=e.day+b.term
 wt:∀w∈s.waits,evAt b w∈done∧(evAt b w).kind=8
section
variable {b:Book} {s:Stand} {done:List Ev}
theorem Fd.more (h:Fd b done s) (e:Ev):Fd b (done++ [e]) s:=
 ⟨h.ll,h.es,fun i hi h1 h2=>by obtain ⟨x,hx,k⟩:=h.st i hi h1 h2; exact ⟨x,List.mem_append_left _ hx,k⟩,
  fun i hi h1=>by obtain ⟨x,hx,k⟩:=h.op i hi h1; exact ⟨x,List.mem_append_left _ hx,k⟩,fun w hw=>⟨List.mem_append_left _ (h.wt w hw).1,(h.wt w hw).2⟩⟩
theorem Fd.add (h:Fd b done s) {p es sy u:Int} (h1: -1≤es) (h2:es= -1→∃e∈done,e.person=p∧(e.kind=1∨e.kind=8)) {t:Stand} (hg:t.grants=s.grants++ [⟨1,p,es,sy,u⟩]) (hl:t.last=s.last++ [0]) (hw:∀w∈t.waits,w∈s.waits):Fd b done t:=by
 have hlen:t.grants.length=s.grants.length+1:=by rw [hg]; simp
 have hll:=h.ll
 refine ⟨by rw [hl,hlen]; simp [hll],fun i hi=>?_,fun i hi k1 k2=>?_,fun i hi k1=>?_,fun w hw'=>h.wt w (hw w hw')⟩
 ·rw [gAt_app hg (by omega)]
  split
  ·exact ⟨h1,.inl rfl⟩
  ·exact h.es i (by omega)
 ·rw [gAt_app hg (by omega)] at k1 k2 ⊢
  split at k1
  ·rename_i hc
   rw [if_pos hc] at k2 ⊢
   obtain ⟨e,he,a1,a2⟩:=h2 k2
   exact ⟨e,he,a1,a2.elim .inl fun h=>.inr (.inl h)⟩
  ·rename_i hc
   rw [if_neg hc] at k2 ⊢
   exact h.st i (by omega) k1 k2
 ·rw [gAt_app hg (by omega)] at k1 ⊢
  split at k1
  ·cases k1
  ·rename_i hc
   rw [if_neg hc]
   rw [last_app hl (by omega)]
   exact h.op i (by omega) k1
theorem Fd.serve (h:Fd b done s):Fd b done (serve b s):=
 serve_ind (I:=Fd b done) (fun s w ws h hw _=>h.add (by omega) (fun _=>⟨evAt b w,(h.wt w (by rw [hw]; simp)).1,rfl,.inr (h.wt w (by rw [hw]; simp)).2⟩) rfl rfl fun v hv=>by rw [hw]; exact List.mem_cons_of_mem _ hv) h
theorem Fd.endG (h:Fd b done s) {g:Nat} (hg:g<s.grants.length) (h2:(gAt s g).is=2) (d:Int):Fd b done (endG s g d):=by
 have hgr:(Tryz.endG s g d).grants=s.grants.set g { gAt s g with is:=3,person:= -1 }:=rfl
 have hlen:(Tryz.endG s g d).grants.length=s.grants.length:=by rw [hgr]; simp
 have he:=h.es g hg
 refine ⟨by rw [hlen]; exact h.ll,fun i hi=>?_,fun i hi k1 k2=>?_,fun i hi k1=>?_,h.wt⟩
 ·rw [gAt_set hg hgr]
  split
  ·exact ⟨he.1,.inr (by simp only; omega)⟩
  ·exact h.es i (by omega)
 ·rw [gAt_set hg hgr] at k1 k2 ⊢
  split at k1
  ·cases k1
  ·rename_i hc
   rw [if_neg hc] at k2 ⊢
   exact h.st i (by omega) k1 k2
 ·rw [gAt_set hg hgr] at k1 ⊢
  split at k1
  ·cases k1
  ·rename_i hc
   rw [if_neg hc]
   exact h.op i (by omega) k1
theorem Fd.pass (h:Fd b done s) (d:Int):Fd b done (pass b s d):=
 pass_ind (I:=Fd b done) (fun s w ws h hw _=>h.add (by omega) (fun _=>⟨evAt b w,(h.wt w (by rw [hw]; simp)).1,rfl,.inr (h.wt w (by rw [hw]; simp)).2⟩) rfl rfl fun v hv=>by rw [hw]; exact List.mem_cons_of_mem _ hv) (fun s g h hg h2 _=>h.endG hg h2 _) h
theorem Fd.lands (h:Fd b done s) {f:GSt→GSt} (hf:∀g,(f g).is=g.is∧(g.estate= -1→f g=g)∧(-1≤g.estate→g.estate≠ -1→ -1<(f g).estate)) {t:Stand} (ht:t.grants=s.grants.map f) (hl:t.last=s.last) (hw:t.waits=s.waits):Fd b done t:=by
 have hlen:t.grants.length=s.grants.length:=by rw [ht]; simp
 have key:∀i,i<s.grants.length→((gAt t i).estate= -1→gAt t i=gAt s i∧(gAt s i).estate= -1):=fun i hi k=>by
  rw [gAt_map ht hi] at k ⊢
  by_cases hc:(gAt s i).estate= -1
  ·exact ⟨(hf _).2.1 hc,hc⟩
  ·have:=(hf (gAt s i)).2.2 (h.es i hi).1 hc
   omega
 refine ⟨by rw [hl,hlen]; exact h.ll,fun i hi=>?_,fun i hi k1 k2=>?_,fun i hi k1=>?_,fun w hw'=>h.wt w (hw▸hw')⟩
 ·rw [hlen] at hi
  have he:=h.es i hi
  by_cases hc:(gAt s i).estate= -1
  ·rw [gAt_map ht hi,(hf _).2.1 hc]
   exact he
  ·rw [gAt_map ht hi,(hf _).1]
   have:=(hf (gAt s i)).2.2 he.1 hc
   exact ⟨by omega,.inl (by omega)⟩
 ·rw [hlen] at hi
  obtain ⟨a1,a2⟩:=key i hi k2
  rw [a1] at k1 ⊢
  exact h.st i hi k1 a2
 ·rw [hlen] at hi
  have k1':=k1
  rw [gAt_map ht hi,(hf _).1] at k1'
  have he:=(h.es i hi).2
  have hc:(gAt s i).estate= -1:=by omega
  rw [gAt_map ht hi,(hf _).2.1 hc]
  have:lastAt t i=lastAt s i:=by unfold lastAt; rw [hl]
  rw [this]
  exact h.op i hi k1'
theorem Fd.own (h:Fd b done s) (n:Nat) (p:Int):Fd b done (ownS s n p):=
 h.lands (f:=fun x=>if x.estate=(n:Int) then { x with person:=p } else x) (fun g=>by
  split
  ·exact ⟨rfl,fun hc=>by omega,fun _ _=>by simp only; omega⟩
  ·exact ⟨rfl,fun _=>rfl,fun _ _=>by omega⟩) rfl rfl rfl
theorem Fd.set (h:Fd b done s) {i:Nat} (hi:i<s.grants.length) {y:GSt} {x:Int} (h1: -1≤y.estate∧(y.is=1∨y.estate= -1)) (h2:y.is=1→y.estate= -1→∃e∈done,e.person=y.person∧(e.kind=1∨e.kind=8∨(e.kind=7∧e.grant=i)))
  (h3:y.is=2→∃e∈done,e.kind=3∧e.other=y.person∧x=e.day+b.term) {t:Stand} (hg:t.grants=s.grants.set i y) (hl:t.last=s.last.set i x) (hw:t.waits=s.waits):Fd b done t:=by
 have hlen:t.grants.length=s.grants.length:=by rw [hg]; simp
 have hll:=h.ll
 refine ⟨by rw [hl,hlen]; simp [hll],fun j hj=>?_,fun j hj k1 k2=>?_,fun j hj k1=>?_,fun w hw'=>h.wt w (hw▸hw')⟩
 ·rw [gAt_set hi hg]
  split
  ·exact h1
  ·exact h.es j (by omega)
 ·rw [gAt_set hi hg] at k1 k2 ⊢
  split at k1
  ·rename_i hc
   rw [if_pos hc] at k2 ⊢
   subst hc
   exact h2 k1 k2
  ·rename_i hc
   rw [if_neg hc] at k2 ⊢
   exact h.st j (by omega) k1 k2
 ·rw [gAt_set hi hg] at k1 ⊢
  rw [last_set (by omega) hl]
  split at k1
  ·rename_i hc
   rw [if_pos hc,if_pos hc]
   exact h3 k1
  ·rename_i hc
   rw [if_neg hc,if_neg hc]
   exact h.op j (by omega) k1
theorem last_self {s:Stand} {i:Nat} (h:i<s.last.length):s.last=s.last.set i (lastAt s i):=by
 have:lastAt s i=s.last[i]:=by unfold lastAt; rw [Int.toNat_natCast]; exact getD_at h
 rw [this,List.set_getElem_self]
theorem Fd.do_ (h:Fd b done s) {e:Ev} (hev:EvOk b s e) (hd:0≤e.day∧e.day≤36500) (ht:0≤b.term∧b.term≤1000) (hg:goesB b s e=true) {n:Nat} (hn:evAt b n=e):Fd b (done++ [e]) (doS b s e n):=by
 have hm:e∈done++ [e]:=by simp
 have h':=h.more e
 unfold goesB at hg
 unfold doS
 by_cases k1:e.kind=1
 ·rw [if_pos k1]
  exact h'.add (by omega) (fun _=>⟨e,hm,rfl,.inl k1⟩) rfl rfl fun w hw=>hw
 rw [if_neg k1] at hg ⊢
 by_cases k2:e.kind=2
 ·rw [if_pos k2]
  have:=hev.estate
  exact h'.add (by omega) (fun hc=>by omega) rfl rfl fun w hw=>hw
 rw [if_neg k2] at hg ⊢
 by_cases k3:e.kind=3
 ·rw [if_pos k3]
  refine die_ind (I:=Fd b (done++ [e])) (fun s h=>⟨h.ll,h.es,h.st,h.op,h.wt⟩) (fun s i h _ _=>h.own i e.other) (fun s h=>⟨h.ll,h.es,h.st,h.op,fun w hw=>h.wt w (List.mem_filter.1 hw).1⟩)
   (fun s i h hi h2 _=>(h.endG hi h2 e.day).serve) (fun s i h hi h1 h2 h3=>?_) h'
  have he:=h.es i hi
  refine h.set hi (y:= { gAt s i with is:=2,person:=e.other }) (x:=IntKind.i64.wrap (e.day+b.term)) ⟨he.1,.inr (by simp only; omega)⟩ (fun hc=>by cases hc) (fun _=>⟨e,hm,k3,rfl,wrap64 _ (by omega) (by omega)⟩) rfl rfl rfl
 rw [if_neg k3] at hg ⊢
 by_cases k4:e.kind=4
 ·rw [if_pos k4]; exact h'.own _ _
 rw [if_neg k4] at hg ⊢
 by_cases k5:e.kind=5
 ·rw [if_pos k5] at hg ⊢
  simp [divB] at hg
  obtain ⟨g1,g2,g3,g4,_⟩:=hg
  have hge:=hev.grant
  have hgd:s.grants[e.grant.toNat]?.getD default=gAt s e.grant.toNat:=by simp [gAt]
  rw [hgd] at g2
  have hlt:e.grant.toNat<s.grants.length:=by omega
  have he:=h.es _ hlt
  have hll:=h.ll
  refine Fd.add (s:= { s with owners:=s.owners++ [e.person],grants:=s.grants.set e.grant.toNat { s.grants.getD e.grant.toNat default with units:=IntKind.i64.wrap ((s.grants.getD e.grant.toNat default).units - e.units) } }) ?_ (p:=e.person) (es:=s.owners.length) (sy:=(s.grants.getD e.grant.toNat default).system) (u:=e.units) (by omega) (fun hc=>by omega) rfl rfl fun w hw=>hw
  refine h'.set hlt (y:= { gAt s e.grant.toNat with units:=IntKind.i64.wrap ((gAt s e.grant.toNat).units - e.units) }) (x:=lastAt s e.grant.toNat) he (fun _ hc=>?_) (fun hc=>?_) rfl (last_self (s:=s) (i:=e.grant.toNat) (by omega)) rfl
  ·simp only at hc; omega
  ·simp only at hc; omega
 rw [if_neg k5] at hg ⊢
 by_cases k6:e.kind=6
 ·rw [if_pos k6]
  have h0:=hev.estate
  have h1:=hev.other0
  refine h'.lands (f:=joinF e) (fun g=>?_) rfl rfl rfl
  unfold joinF
  split
  ·exact ⟨rfl,fun hc=>by omega,fun _ _=>by simp only; omega⟩
  ·exact ⟨rfl,fun _=>rfl,fun _ _=>by omega⟩
 rw [if_neg k6] at hg ⊢
 by_cases k7:e.kind=7
 ·rw [if_pos k7] at hg ⊢
  simp only [Bool.and_eq_true,decide_eq_true_eq] at hg
  obtain ⟨g1,g2,g3⟩:=hg
  have hge:=hev.grant
  have hlt:e.grant.toNat<s.grants.length:=by omega
  have he:=h.es _ hlt
  have hll:=h.ll
  exact h'.set hlt (y:= { gAt s e.grant.toNat with is:=1 }) (x:=lastAt s e.grant.toNat) ⟨he.1,.inl rfl⟩ (fun _ _=>⟨e,hm,g3.symm,.inr (.inr ⟨k7,by omega⟩)⟩) (fun hc=>by cases hc) rfl (last_self (s:=s) (i:=e.grant.toNat) (by omega)) rfl
 rw [if_neg k7] at hg ⊢
 have k8:e.kind=8:=by have:=hev.kind; omega
 refine ⟨h'.ll,h'.es,h'.st,h'.op,fun w hw=>?_⟩
 simp only [askS,List.mem_append,List.mem_singleton] at hw
 rcases hw with hw|rfl
 ·exact h'.wt w hw
 ·rw [hn]; exact ⟨hm,k8⟩
theorem Fd.start (b:Book):Fd b [] (start b):=⟨rfl,fun i hi=>by simp [Tryz.start] at hi,fun i hi=>by simp [Tryz.start] at hi,fun i hi=>by simp [Tryz.start] at hi,fun w hw=>by simp [Tryz.start] at hw⟩
end
theorem book_term {b:Book} (hB:isBookB b=true):0≤b.term∧b.term≤1000:=by
 simp only [isBookB,Bool.and_eq_true,inI,decide_eq_true_eq] at hB
 exact hB.1.1.1.1.1.2
theorem book_supply {b:Book} (hB:isBookB b=true):0≤b.supply∧b.supply≤10000:=by
 simp only [isBookB,Bool.and_eq_true,inI,decide_eq_true_eq] at hB
 exact hB.1.1.1.1.1.1.2
theorem book_tbl {b:Book} (hB:isBookB b=true):isTableB b.tbl=true:=by
 simp only [isBookB,Bool.and_eq_true] at hB
 exact hB.1.1.1.1.1.1.1
theorem upJ_ind {b:Book} (hB:isBookB b=true) {d:Int} {I I':List Ev→Stand→Prop} (h0:I [] (start b)) (hp:∀done s d',d'≤d→J b done s→I done s→I done (pass b s d')) (hsv:∀done s,I' done s→I done (serve b s))
  (hd:∀(n:Nat) (hn:n<b.events.length) (s:Stand),b.events[n].day≤d→J b (b.events.take n) s→I (b.events.take n) s→EvOk b s b.events[n]→isEventB b b.events[n]=true→goesB b s b.events[n]=true→evAt b n=b.events[n]→I' (b.events.take n++ [b.events[n]]) (doS b s b.events[n] n))
  {u:Stand} (h:upS b d=.inr u):∃n t,Cut b d n∧J b (b.events.take n) t∧I (b.events.take n) t∧u=pass b t d:=by
 have hbo:=book_ok hB
 have h12:=hbo.events
 have h6:=hbo.owners
 obtain ⟨n,t,h1,h2,rfl⟩:=up_ind (I:=fun done s=>J b done s∧I done s) ⟨J.start hB,h0⟩ (fun n hn s hdn ⟨hJ,hI⟩ hg=>by
  have hJ':=hJ.pass b.events[n].day
  have ho:=hJ'.ow
  have hlen:(b.events.take n).length=n:=by simp; omega
  have hev:=event_ok (s:=pass b s b.events[n].day) hbo.persons hJ'.ll (hbo.ev n hn)
  exact ⟨(hJ'.do_ hbo (hbo.ev n hn) hg (evAt_lt hn) hn (by omega) (by omega)).serve,hsv _ _ (hd n hn _ hdn hJ' (hp _ _ _ hdn hJ hI) hev (hbo.ev n hn) hg (evAt_lt hn))⟩) h
 exact ⟨n,t,h1,h2.1,h2.2,rfl⟩
def cameB (b:Book) (p:Int) (i:Nat) (d:Int):Bool:=b.events.any fun x=>decide (x.day≤d∧x.person=p∧(x.kind=1∨x.kind=8∨(x.kind=7∧x.grant=i)))
def leftB (b:Book) (p d:Int):Bool:=b.events.any fun x=>decide (x.kind=3∧x.other=p∧x.day≤d∧d≤x.day+b.term)
end Go.Gm.Tryz
end
section
namespace Go.Gm.Tryz
open Go.Proofs
def noneV:Value:=.slice none 0 0
theorem vecs_dis {b:Book} {s:Stand} {H:GH} {N M:Nat} {v1 v2:Value} {x y:List Int} (_h1:OwnL H N v1 3 1 encI x) (_h2:OwnL H M v2 3 1 encI y) (hd:∀k,blkOf v1=some k→blkOf v2≠some k):
  ∀(i j:Nat) (hi:i<(vecs b s [] [] v1 v2 noneV noneV noneV noneV noneV noneV noneV).length) (hj:j<(vecs b s [] [] v1 v2 noneV noneV noneV noneV noneV noneV noneV).length),i≠j→∀k,blkOf (vecs b s [] [] v1 v2 noneV noneV noneV noneV noneV noneV noneV)[i].v=some k→blkOf (vecs b s [] [] v1 v2 noneV noneV noneV noneV noneV noneV noneV)[j].v≠some k:=by
 have hb:∀(i:Nat) (hi:i<9),2≤i→blkOf ((vecs b s [] [] v1 v2 noneV noneV noneV noneV noneV noneV noneV)[i]'hi).v=none:=by
  intro i hi h2
  have:i=2∨i=3∨i=4∨i=5∨i=6∨i=7∨i=8:=by omega
  rcases this with rfl|rfl|rfl|rfl|rfl|rfl|rfl<;>rfl
 intro i j hi hj hij k hk hc
 have hi9:i<9:=hi
 have hj9:j<9:=hj
 by_cases h2i:2≤i
 ·have:=(hb i hi9 h2i).symm.trans hk; cases this
 by_cases h2j:2≤j
 ·have:=(hb j hj9 h2j).symm.trans hc; cases this
 have:(i=0∧j=1)∨(i=1∧j=0):=by omega
 rcases this with ⟨rfl,rfl⟩|⟨rfl,rfl⟩
 ·exact hd k hk hc
 ·exact hd k hc hk
theorem RIn.reg {H:GH} {N:Nat} {l:BLoc} {b:Book} {sg:Nat} {s t:Stand} {v1 v2 vl vo vg va vw vb vd:Value} (h:RIn H N l b sg s (s.fell.map Prod.fst) (s.fell.map Prod.snd) v1 v2 vl vo vg va vw vb vd) (e:t=s):∃O,RegS H N l b sg t O:=by
 subst e
 exact ⟨_,_,_,_,_,_,_,_,_,_,h,fun g=>Iff.rfl⟩
theorem rbegin_con {H:GH} {l:BLoc} {b:Book} (hb:BookIn H l b) (hB:isBookB b=true) (hrows:b.tbl.rows.length≤4):
  GCall Tryz.prog 80 [bookV l b] H fun x H'=>Sub H H'∧∃N sg O,H.next≤N∧x=.ret (.pointer (some (ga sg 0 0)))∧RegS H' N l b sg (start b) O:=by
 rcases l with ⟨⟨⟨ra,rf⟩⟩,⟨oa,of'⟩,⟨va',vf'⟩⟩
 have hbo:=book_ok hB
 have hp:=hbo.persons
 have ho:=hbo.owners
 refine gcall_wp tok mix fok80 (F:=g80) (c:=_) rfl (n:=40) rfl (rs:= [.tmp 2]) rfl ?_
 simp
 generalize hH1:GH.push _ _=H1
 have hs1:Sub H H1:=by subst hH1; exact Sub.push (.refl H) _
 have hb1:H1.get H.next=some (.arr { cells:= [.slice ra b.tbl.rows.length rf,vi b.tbl.draw,vi b.supply,vi b.term,vi b.persons,.slice oa b.owners.length of',.slice va' b.events.length vf'],ty:=28 }):=by
  subst hH1; simp
 have hn1:H1.next=H.next+1:=by subst hH1; simp
 clear hH1
 have hbi:=hb.mono hs1
 have hw1:=rwaters_con ⟨⟨ra,rf⟩⟩ b.tbl (book_tbl hB) hrows 1 rfl H1 hbi.t
 refine hw1.mono ?_
 rintro x H2 ⟨hs2,v1,rfl,ho1⟩
 have hn2:=hs2.1
 have hb2:=(hs2.2 H.next (by omega)).trans hb1
 have hw2:=rwaters_con ⟨⟨ra,rf⟩⟩ b.tbl (book_tbl hB) hrows 2 rfl H2 (hbi.mono hs2).t
 simp (disch:=omega) [hb2]
 refine hw2.mono ?_
 rintro x H3 ⟨hs3,v2,rfl,ho2⟩
 have hn3:=hs3.1
 have hb3:=(hs3.2 H.next (by omega)).trans hb2
 obtain ⟨a1,q1,rfl⟩:=ho1.slice
 obtain ⟨a2,q2,rfl⟩:=ho2.slice
 obtain ⟨P,hP⟩:∃P:Nat,b.persons=P:=⟨b.persons.toNat,by omega⟩
 simp (disch:=omega) [hb3]
 generalize hH4:GH.push H3 _=H4
 have hs4:Sub H3 H4:=by subst hH4; exact Sub.push (.refl H3) _
 have hn4:H4.next=H3.next+1:=by subst hH4; simp
 have hsub:=hs1.trans (hs2.trans (hs3.trans hs4))
 have hR4:RIn H4 H1.next ⟨⟨⟨ra,rf⟩⟩,⟨oa,of'⟩,⟨va',vf'⟩⟩ b H3.next ⟨[],[],[],[],[],[]⟩ [] [] (.slice a1 (watersL b.tbl 1).length q1) (.slice a2 (watersL b.tbl 2).length q2) noneV noneV noneV noneV noneV noneV noneV:=by
  have hnil:∀ {ty sz:Nat},OwnL H4 H1.next noneV ty sz id []:=.inl ⟨rfl,rfl⟩
  refine ⟨⟨?_,⟨by omega,by omega⟩,?_,vecs_dis (ho1.sub (hs3.trans hs4)) (ho2.sub hs4) fun k hk hc=>?_⟩,hb.mono hsub,fun a ha=>?_,fun a ha=>?_,fun a ha=>?_⟩
  ·subst hH4; rw [GH.get_push_same]; rfl
  ·intro o hom
   simp only [vecs,List.mem_cons,List.mem_nil_iff,or_false] at hom
   rcases hom with rfl|rfl|rfl|rfl|rfl|rfl|rfl|rfl|rfl
   ·exact ⟨ownL_id.2 (ho1.sub (hs3.trans hs4)),by simp⟩
   ·exact ⟨ownL_id.2 ((ho2.sub hs4).weaken (by omega)),by simp⟩
   all_goals exact ⟨hnil,by simp⟩
  ·have:=(ho1.blk_lt hk).2
   have:=(ho2.blk_lt hc).1
   omega
  ·have:=(hb.t.ok a ha).1; omega
  ·have:=(hb.owners.ok a ha).1; omega
  ·have:=(hb.events.ok a ha).1; omega
 have hb4:=(hs4.2 H.next (by omega)).trans hb3
 clear hH4
 refine wp_up tok mix (by kernel_rfl) P (fun i ρ m H5=>ρ 1=.pointer (some (ga H.next 0 0))∧ρ 3=.pointer (some (ga H3.next 0 0))∧ρ 4=vi i∧m= []∧Sub H H5∧H5.get H.next=H4.get H.next∧
  ∃vl,RIn H5 H1.next ⟨⟨⟨ra,rf⟩⟩,⟨oa,of'⟩,⟨va',vf'⟩⟩ b H3.next ⟨List.replicate i true,[],[],[],[],[]⟩ [] [] (.slice a1 (watersL b.tbl 1).length q1) (.slice a2 (watersL b.tbl 2).length q2) vl noneV noneV noneV noneV noneV noneV) (i0:=0) (by omega)
  ⟨by simp,by simp,by simp,rfl,hsub,rfl,_,hR4⟩ ?_
 rintro i ρ m H5 hi ⟨e1,e3,e4,rfl,hs5,hk5,vl,h5⟩
 have hb5:=hk5.trans hb4
 have hg5:=h5.g
 have hsl5:=h5.sgl.2
 have hsN5:=h5.sgl.1
 have hlt5:H.next<H5.next:=by omega
 simp only [bookC,List.cons_append,List.nil_append] at hg5
 simp (disch:=omega) [e1,e4,hb5]
 by_cases hlt:i<P
 ·have hltI:(i:Int)<b.persons:=by omega
  have hlv:=h5.lives.len
  simp only [List.length_replicate] at hlv
  obtain ⟨vl',H6,happ,ho6,hn6,hf6,hb6⟩:=(h5.lives.push (.arr { cells:= [.bool true],ty:=4 })).app (by simp) (by simp) (by decide) true (by simp; omega)
  simp only [encB] at happ
  have d8:1*(1+i)≤1000000:=by omega
  have d9:1+i≤1000000:=by omega
  have hg6:=(hf6 H3.next (by simp; omega) (h5.ne 2 (by decide))).trans ((GH.get_push_lt _ _ hsl5).trans hg5)
  have hb6':=(hf6 H.next (by simp; omega) (fun hc=>by have:=(h5.lives.blk_lt hc).1; omega)).trans (GH.get_push_lt _ _ hlt5)
  simp only [GH.next_push] at hn6
  obtain ⟨al,fl,rfl⟩:=ho6.slice
  simp (disch:=omega) [hltI,e1,e3,e4,hg5,hlv,d9,happ,hg6,wrap64]
  obtain ⟨hS6,_⟩:=h5.upd 2 (by decide) (H1:=H6) (s1:=⟨List.replicate i true++ [true],[],[],[],[],[]⟩) (bk1:= []) (dy1:= []) (by omega) (ownL_id.2 ho6) (fun k hk hne=>by rw [hf6 k (by simp; omega) hne,GH.get_push_lt _ _ hk]) (fun k hk=>(hb6 k hk).imp id fun h=>by simp at h; omega) rfl
  simp only [bookC,List.cons_append,List.nil_append,List.length_append,List.length_cons,List.length_nil,Nat.zero_add,List.length_replicate] at hS6
  have hrep:List.replicate i true++ [true]=List.replicate (i+1) true:=by rw [List.replicate_succ']
  rw [hrep] at hS6
  refine ⟨hlt,⟨?_,fun g hg=>?_⟩,?_,_,hS6⟩
  ·have:=hs5.1; simp; omega
  ·rw [GH.get_put_ne _ _ (by omega),hf6 g (by have:=hs5.1; simp; omega) (fun hc=>by have:=(h5.lives.blk_lt hc).1; omega),GH.get_push_lt _ _ (by have:=hs5.1; omega),hs5.2 g hg]
  ·rw [hb6',hk5]
 ·have hge:¬(i:Int)<b.persons:=by omega
  have:i=P:=by omega
  subst this
  have hbo5:=(hb.owners.mono hs5)
  have hrs:=hbo5.readS
  obtain ⟨v7,H7,happ7,ho7,hn7,hf7,hb7⟩:=(OwnL.nil (H:=H5) (N:=H1.next) (ty:=3) (sz:=1) (enc:=encI)).apps (fun _=>rfl) (fun _=>rfl) (by decide) b.owners (by omega)
  simp only [List.nil_append] at ho7
  have hg7:=(hf7 H3.next hsl5 (by simp)).trans hg5
  have d8:8*b.owners.length≤1000000:=by omega
  have d9:b.owners.length≤1000000:=by omega
  obtain ⟨a7,f7,rfl⟩:=ho7.slice
  simp (disch:=omega) [hge,e1,e3,hg5,hb5,noneV,hrs,d8,d9,happ7,hg7]
  obtain ⟨hS7,_⟩:=h5.upd 3 (by decide) (H1:=H7) (s1:=⟨List.replicate i true,b.owners,[],[],[],[]⟩) (bk1:= []) (dy1:= []) hn7 (ownL_id.2 ho7) (fun k hk _=>hf7 k hk (by simp)) (fun k hk=>(hb7 k hk).imp (fun h=>by simp at h) id) rfl
  simp only [bookC,List.cons_append,List.nil_append] at hS7
  have hst:start b=⟨List.replicate i true,b.owners,[],[],[],[]⟩:=by unfold start; rw [hP,Int.toNat_natCast]
  have hRS:=hS7.reg (s:=⟨List.replicate i true,b.owners,[],[],[],[]⟩) hst
  refine ⟨⟨?_,fun g hg=>?_⟩,H1.next,by omega,H3.next,rfl,hRS⟩
  ·have:=hs5.1; simp; omega
  ·rw [GH.get_put_ne _ _ (by omega),hf7 g (by have:=hs5.1; omega) (by simp),hs5.2 g hg]
end Go.Gm.Tryz
end
section
namespace Go.Gm.Tryz
open Go.Proofs
def UpR (H:GH) (l:BLoc) (b:Book) (day:Int) (x:GO) (H':GH):Prop:=match upS b day with
 | .inr s=>∃N sg O,H.next≤N∧x=.ret (.tuple #[.pointer (some (ga sg 0 0)),vi (-1)])∧RegS H' N l b sg s O∧Wf b s∧Wg b s
 | .inl n=>∃sg,x=.ret (.tuple #[.pointer (some (ga sg 0 0)),vi n])
theorem rup_con {H:GH} {l:BLoc} {b:Book} (hb:BookIn H l b) (hB:isBookB b=true) (hrows:b.tbl.rows.length≤4) (day:Int):
  GCall Tryz.prog 42 [bookV l b,vi day] H fun x H'=>Sub H H'∧UpR H l b day x H':=by
 rcases l with ⟨⟨⟨ra,rf⟩⟩,⟨oa,of'⟩,⟨va',vf'⟩⟩
 have hbo:=book_ok hB
 have hp:=hbo.persons
 have ho:=hbo.owners
 have hv:=hbo.events
 have hsu:=book_supply hB
 refine gcall_wp tok mix fok42 (F:=g42) (c:=_) rfl (n:=52) rfl (rs:= [.tmp 4,.tmp 5]) rfl ?_
 simp
 generalize hH1:H.push _=H1
 have hs1:Sub H H1:=by subst hH1; exact Sub.push (.refl H) _
 have hb1:H1.get H.next=some (.arr { cells:= [.slice ra b.tbl.rows.length rf,vi b.tbl.draw,vi b.supply,vi b.term,vi b.persons,.slice oa b.owners.length of',.slice va' b.events.length vf'],ty:=28 }):=by subst hH1; simp
 have hn1:H1.next=H.next+1:=by subst hH1; simp
 clear hH1
 have hbi:=hb.mono hs1
 refine (rbegin_con hbi hB hrows).mono ?_
 rintro x H2 ⟨hs2,N,sg,O2,hN,rfl,h2⟩
 have hn2:=hs2.1
 have hb2:=(hs2.2 H.next (by omega)).trans hb1
 simp
 refine wp_up tok mix (by kernel_rfl) b.events.length (fun i ρ m H3=>ρ 1=vi day∧ρ 2=.pointer (some (ga H.next 0 0))∧ρ 6=.pointer (some (ga sg 0 0))∧ρ 7=vi i∧m= []∧
  ∃s O3,Frm O2 O3 H2 H3∧RegS H3 N ⟨⟨⟨ra,rf⟩⟩,⟨oa,of'⟩,⟨va',vf'⟩⟩ b sg s O3∧J b (b.events.take i) s∧Wg b s∧upFrom b day (b.events.drop i) i s=upS b day) (i0:=0) (by omega)
  ⟨by simp,by simp,by simp,by simp,by simp,start b,O2,Frm.refl (fun g hg=>(h2.lt g hg).2),h2,J.start hB,Wg.start b,rfl⟩ ?_
 rintro i ρ m H3 hi ⟨e1,e2,e6,e7,rfl,s,O3,f3,h3,hJ3,hG3,hup⟩
 have hw3:=hJ3.wf
 have hkeep:∀ {O4:Nat→Prop} {H4:GH},Frm O2 O4 H2 H4→Sub H H4:=fun {O4 H4} f=>
  ⟨Nat.le_trans hs1.1 (Nat.le_trans hs2.1 f.next),fun g hg=>by rw [f.keep g (by omega) (fun hc=>by have:=(h2.lt g hc).1; omega),hs2.2 g (by omega),hs1.2 g hg]⟩
 have hbk:∀ {O4:Nat→Prop} {H4:GH},Frm O2 O4 H2 H4→H4.get H.next=some (.arr { cells:= [.slice ra b.tbl.rows.length rf,vi b.tbl.draw,vi b.supply,vi b.term,vi b.persons,.slice oa b.owners.length of',.slice va' b.events.length vf'],ty:=28 })∧H.next<H4.next:=fun {O4 H4} f=>
  ⟨(f.keep H.next (by omega) (fun hc=>by have:=(h2.lt _ hc).1; omega)).trans hb2,by have:=f.next; omega⟩
 obtain ⟨hb3,hlt3⟩:=hbk f3
 simp (disch:=omega) [e2,e7,hb3]
 have hend:∀(O4:Nat→Prop) (H4:GH) (t:Stand),Frm O2 O4 H2 H4→RegS H4 N ⟨⟨⟨ra,rf⟩⟩,⟨oa,of'⟩,⟨va',vf'⟩⟩ b sg t O4→Wf b t→Wg b t→Sum.inr t=upS b day→Sub H H4∧UpR H ⟨⟨⟨ra,rf⟩⟩,⟨oa,of'⟩,⟨va',vf'⟩⟩ b day (.ret (.tuple #[.pointer (some (ga sg 0 0)),vi (-1)])) H4:=fun O4 H4 t f4 h4 hw hg ht=>
  ⟨hkeep f4,by unfold UpR; rw [←ht]; exact ⟨N,sg,O4,by omega,rfl,h4,hw,hg⟩⟩
 by_cases hlt:i<b.events.length
 ·have hltI:(i:Int)<b.events.length:=by omega
  obtain ⟨a,ha,hab,hrd⟩:=(hb.mono (hkeep f3)).events.at i hlt
  simp only at ha
  subst ha
  rw [List.drop_eq_getElem_cons hlt,upFrom] at hup
  have hev:=event_ok (s:=pass b s b.events[i].day) hbo.persons (hJ3.pass b.events[i].day).ll (hbo.ev i hlt)
  have hevB:=hbo.ev i hlt
  have hati:=evAt_lt hlt
  obtain ⟨e,hE⟩:∃e,b.events[i]=e:=⟨_,rfl⟩
  rw [hE] at hup hev hrd hevB hati
  simp (disch:=omega) [e1,e2,e7,hb3,hlt,hrd]
  refine wpB_dec (fun hd=>?_) (fun hd=>?_)
  ·rw [if_neg (by omega)] at hup
   simp (disch:=omega) [e2,e6,e7,hb3,hrd]
   refine (rpass_con h3 hw3 hG3 hsu e.day).mono ?_
   rintro x H5 ⟨rfl,O5,f5,h5⟩
   have f25:=f3.trans f5
   obtain ⟨hb5,hlt5⟩:=hbk f25
   have hw5:Wf b (pass b s e.day):=pass_wf hw3
   have hG5:Wg b (pass b s e.day):=hG3.pass e.day
   have hsh5:=pass_sh b s e.day
   obtain ⟨a5,ha5,hab5,hrd5⟩:=(hb.mono (hkeep f25)).events.at i hlt
   simp only at ha5
   cases ha5
   rw [hE] at hrd5
   have h5':=h5
   obtain ⟨v1,v2,vl,vo,vg,va,vw,vb,vd,h5i,_⟩:=h5'
   simp (disch:=omega) [e2,e6,e7,hb5,hrd5]
   refine (rGoes_con h5i hw5 hG5 hsu hev hevB).go ?_
   simp
   cases hgo:goesB b (pass b s e.day) e with
   |false=>
    rw [if_neg (by rw [hgo]; decide)] at hup
    simp [e6,e7]
    exact ⟨hkeep f25,by unfold UpR; rw [←hup]; exact ⟨sg,rfl⟩⟩
   |true=>
    rw [if_pos hgo] at hup
    have hJ5:=hJ3.pass e.day
    have ho5:=hJ5.ow
    have htl:(b.events.take i).length=i:=by simp; omega
    have hJ6:=hJ5.do_ hbo hevB hgo hati hlt (by omega) (by omega)
    have hG6:=hG5.do_ hevB hgo hev.kind hev.grant hati
    have htk:b.events.take (i+1)=b.events.take i++ [e]:=by rw [←hE]; exact List.take_succ_eq_append_getElem hlt
    simp [e6,e7]
    refine (rdo_con h5 hw5 hG5 hsu hlt hE hev hgo hJ6.wf hG6).mono ?_
    rintro x H6 ⟨rfl,O6,f6,h6⟩
    simp (disch:=omega) [e1,e2,e6,e7,wrap64]
    exact ⟨_,O6,f25.trans f6,h6,by rw [htk]; exact hJ6.serve,hG6.serve,hup⟩
  ·rw [if_pos (by omega)] at hup
   simp (disch:=omega) [e1,e6]
   refine (rpass_con h3 hw3 hG3 hsu day).mono ?_
   rintro x H5 ⟨rfl,O5,f5,h5⟩
   simp [e6]
   exact hend O5 H5 _ (f3.trans f5) h5 (pass_wf hw3) (hG3.pass day) hup
 ·have hnI:¬(i:Int)<b.events.length:=by omega
  have:i=b.events.length:=by omega
  subst this
  rw [List.drop_length,upFrom] at hup
  simp (disch:=omega) [e1,e6,hlt]
  refine (rpass_con h3 hw3 hG3 hsu day).mono ?_
  rintro x H5 ⟨rfl,O5,f5,h5⟩
  simp [e6]
  exact hend O5 H5 _ (f3.trans f5) h5 (pass_wf hw3) (hG3.pass day) hup
def rightB (b:Book):Bool:=isBookB b&&(wrongO b).isNone
theorem rWrong_con (l:BLoc) (b:Book) (H:GH) (hb:BookIn H l b) (hB:isBookB b=true) (hrows:b.tbl.rows.length≤4):C 19 [bookV l b] H (vi (match wrongO b with|some n=>n|none=> -1)) H:=by
 rcases l with ⟨⟨⟨ra,rf⟩⟩,⟨oa,of'⟩,⟨va',vf'⟩⟩
 refine con_wp tok mix fok19 (F:=g19) (c:=_) rfl (n:=11) rfl (rs:= [.tmp 2]) rfl (anch_closed rfl) ?_
 simp
 generalize hH1:H.push _=H1
 have hs1:Sub H H1:=by subst hH1; exact Sub.push (.refl H) _
 clear hH1
 refine (rup_con (hb.mono hs1) hB hrows 36500).mono ?_
 rintro x H2 ⟨hs2,hu⟩
 unfold UpR at hu
 unfold wrongO
 cases hU:upS b 36500 with
 |inl n=>
  rw [hU] at hu
  obtain ⟨sg,rfl⟩:=hu
  simp
  exact hs1.trans hs2
 |inr s=>
  rw [hU] at hu
  obtain ⟨N,sg,O,_,rfl,_⟩:=hu
  simp
  exact hs1.trans hs2
theorem rRight_con (l:BLoc) (b:Book) (H:GH) (hb:BookIn H l b) (hsh:shortB b=true):C 5 [bookV l b] H (.bool (rightB b)) H:=by
 have h15:b.tbl.rows.length≤15:=by simp [shortB] at hsh; omega
 rcases l with ⟨⟨⟨ra,rf⟩⟩,⟨oa,of'⟩,⟨va',vf'⟩⟩
 refine con_wp tok mix fok5 (F:=g5) (c:=_) rfl (n:=10) rfl (rs:= [.tmp 2]) rfl (anch_closed rfl) ?_
 simp
 generalize hH1:H.push _=H1
 have hs1:Sub H H1:=by subst hH1; exact Sub.push (.refl H) _
 have hb1:H1.get H.next=some (.arr { cells:= [.slice ra b.tbl.rows.length rf,vi b.tbl.draw,vi b.supply,vi b.term,vi b.persons,.slice oa b.owners.length of',.slice va' b.events.length vf'],ty:=28 }):=by subst hH1; simp
 have hn1:H.next<H1.next:=by subst hH1; simp
 clear hH1
 have hbi:=hb.mono hs1
 with_reducible refine (rBook_con ⟨⟨⟨_,_⟩⟩,⟨_,_⟩,⟨_,_⟩⟩ b _ hbi (by omega)).go ?_
 simp
 cases hB:isBookB b
 ·simp [rightB,hB]
  exact hs1
 ·have hrows:b.tbl.rows.length≤4:=by
   have ht:=book_tbl hB
   simp [shortB,ht] at hsh
   omega
  simp (disch:=omega) [hb1]
  with_reducible refine (rWrong_con ⟨⟨⟨_,_⟩⟩,⟨_,_⟩,⟨_,_⟩⟩ b _ hbi hB hrows).go ?_
  simp
  cases hw:wrongO b with
  |none=>simp [rightB,hB,hw]; exact hs1
  |some n=>
   have:=wrongO_nonneg hw
   have hn:¬n<0:=by omega
   simp [rightB,hB,hw,hn]
   exact hs1
end Go.Gm.Tryz
end
section
namespace Go.Gm.Tryz
open Go.Proofs
theorem rightB_of {b:Book} (h:rightB b=true):isBookB b=true∧wrongO b=none:=by
 simp only [rightB,Bool.and_eq_true,Option.isNone_iff_eq_none] at h
 exact h
end Go.Gm.Tryz
end
section
namespace Go.Gm.Tryz
open Go.Proofs
end Go.Gm.Tryz
end
section
namespace Go.Gm.Tryz
open Go.Proofs
structure Wa (b:Book) (s:Stand):Prop where
 gw:∀g∈s.grants,g.is≠3→0≤waterI b.tbl g.system g.units
 fr:usedI b s≤b.supply
 ww:∀w∈s.waits,0≤waterI b.tbl (evAt b w).system (evAt b w).units
 ln:s.grants.length+s.waits.length≤100
theorem sum_set {f:GSt→Int}:∀ {l:List GSt} {i:Nat} {y:GSt} (h:i<l.length),((l.set i y).map f).sum=(l.map f).sum - f l[i]+f y:=by
 intro l
 induction l with
 |nil=>intro i y h; simp at h
 |cons x l ih=>
  intro i y h
  cases i with
  |zero=>simp; omega
  |succ i=>
   simp only [List.length_cons] at h
   have:=ih (i:=i) (y:=y) (by omega)
   simp only [List.set_cons_succ,List.map_cons,List.sum_cons,List.getElem_cons_succ,this]
   omega
section
variable {b:Book} {s:Stand}
theorem Wa.use (h:Wa b s) {i:Nat} (hi:i<s.grants.length):0≤useG b (gAt s i):=by
 unfold useG
 split
 ·omega
 ·rename_i h3; exact h.gw _ (gAt_mem hi) h3
theorem used_set {s t:Stand} {i:Nat} {y:GSt} (hi:i<s.grants.length) (h:t.grants=s.grants.set i y):usedI b t=usedI b s - useG b (gAt s i)+useG b y:=by
 unfold usedI
 rw [h,sum_set hi,gAt,getD_at hi]
theorem used_app {s t:Stand} {y:GSt} (h:t.grants=s.grants++ [y]):usedI b t=usedI b s+useG b y:=by
 unfold usedI
 rw [h,List.map_append,List.sum_append]
 simp
theorem Wa.add (h:Wa b s) (hs:0≤b.supply∧b.supply≤10000) {p e sy u:Int} (h0:0≤waterI b.tbl sy u) (h1:waterI b.tbl sy u≤freeI b s) {t:Stand} (hg:t.grants=s.grants++ [⟨1,p,e,sy,u⟩]) (hw:∀w∈t.waits,w∈s.waits) (hl:s.grants.length+1+t.waits.length≤100):Wa b t:=by
 have hln:=h.ln
 rw [freeI_eq hs (by omega)] at h1
 refine ⟨fun g hgm h3=>?_,?_,fun w hw'=>h.ww w (hw w hw'),by rw [hg]; simp; omega⟩
 ·rw [hg] at hgm
  rcases List.mem_append.1 hgm with hgm|hgm
  ·exact h.gw g hgm h3
  ·simp at hgm; subst hgm; exact h0
 ·rw [used_app hg]
  simp only [useG]
  rw [if_neg (by decide)]
  omega
theorem Wa.serve1 (hs:0≤b.supply∧b.supply≤10000) (s:Stand) (w:Int) (ws:List Int) (h:Wa b s) (hw:s.waits=w::ws) (hf:waterI b.tbl (evAt b w).system (evAt b w).units≤freeI b s):Wa b { addG s (evAt b w).person (-1) (evAt b w).system (evAt b w).units with waits:=ws }:=by
 have hln:=h.ln
 rw [hw] at hln
 simp only [List.length_cons] at hln
 exact h.add hs (h.ww w (by rw [hw]; simp)) hf rfl (fun v hv=>by rw [hw]; exact List.mem_cons_of_mem _ hv) (by simp only; omega)
theorem Wa.serve (hs:0≤b.supply∧b.supply≤10000) (h:Wa b s):Wa b (serve b s):=serve_ind (I:=Wa b) (fun s w ws h hw hf=>Wa.serve1 hs s w ws h hw hf) h
theorem Wa.set (h:Wa b s) {i:Nat} (hi:i<s.grants.length) {y:GSt} (hy:y.is≠3→0≤waterI b.tbl y.system y.units) (hu:useG b y≤useG b (gAt s i)) {t:Stand} (hg:t.grants=s.grants.set i y) (hw:t.waits=s.waits):Wa b t:=
 ⟨fun g hgm h3=>by
  rw [hg] at hgm
  rcases List.mem_or_eq_of_mem_set hgm with hgm|rfl
  ·exact h.gw g hgm h3
  ·exact hy h3,by have:=h.fr; rw [used_set hi hg]; omega,fun w hw'=>h.ww w (hw▸hw'),by have:=h.ln; rw [hg,hw]; simpa using this⟩
theorem Wa.endG (h:Wa b s) {g:Nat} (hg:g<s.grants.length) (d:Int):Wa b (endG s g d):=
 h.set hg (y:= { gAt s g with is:=3,person:= -1 }) (fun hc=>absurd rfl hc) (by
  have:=h.use hg
  have e:useG b { gAt s g with is:=3,person:= -1 }=0:=by simp [useG]
  omega) rfl rfl
theorem Wa.pass (hs:0≤b.supply∧b.supply≤10000) (h:Wa b s) (d:Int):Wa b (pass b s d):=
 pass_ind (I:=Wa b) (fun s w ws h hw hf=>Wa.serve1 hs s w ws h hw hf) (fun _s _g h hg _ _=>h.endG hg _) h
theorem Wa.map (h:Wa b s) {f:GSt→GSt} (hf:∀g,(f g).is=g.is∧(f g).system=g.system∧(f g).units=g.units) {t:Stand} (ht:t.grants=s.grants.map f) (hw:t.waits=s.waits):Wa b t:=by
 have hu:usedI b t=usedI b s:=by
  unfold usedI
  rw [ht,List.map_map]
  congr 2
  funext g
  simp only [Function.comp,useG,(hf g).1,(hf g).2.1,(hf g).2.2]
 refine ⟨fun g hgm h3=>?_,by rw [hu]; exact h.fr,fun w hw'=>h.ww w (hw▸hw'),by have:=h.ln; rw [ht,hw]; simpa using this⟩
 rw [ht] at hgm
 obtain ⟨x,hx,rfl⟩:=List.mem_map.1 hgm
 rw [(hf x).1] at h3
 rw [(hf x).2.1,(hf x).2.2]
 exact h.gw x hx h3
theorem Wa.own (h:Wa b s) (n:Nat) (p:Int):Wa b (ownS s n p):=
 h.map (f:=fun x=>if x.estate=(n:Int) then { x with person:=p } else x) (fun g=>by split<;>exact ⟨rfl,rfl,rfl⟩) rfl rfl
theorem useG_of {g h:GSt} (h1:(g.is=3)↔(h.is=3)) (h2:g.system=h.system) (h3:g.units=h.units):useG b g=useG b h:=by
 unfold useG
 simp only [h1,h2,h3]
theorem Wa.do_ (hs:0≤b.supply∧b.supply≤10000) (h:Wa b s) (hW:Wg b s) {e:Ev} (hev:EvOk b s e) (he:isEventB b e=true) (hl:s.grants.length+s.waits.length<100) (hes:∀i,i<s.grants.length→(gAt s i).is=1∨(gAt s i).estate= -1) (hg:goesB b s e=true) {n:Nat} (hn:evAt b n=e):Wa b (doS b s e n):=by
 unfold goesB at hg
 unfold doS
 by_cases k1:e.kind=1
 ·rw [if_pos k1] at hg ⊢
  simp only [Bool.and_eq_true,fitsB,decide_eq_true_eq] at hg
  exact h.add hs hg.2.1 hg.2.2.1 rfl (fun w hw=>hw) (by simp only [giveS,addG]; omega)
 rw [if_neg k1] at hg ⊢
 by_cases k2:e.kind=2
 ·rw [if_pos k2] at hg ⊢
  simp only [Bool.and_eq_true,fitsB,decide_eq_true_eq] at hg
  exact h.add hs hg.2.1 hg.2.2.1 rfl (fun w hw=>hw) (by simp only [attachS,addG]; omega)
 rw [if_neg k2] at hg ⊢
 by_cases k3:e.kind=3
 ·rw [if_pos k3]
  exact die_ind (I:=Wa b) (fun s h=>⟨h.gw,h.fr,h.ww,h.ln⟩) (fun s i h _ _=>h.own i e.other) (fun s h=>⟨h.gw,h.fr,fun w hw=>h.ww w (List.mem_filter.1 hw).1,by
    have:=List.length_filter_le (notOf b e) s.waits
    have:=h.ln
    simp only [dieC]; omega⟩)
   (fun s i h hi _ _=>(h.endG hi e.day).serve hs) (fun s i h hi h1 h2 h3=>h.set hi (y:= { gAt s i with is:=2,person:=e.other }) (fun _=>h.gw (gAt s i) (gAt_mem hi) (by omega)) (by
    rw [useG_of (g:= { gAt s i with is:=2,person:=e.other }) (h:=gAt s i) (by simp only; omega) rfl rfl]
    exact Int.le_refl _) rfl rfl) h
 rw [if_neg k3] at hg ⊢
 by_cases k4:e.kind=4
 ·rw [if_pos k4]; exact h.own _ _
 rw [if_neg k4] at hg ⊢
 by_cases k5:e.kind=5
 ·rw [if_pos k5] at hg ⊢
  have hu:=ev_units5 he k5
  simp [divB,partB] at hg
  obtain ⟨g1,g2,g3,g4,g5,g6,g7⟩:=hg
  have hge:=hev.grant
  have hgd:s.grants[e.grant.toNat]?.getD default=gAt s e.grant.toNat:=by simp [gAt]
  rw [hgd] at g2 g3 g5 g6 g7
  have hlt:e.grant.toNat<s.grants.length:=by omega
  have hm:=hW.gr _ (gAt_mem hlt)
  have hwr:IntKind.i64.wrap ((gAt s e.grant.toNat).units - e.units)=(gAt s e.grant.toNat).units - e.units:=wrap64 _ (by omega) (by omega)
  rw [hwr] at g6 g7
  have w1:=waterI_bd b.tbl (gAt s e.grant.toNat).system e.units
  have w2:=waterI_bd b.tbl (gAt s e.grant.toNat).system ((gAt s e.grant.toNat).units - e.units)
  have w3:=waterI_bd b.tbl (gAt s e.grant.toNat).system (gAt s e.grant.toNat).units
  have q1:IntKind.i64.wrap (waterI b.tbl (gAt s e.grant.toNat).system e.units+waterI b.tbl (gAt s e.grant.toNat).system ((gAt s e.grant.toNat).units - e.units))=waterI b.tbl (gAt s e.grant.toNat).system e.units+waterI b.tbl (gAt s e.grant.toNat).system ((gAt s e.grant.toNat).units - e.units):=wrap64 _ (by omega) (by omega)
  rw [q1] at g7
  have q2:IntKind.i64.wrap (waterI b.tbl (gAt s e.grant.toNat).system e.units+waterI b.tbl (gAt s e.grant.toNat).system ((gAt s e.grant.toNat).units - e.units) - waterI b.tbl (gAt s e.grant.toNat).system (gAt s e.grant.toNat).units)=waterI b.tbl (gAt s e.grant.toNat).system e.units+waterI b.tbl (gAt s e.grant.toNat).system ((gAt s e.grant.toNat).units - e.units) - waterI b.tbl (gAt s e.grant.toNat).system (gAt s e.grant.toNat).units:=wrap64 _ (by omega) (by omega)
  rw [q2] at g7
  have hln:=h.ln
  rw [freeI_eq hs (by omega)] at g7
  have hsu:=used_set (b:=b) (s:=s) (t:= { s with owners:=s.owners++ [e.person],grants:=s.grants.set e.grant.toNat { gAt s e.grant.toNat with units:=IntKind.i64.wrap ((gAt s e.grant.toNat).units - e.units) } }) hlt rfl
  have hds:(divideS s e).grants=s.grants.set e.grant.toNat { gAt s e.grant.toNat with units:=IntKind.i64.wrap ((gAt s e.grant.toNat).units - e.units) }++ [⟨1,e.person,s.owners.length,(gAt s e.grant.toNat).system,e.units⟩]:=rfl
  refine ⟨fun g hgm h3=>?_,?_,h.ww,by rw [hds]; simp [divideS,addG]; omega⟩
  ·rw [hds] at hgm
   rcases List.mem_append.1 hgm with hgm|hgm
   ·rcases List.mem_or_eq_of_mem_set hgm with hgm|rfl
    ·exact h.gw g hgm h3
    ·simp only [hwr]; exact g6
   ·simp at hgm; subst hgm; exact g5
  ·have hap:=used_app (b:=b) (s:= { s with owners:=s.owners++ [e.person],grants:=s.grants.set e.grant.toNat { gAt s e.grant.toNat with units:=IntKind.i64.wrap ((gAt s e.grant.toNat).units - e.units) } }) (t:=divideS s e) hds
   rw [hap,hsu]
   have hus:=h.use hlt
   have e3:useG b (⟨1,e.person,s.owners.length,(gAt s e.grant.toNat).system,e.units⟩:GSt)=waterI b.tbl (gAt s e.grant.toNat).system e.units:=by simp [useG]
   rw [e3]
   have hfr:=h.fr
   have his:(gAt s e.grant.toNat).is=1:=by have:=hes _ hlt; omega
   have e4:useG b (gAt s e.grant.toNat)=waterI b.tbl (gAt s e.grant.toNat).system (gAt s e.grant.toNat).units:=by unfold useG; rw [if_neg (by omega)]
   have e5:useG b { gAt s e.grant.toNat with units:=IntKind.i64.wrap ((gAt s e.grant.toNat).units - e.units) }=waterI b.tbl (gAt s e.grant.toNat).system ((gAt s e.grant.toNat).units - e.units):=by
    unfold useG; simp only; rw [if_neg (by omega),hwr]
   rw [e4,e5]
   omega
 rw [if_neg k5] at hg ⊢
 by_cases k6:e.kind=6
 ·rw [if_pos k6]; exact h.map (f:=joinF e) (fun g=>by unfold joinF; split<;>exact ⟨rfl,rfl,rfl⟩) rfl rfl
 rw [if_neg k6] at hg ⊢
 by_cases k7:e.kind=7
 ·rw [if_pos k7] at hg ⊢
  simp only [Bool.and_eq_true,decide_eq_true_eq] at hg
  have hge:=hev.grant
  have hlt:e.grant.toNat<s.grants.length:=by omega
  have h2:(gAt s e.grant.toNat).is=2:=hg.2.1
  exact h.set hlt (y:= { gAt s e.grant.toNat with is:=1 }) (fun _=>h.gw (gAt s e.grant.toNat) (gAt_mem hlt) (by omega)) (by
   rw [useG_of (g:= { gAt s e.grant.toNat with is:=1 }) (h:=gAt s e.grant.toNat) (by simp only; omega) rfl rfl]
   exact Int.le_refl _) rfl rfl
 rw [if_neg k7] at hg ⊢
 simp only [Bool.and_eq_true,decide_eq_true_eq] at hg
 refine ⟨h.gw,h.fr,fun w hw=>?_,by simp [askS]; omega⟩
 simp only [askS,List.mem_append,List.mem_singleton] at hw
 rcases hw with hw|rfl
 ·exact h.ww w hw
 ·rw [hn]; exact hg.2
end
def Srv (b:Book) (s:Stand):Prop:=∀w ws,s.waits=w::ws→freeI b s<waterI b.tbl (evAt b w).system (evAt b w).units
theorem serve_done (b:Book) (s:Stand):Srv b (serve b s):=by
 have:∀(n:Nat) (s:Stand),s.waits.length≤n→Srv b (serveS b n s):=by
  intro n
  induction n with
  |zero=>
   intro s hn w ws hw
   have h0:s.waits=w::ws:=hw
   rw [h0] at hn
   simp at hn
  |succ n ih=>
   intro s hn
   simp only [serveS]
   cases hw:s.waits with
   |nil=>
    intro w ws h
    simp only at h
    rw [hw] at h; cases h
   |cons w ws=>
    simp only
    split
    ·rename_i hf
     intro v vs h
     rw [hw] at h; cases h
     exact hf
    ·rw [hw] at hn
     simp only [List.length_cons] at hn
     exact ih _ (by simp only; omega)
 exact this _ s (Nat.le_refl _)
theorem Srv.pass {b:Book} {s:Stand} (h:Srv b s) (d:Int):Srv b (pass b s d):=by
 have:∀(n:Nat) (s:Stand),Srv b s→Srv b (passS b d n s):=by
  intro n
  induction n with
  |zero=>intro s h; exact h
  |succ n ih=>
   intro s h
   simp only [passS]
   split
   ·exact h
   ·exact ih _ (serve_done b _)
 exact this _ s h
theorem Wa.start {b:Book} (hs:0≤b.supply∧b.supply≤10000):Wa b (start b):=⟨fun g hg=>by simp [Tryz.start] at hg,by simp [usedI,Tryz.start]; omega,fun w hw=>by simp [Tryz.start] at hw,by simp [Tryz.start]⟩
theorem Wa_up {b:Book} (hB:isBookB b=true) {d:Int} {u:Stand} (h:upS b d=.inr u):∃n,Cut b d n∧J b (b.events.take n) u∧Fd b (b.events.take n) u∧Wa b u∧Srv b u:=by
 have hs:=book_supply hB
 have h12:=(book_ok hB).events
 obtain ⟨n,t,h1,h2,⟨h3,h4,h5,h6⟩,rfl⟩:=upJ_ind hB (I:=fun done s=>Fd b done s∧Wg b s∧Wa b s∧Srv b s) (I':=fun done s=>Fd b done s∧Wg b s∧Wa b s) ⟨Fd.start b,Wg.start b,Wa.start hs,fun w ws h=>by simp [start] at h⟩ (fun _ _ d _ _ h=>⟨h.1.pass d,h.2.1.pass d,h.2.2.1.pass hs d,h.2.2.2.pass d⟩)
  (fun _ s h=>⟨h.1.serve,h.2.1.serve,h.2.2.serve hs,serve_done b s⟩)
  (fun n hn s _ hJ ⟨hF,hG,hA,_⟩ hev he hg hn'=>by
   have hlen:(b.events.take n).length=n:=by simp; omega
   have hsz:=hJ.sz
   unfold size at hsz
   exact ⟨hF.do_ hev (day_ev hB (List.getElem_mem hn)) (book_term hB) hg hn',hG.do_ he hg hev.kind hev.grant hn',hA.do_ hs hG hev he (by omega) (fun i hi=>(hF.es i hi).2) hg hn'⟩) h
 exact ⟨n,h1,h2.pass d,h3.pass d,h5.pass hs d,h6.pass d⟩
end Go.Gm.Tryz
end
section
namespace Go.Gm.Tryz
open Go.Proofs
structure Fe (b:Book) (d:Int) (s:Stand):Prop where
 cnt:∀i:Nat,(s.fell.map Prod.fst).count (i:Int)=if i<s.grants.length∧(gAt s i).is=3 then 1 else 0
 rng:∀p∈s.fell,0≤p.1∧0≤p.2∧p.2≤d
section
variable {b:Book} {s:Stand} {d:Int} {done:List Ev}
def Lo (m:Int) (s:Stand):Prop:=∀i,i<s.grants.length→(gAt s i).is=2→m≤lastAt s i
end
structure Kp (u:List (Int×Int)) (m:Int) (s:Stand):Prop where
 ln:s.last.length=s.grants.length
 lo:Lo m s
 fe:∃more,s.fell=u++more∧∀p∈more,m<p.2
section
variable {b:Book} {s:Stand} {u:List (Int×Int)} {m:Int}
end
end Go.Gm.Tryz
end
section
namespace Go.Gm.Tryz
open Go.Proofs
end Go.Gm.Tryz
end
section
namespace Go.Gm
end Go.Gm
namespace Go.Gm.Tryz
open Go.Proofs
end Go.Gm.Tryz
end
section
namespace Go.Gm.Tryz
open Go.Proofs
def diedTo (b:Book) (p d:Int) (i:Nat):Bool:=(b.events.take i).any fun e=>decide (e.kind=3∧e.day≤d∧e.person=p)
end Go.Gm.Tryz
end
section
namespace Go.Gm.Tryz
open Go.Proofs
def anyTo (f:Ev→Bool) (l:List Ev) (i:Nat):Bool:=(l.take i).any f
end Go.Gm.Tryz
end
section
namespace Go.Gm.Tryz
open Go.Proofs
theorem water_some {t:Tbl} {sys u:Int} (h:0≤waterI t sys u):isTableB t=true∧setArgs t sys u=true∧∃l,firstSet t sys u=some l∧isSetB t l=true∧givesI t l=waterI t sys u:=by
 unfold waterI at h ⊢
 by_cases ha:setArgs t sys u=true
 ·rw [if_pos ha] at h ⊢
  have ht:isTableB t=true:=by simp only [setArgs,Bool.and_eq_true] at ha; exact ha.1.1
  cases hf:firstSet t sys u with
  |none=>rw [hf] at h; simp at h
  |some l=>exact ⟨ht,ha,l,rfl,allSets_set (by have:=(table_rows ht).1; omega) (firstSet_mem hf).1,rfl⟩
 ·rw [if_neg ha] at h
  omega
def usedTo (b:Book) (l:List GSt) (i:Nat):Int:=((l.take i).map (useG b)).sum
end Go.Gm.Tryz
end
section
namespace Go.Gm.Tryz
open Go.Proofs
end Go.Gm.Tryz
end
section
namespace Go.Gm.Tryz
open Go.Proofs
theorem sorted_pair {l:List Int} (h:sortedB l=true):l.Pairwise (· ≤ ·):=by
 unfold sortedB at h
 rw [List.all_eq_true] at h
 have adj:∀j,j+1<l.length→l.getD j 0≤l.getD (j+1) 0:=fun j hj=>by
  have:=h j (List.mem_range.2 (by omega))
  simpa using this
 have far:∀d i,i+d<l.length→l.getD i 0≤l.getD (i+d) 0:=by
  intro d
  induction d with
  |zero=>intro i _; exact Int.le_refl _
  |succ d ih=>intro i hi; exact Int.le_trans (ih i (by omega)) (adj (i+d) (by omega))
 rw [List.pairwise_iff_getElem]
 intro i j hi hj hij
 have:=far (j - i) i (by omega)
 rw [show i+(j - i)=j by omega,getD_at hi,getD_at hj] at this
 exact this
theorem setsFrom_intro {m:Nat}:∀ {ext now:List Int},(∀x∈ext,0≤x∧x<m)→(now.getLast?.getD 0::ext).Pairwise (· ≤ ·)→now++ext∈setsFrom m ext.length now:=by
 intro ext
 induction ext with
 |nil=>intro now _ _; simp [setsFrom]
 |cons x xs ih=>
  intro now h hp
  have hx:=h x (List.mem_cons_self ..)
  rw [List.pairwise_cons] at hp
  have h1:=hp.1 x (List.mem_cons_self ..)
  simp only [List.length_cons,setsFrom,List.mem_flatMap]
  refine ⟨x.toNat,List.mem_range'_1.2 ⟨?_,?_⟩,?_⟩
  ·unfold fromOf; omega
  ·unfold fromOf; omega
  ·rw [Int.toNat_of_nonneg hx.1]
   have:=ih (now:=now++ [x]) (fun y hy=>h y (List.mem_cons_of_mem _ hy)) (by simpa using hp.2)
   simpa using this
end Go.Gm.Tryz
end
section
namespace Go.Gm.Tryz
open Go.Proofs
def FairP (t:Tbl):Prop:=∀x∈allSets t.rows.length,∀y∈allSets t.rows.length,∀sys:Int,isSystemI sys=true→countsI t sys x=countsI t sys y→givesI t x=givesI t y
def ins (x:Int):List Int→List Int
 | []=> [x]
 |y::l=>if x≤y then x::y::l else y::ins x l
def merge (a b:List Int):List Int:=a.foldr ins b
theorem ins_mem {x z:Int}:∀ {l:List Int},z∈ins x l↔z=x∨z∈l:=by
 intro l
 induction l with
 |nil=>simp [ins]
 |cons y l ih=>
  unfold ins
  split
  ·simp
  ·simp only [List.mem_cons,ih]
   constructor
   ·rintro (h|h|h)<;>simp [h]
   ·rintro (h|h|h)<;>simp [h]
theorem ins_len (x:Int):∀l:List Int,(ins x l).length=l.length+1:=by
 intro l
 induction l with
 |nil=>rfl
 |cons y l ih=>
  unfold ins
  split<;>simp [ih]
theorem ins_sum (f:Int→Int) (x:Int):∀l:List Int,((ins x l).map f).sum=f x+(l.map f).sum:=by
 intro l
 induction l with
 |nil=>simp [ins]
 |cons y l ih=>
  unfold ins
  split
  ·simp
  ·simp only [List.map_cons,List.sum_cons,ih]; omega
theorem ins_sorted {x:Int}:∀ {l:List Int},l.Pairwise (· ≤ ·)→(ins x l).Pairwise (· ≤ ·):=by
 intro l
 induction l with
 |nil=>intro _; simp [ins]
 |cons y l ih=>
  intro h
  rw [List.pairwise_cons] at h
  unfold ins
  split
  ·rename_i hxy
   rw [List.pairwise_cons,List.pairwise_cons]
   refine ⟨fun z hz=>?_,h⟩
   rcases List.mem_cons.1 hz with rfl|hz
   ·exact hxy
   ·have:=h.1 z hz; omega
  ·rename_i hxy
   rw [List.pairwise_cons]
   refine ⟨fun z hz=>?_,ih h.2⟩
   rcases ins_mem.1 hz with rfl|hz
   ·omega
   ·exact h.1 z hz
theorem merge_ok:∀ {a b:List Int},b.Pairwise (· ≤ ·)→(merge a b).Pairwise (· ≤ ·)∧(merge a b).length=a.length+b.length∧(∀z,z∈merge a b↔z∈a∨z∈b)∧∀f:Int→Int,((merge a b).map f).sum=(a.map f).sum+(b.map f).sum:=by
 intro a
 induction a with
 |nil=>intro b h; simp [merge]; exact h
 |cons x a ih=>
  intro b h
  obtain ⟨h1,h2,h3,h4⟩:=ih h
  have e:merge (x::a) b=ins x (merge a b):=rfl
  rw [e]
  refine ⟨ins_sorted h1,by rw [ins_len,h2]; simp; omega,fun z=>?_,fun f=>?_⟩
  ·rw [ins_mem,h3,List.mem_cons,or_assoc]
  ·rw [ins_sum,h4]; simp; omega
theorem sorted_in {m:Nat} {l:List Int} (hl:l.length≤6) (hx:∀x∈l,0≤x∧x<m) (hs:l.Pairwise (· ≤ ·)):l∈allSets m:=by
 unfold allSets
 rw [List.mem_flatMap]
 refine ⟨l.length,List.mem_range.2 (by omega),?_⟩
 have:=setsFrom_intro (m:=m) (ext:=l) (now:= []) hx (List.pairwise_cons.2 ⟨fun x h=>(hx x h).1,hs⟩)
 simpa using this
theorem set_sorted {t:Tbl} (ht:t.rows.length≤1000) {s:List Int} (h:s∈allSets t.rows.length):s.Pairwise (· ≤ ·):=by
 have:=allSets_set ht h
 simp only [isSetB,Bool.and_eq_true] at this
 exact sorted_pair this.1.2
theorem fair_parts {t:Tbl} (ht:isTableB t=true) (hF:FairP t) {sys:Int} (hsys:isSystemI sys=true) {all one:Int} {a b c:List Int} (ha:firstSet t sys one=some a) (hb:firstSet t sys (all - one)=some b) (hc:firstSet t sys all=some c) (h6:a.length+b.length≤6):
  givesI t a+givesI t b=givesI t c:=by
 have hr:=(table_rows ht).1
 obtain ⟨a1,a2⟩:=firstSet_mem ha
 obtain ⟨b1,b2⟩:=firstSet_mem hb
 obtain ⟨c1,c2⟩:=firstSet_mem hc
 obtain ⟨m1,m2,m3,m4⟩:=merge_ok (a:=a) (set_sorted (by omega) b1)
 have hm:merge a b∈allSets t.rows.length:=sorted_in (by omega) (fun x hx=>by
  rcases (m3 x).1 hx with h|h
  ·exact (allSets_mem a1).2 x h
  ·exact (allSets_mem b1).2 x h) m1
 have e1:countsI t sys (merge a b)=countsI t sys c:=by
  have:=m4 fun n=>unitI (rowAt t n) sys
  unfold countsI at*
  omega
 have e2:=hF _ hm _ c1 sys hsys e1
 have:=m4 fun n=>(rowAt t n).gives
 unfold givesI at*
 omega
def divEv (day number units person:Int):Ev:=⟨5,day,person,0,0,number,0,units⟩
def plusEv (b:Book) (e:Ev):Book:= { b with events:=b.events++ [e] }
theorem plus_agr (b:Book) (e:Ev):Agr b.events.length b (plusEv b e):=by
 refine ⟨rfl,rfl,rfl,rfl,rfl,fun n hn=>?_⟩
 unfold evAt plusEv
 simp only [List.getD_eq_getElem?_getD]
 rw [List.getElem?_append_left hn]
theorem plus_days {b:Book} {e:Ev} (hC:isBookB (plusEv b e)=true):∀x∈b.events,x.day≤e.day:=by
 intro x hx
 obtain ⟨i,hi,rfl⟩:=List.mem_iff_getElem.1 hx
 have:=day_mono hC (i:=i) (b.events.length - i) (by simp [plusEv]; omega)
 have e1:(plusEv b e).events[i]'(by simp [plusEv]; omega)=b.events[i]:=by simp [plusEv,hi]
 have e2:(plusEv b e).events[i+(b.events.length - i)]'(by simp [plusEv]; omega)=e:=by
  simp only [plusEv]
  rw [List.getElem_append_right (by omega)]
  simp
 rw [e1,e2] at this
 exact this
theorem start_ltw (b:Book) (N:Nat):LtW N (start b):=fun w hw=>by simp [start] at hw
theorem plus_up {b:Book} {e:Ev} (hk:e.kind=5) (hB:isBookB b=true) (hwb:wrongO b=none) (hC:isBookB (plusEv b e)=true) (hwc:wrongO (plusEv b e)=none):
  ∃s,upS b e.day=.inr s∧(∃t,s=pass b t e.day)∧goesB b s e=true∧upS (plusEv b e) e.day=.inr (pass (plusEv b e) (serve (plusEv b e) (divideS s e)) e.day)∧LtW b.events.length s:=by
 have hA:=plus_agr b e
 obtain ⟨t,ht⟩:=wrong_none hB hwb
 obtain ⟨u,hu⟩:=wrong_none hC hwc
 obtain ⟨r1,r2⟩:=runS_agr hA (es:=b.events) (n:=0) (start_ltw b _) (by omega)
 have hlt:=r2 t ht
 have hst:start (plusEv b e)=start b:=rfl
 have hev:(plusEv b e).events=b.events++ [e]:=rfl
 rw [hev,hst,runS_append,←r1,ht] at hu
 simp only [runS] at hu
 obtain ⟨p1,p2⟩:=pass_agr hA hlt e.day
 rw [←p1,←goesB_agr hA] at hu
 have hd:=plus_days hC
 cases hg:goesB b (pass b t e.day) e with
 |false=>rw [hg] at hu; simp at hu
 |true=>
  refine ⟨pass b t e.day,?_,⟨t,rfl⟩,hg,?_,p2⟩
  ·unfold upS
   rw [upFrom_run hd,ht]
  ·unfold upS
   rw [hev,hst,upFrom_append hd,←r1,ht]
   simp only [upFrom]
   rw [if_neg (by omega),←p1,←goesB_agr hA,hg]
   simp only [if_true,Nat.zero_add]
   have:doS (plusEv b e) (pass b t e.day) e b.events.length=divideS (pass b t e.day) e:=by simp [doS,hk]
   rw [this]
theorem serve_idle {b:Book} {s:Stand} (h:Srv b s):serve b s=s:=by
 unfold serve
 cases hw:s.waits with
 |nil=>rfl
 |cons w ws=>
  simp only [List.length_cons,serveS,hw]
  rw [if_pos (h w ws hw)]
theorem sum_setG {f:GSt→Int}:∀ {l:List GSt} {g:Nat} (hg:g<l.length) (y:GSt),((l.set g y).map f).sum=(l.map f).sum - f l[g]+f y:=by
 intro l
 induction l with
 |nil=>intro g hg; simp at hg
 |cons x l ih=>
  intro g hg y
  cases g with
  |zero=>simp; omega
  |succ g=>
   have:=ih (g:=g) (by simpa using hg) y
   simp only [List.set_cons_succ,List.map_cons,List.sum_cons,List.getElem_cons_succ,this]
   omega
theorem water_first {t:Tbl} {sys u:Int} (h:0≤waterI t sys u):∃l,firstSet t sys u=some l∧givesI t l=waterI t sys u:=by
 obtain ⟨_,_,l,h1,_,h2⟩:=water_some h
 exact ⟨l,h1,h2⟩
theorem divide_plain {b:Book} {day number units person:Int} (hB:isBookB b=true) (hwb:wrongO b=none) (hC:isBookB (plusEv b (divEv day number units person))=true) (hwc:wrongO (plusEv b (divEv day number units person))=none) (hn0:0≤number) (hu0:1≤units):
  ∃s u,upS b day=.inr s∧upS (plusEv b (divEv day number units person)) day=.inr u∧∃hn:number.toNat<s.grants.length,units<s.grants[number.toNat].units∧s.grants[number.toNat].is≠3∧isSystemI s.grants[number.toNat].system=true∧s.grants[number.toNat].units≤360∧
   ∃a c,firstSet b.tbl s.grants[number.toNat].system units=some a∧firstSet b.tbl s.grants[number.toNat].system (s.grants[number.toNat].units - units)=some c∧
    (FairP b.tbl→a.length+c.length≤6→usedI b u=usedI b s∧freeI b u=freeI b s∧u.waits=s.waits):=by
 obtain ⟨s,hs,⟨t,hst⟩,hg,hu,hlt⟩:=plus_up (e:=divEv day number units person) rfl hB hwb hC hwc
 have hdd:(divEv day number units person).day=day:=rfl
 rw [hdd] at hs hst hu
 obtain ⟨m,_,hJ,_,hW,hV⟩:=Wa_up hB hs
 have hWg:=Wg_up hB hs
 have hlen:=hJ.wf.len
 have hsu:=book_supply hB
 have hdiv:divB b s (divEv day number units person)=true:=by simpa [goesB,divEv] using hg
 have hdiv:(decide (number<s.grants.length)&&(decide (0≤(s.grants.getD number.toNat default).estate)&&(decide (units<(s.grants.getD number.toNat default).units)&&(s.lives.getD person.toNat false&&
  partB b s (s.grants.getD number.toNat default).system (s.grants.getD number.toNat default).units units))))=true:=hdiv
 simp only [partB,Bool.and_eq_true,decide_eq_true_eq] at hdiv
 obtain ⟨d1,d2,d3,d4,d5,d6,d7⟩:=hdiv
 have hn:number.toNat<s.grants.length:=by omega
 rw [getD_at hn] at d2 d3 d5 d6 d7
 have hgm:=List.getElem_mem hn
 obtain ⟨w1,w2,w3⟩:=hWg.gr _ hgm
 have his:s.grants[number.toNat].is=1:=by
  rcases hJ.jx.gr _ hgm with ⟨_,_,h⟩|⟨_,_,h⟩|⟨_,h,_⟩|⟨h,_⟩
  ·omega
  ·omega
  ·omega
  ·exact h
 have hwr:IntKind.i64.wrap (s.grants[number.toNat].units - units)=s.grants[number.toNat].units - units:=wrap64 _ (by omega) (by omega)
 rw [hwr] at d6 d7
 obtain ⟨a,a1,a2⟩:=water_first d5
 obtain ⟨c,c1,c2⟩:=water_first d6
 refine ⟨s,_,hs,hu,hn,d3,by omega,w1,w3,a,c,a1,c1,fun hF h6=>?_⟩
 have htb:isTableB b.tbl=true:=by unfold isBookB at hB; simp only [Bool.and_eq_true] at hB; exact hB.1.1.1.1.1.1.1
 have hw0:=hW.gw _ hgm (by omega)
 obtain ⟨e,e1,e2⟩:=water_first hw0
 have hpart:=fair_parts htb hF w1 a1 c1 e1 h6
 rw [a2,c2,e2] at hpart
 have hx:divideS s (divEv day number units person)= { s with owners:=s.owners++ [person],grants:=s.grants.set number.toNat { s.grants[number.toNat] with units:=s.grants[number.toNat].units - units }++ [⟨1,person,s.owners.length,s.grants[number.toNat].system,units⟩],last:=s.last++ [0] }:=by
  simp only [divideS,addG,divEv,getD_at hn,hwr]
 rw [hx]
 generalize hu2:({ s with owners:=s.owners++ [person],grants:=s.grants.set number.toNat { s.grants[number.toNat] with units:=s.grants[number.toNat].units - units }++ [⟨1,person,s.owners.length,s.grants[number.toNat].system,units⟩],last:=s.last++ [0] }:Stand)=u
 have hug:u.grants=s.grants.set number.toNat { s.grants[number.toNat] with units:=s.grants[number.toNat].units - units }++ [⟨1,person,s.owners.length,s.grants[number.toNat].system,units⟩]:=by rw [←hu2]
 have huw:u.waits=s.waits:=by rw [←hu2]
 have hul:u.last=s.last++ [0]:=by rw [←hu2]
 have hused:usedI b u=usedI b s:=by
  unfold usedI
  rw [hug,List.map_append,List.sum_append,sum_setG hn]
  simp only [List.map_cons,List.map_nil,List.sum_cons,List.sum_nil,useG,his]
  simp
  omega
 have hul2:u.grants.length=s.grants.length+1:=by rw [hug]; simp
 have hfree:freeI b u=freeI b s:=by rw [freeI_eq hsu (by omega),freeI_eq hsu (by omega),hused]
 have hfc:freeI (plusEv b (divEv day number units person)) u=freeI b u:=rfl
 have hsrv:Srv (plusEv b (divEv day number units person)) u:=by
  intro w ws hw
  rw [huw] at hw
  rw [hfc,hfree]
  have hwm:w.toNat<b.events.length:=hlt w (by rw [hw]; simp)
  rw [←(plus_agr b (divEv day number units person)).ev w hwm]
  exact hV w ws hw
 rw [serve_idle hsrv]
 have hfin:findAt u day<0:=by
  rcases findAt_spec u day with ⟨h,_⟩|⟨j,_,hj,hE,_⟩
  ·exact h
  ·exfalso
   have hdone:=pass_done b day _ t rfl
   rw [←hst] at hdone
   rcases findAt_spec s day with ⟨_,h⟩|⟨k,hk,_⟩
   ·by_cases hjl:j<s.grants.length
    ·refine h j hjl ⟨?_,?_⟩
     ·have h1:=hE.1
      unfold gAt at h1 ⊢
      rw [getD_at hj] at h1
      rw [getD_at hjl]
      have:u.grants[j].is=s.grants[j].is:=by
       simp only [hug]
       rw [List.getElem_append_left (by simpa using hjl),List.getElem_set]
       split
       ·rename_i h; subst h; rfl
       ·rfl
      rw [←this]; exact h1
     ·have h2:=hE.2
      unfold lastAt at h2 ⊢
      have hll:=hJ.wf.last
      rw [hul,List.getD_eq_getElem?_getD,List.getElem?_append_left (by simp; omega)] at h2
      rw [List.getD_eq_getElem?_getD]
      exact h2
    ·have h1:=hE.1
     unfold gAt at h1
     rw [getD_at hj] at h1
     have:u.grants[j].is=1:=by
      simp only [hug]
      rw [List.getElem_append_right (by simp; omega)]
      simp
     omega
   ·omega
 rw [pass_unfold,if_pos hfin]
 exact ⟨hused,hfree,huw⟩
end Go.Gm.Tryz
end
section
namespace Go.Gm.Tryz
open Go.Proofs
theorem fair1_con (mask:Int) (L:List NzS) (hl:L.length≤100000) (hL:∀x∈L,NzOk mask x) (a:Option Addr) (fl:Nat) (H:GH) (hE:Elems H a 4 encNz L) (g2 g3:Nat)
  (k2:H.get g2=some (.arr { cells:= [.slice a L.length fl],ty:=95 })) (k3:H.get g3=some (.arr { cells:= [vi mask],ty:=3 })):
  GCall Tryz.prog 71 [.pointer (some (ga g2 0 0)),.pointer (some (ga g3 0 0))] H fun x H'=>Sub H H'∧((x=.ret (.tuple #[])∧FairL L)∨∃n,x=.pan (.iface 160 (.agg #[vi n]))):=by
 refine gcall_wp tok mix fok71 (F:=g71) (c:=_) rfl (n:=5) rfl (rs:= []) rfl ?_
 simp [k2,k3]
 refine (weigh_con mask L hl hL a fl H hE).mono ?_
 rintro x H' ⟨hs,⟨rfl,hF⟩|⟨n,rfl⟩⟩
 ·simp
  exact ⟨hs,hF⟩
 ·simp
  exact hs
theorem isFair_con (mask:Int) (L:List NzS) (hl:L.length≤100000) (hL:∀x∈L,NzOk mask x) (a:Option Addr) (fl:Nat) (H:GH) (hE:Elems H a 4 encNz L):
  GCall Tryz.prog 36 [.slice a L.length fl,vi mask] H fun x H'=>Sub H H'∧∃fb,x=.ret (.bool fb)∧(fb=true→FairL L):=by
 refine gcall_wp tok mix fok36 (F:=g36) (c:=_) rfl (n:=8) rfl (rs:= [.tmp 4]) rfl ?_
 simp
 generalize hH1:GH.push (GH.push H _) _=H1
 have hs1:Sub H H1:=by subst hH1; exact (Sub.push (.refl H) _).push _
 have k2:H1.get H.next=some (.arr { cells:= [.slice a L.length fl],ty:=95 }):=by subst hH1; simp
 have k3:H1.get (H.next+1)=some (.arr { cells:= [vi mask],ty:=3 }):=by subst hH1; simp
 have hn1:H1.next=H.next+2:=by subst hH1; simp
 clear hH1
 refine try_con (f:=71) (first:= #[]) (cap:= #[.pointer (some (ga H.next 0 0)),.pointer (some (ga (H.next+1) 0 0))]) ?_
 refine (fair1_con mask L hl hL a fl _ ((hE.mono hs1).push _) H.next (H.next+1) (by rw [GH.get_push_lt _ _ (by omega)]; exact k2) (by rw [GH.get_push_lt _ _ (by omega)]; exact k3)).mono ?_
 rintro x H2 ⟨hs2,hx⟩
 have hn2:=hs2.1
 simp only [GH.next_push] at hn2
 have kb:H2.get H1.next=some box31:=by rw [hs2.2 _ (by simp)]; simp
 refine ⟨hn2,kb,?_⟩
 have hsub:∀g,g<H.next→H2.get g=H.get g:=fun g hg=>by rw [hs2.2 g (by simp; omega),GH.get_push_lt _ _ (by omega),hs1.2 g hg]
 rcases hx with ⟨rfl,hF⟩|⟨n,rfl⟩
 ·simp
  exact ⟨⟨by simp; omega,fun g hg=>by rw [GH.get_put_ne _ _ (by omega),hsub g hg]⟩,hF⟩
 ·refine ⟨n,rfl,fun H3 h1 h2=>?_⟩
  simp
  exact ⟨by omega,fun g hg=>by rw [h2 g (by omega) (by omega),hsub g hg]⟩
theorem Fair_con (l:TLoc) (t:Tbl) (h4:t.rows.length≤4) (H:GH) (hT:TblIn H l t):
  GCall Tryz.prog 15 [tblV l t] H fun x H'=>Sub H H'∧∃fb,x=.ret (.tuple #[.bool fb,vi (if isTableB t then 0 else 2)])∧(isTableB t=true→fb=true→FairP t):=by
 rcases l with ⟨⟨ra,rf⟩⟩
 refine gcall_wp tok mix fok15 (F:=g15) (c:=_) rfl (n:=15) rfl (rs:= [.tmp 2,.tmp 3]) rfl ?_
 simp
 generalize hH1:GH.push H _=H1
 have hs1:Sub H H1:=by subst hH1; exact Sub.push (.refl H) _
 have k1:H1.get H.next=some (.arr { cells:= [.slice ra t.rows.length rf,vi t.draw],ty:=24 }):=by subst hH1; simp
 have hn1:H1.next=H.next+1:=by subst hH1; simp
 clear hH1
 have hT1:TblIn H1 ⟨⟨ra,rf⟩⟩ t:=hT.mono hs1
 refine (isTable_con ⟨⟨ra,rf⟩⟩ t _ hT1).go ?_
 simp
 cases htb:isTableB t
 ·simp
  exact hs1
 have hr:=table_rows htb
 have g1:=g_shl t.rows.length (by omega)
 have hp:(2:Nat)^t.rows.length≤16:=Nat.pow_le_pow_right (by decide) h4
 have hp1:1≤(2:Nat)^t.rows.length:=Nat.one_le_two_pow
 simp (disch:=omega) [k1,g1]
 have hmk:IntKind.i64.wrap ((2:Int)^t.rows.length - 1)=((2^t.rows.length - 1:Nat):Int):=by
  have e:((2^t.rows.length:Nat):Int)=(2:Int)^t.rows.length:=by simp
  rw [←e,wrap64 _ (by omega) (by omega)]
  omega
 rw [hmk]
 refine (all_con ⟨⟨ra,rf⟩⟩ t htb h4 H1 hT1).mono ?_
 rintro x H2 ⟨hs2,v,rfl,hown⟩
 have k2:=(hs2.2 _ (by omega)).trans k1
 obtain ⟨va,vf,rfl,hE⟩:=hown.elems (fun _=>rfl)
 have hlen:=allSets_len2 h4
 simp (disch:=omega) [k2]
 have hf:=isFair_con ((2^t.rows.length - 1:Nat):Int) ((allSets t.rows.length).map (nzOf t)) (by simp; omega) (fun x hx=>by
  obtain ⟨s,hs,rfl⟩:=List.mem_map.1 hx
  have hset:SetOk t s:=allSets_mem hs
  have h1:=counts_bd htb hset 1
  have h2:=counts_bd htb hset 2
  have h3:0≤givesI t s∧givesI t s≤6000:=by
   have:=sum_bd (l:=s.map fun n=>(rowAt t n).gives) (fun x hx=>by
    obtain ⟨n,hn,rfl⟩:=List.mem_map.1 hx
    have hm:=hset.2 n hn
    have:=hr.2.2 _ (row_mem hm.1 hm.2)
    omega)
   have h6:=hset.1
   rw [List.length_map] at this
   unfold givesI
   omega
  refine ⟨h1.1,h1.2,h2.1,h2.2,h3.1,h3.2,?_⟩
  exact g_and t.rows.length (by omega) (maskN s) (mask_len (by omega) (by omega) fun x hx=>hset.2 x hx)) va vf H2 hE
 simp only [List.length_map] at hf ⊢
 refine hf.mono ?_
 rintro x H3 ⟨hs3,fb,rfl,hF⟩
 simp
 refine ⟨(hs1.trans hs2).trans hs3,?_⟩
 cases fb with
 |false=>exact .inl rfl
 |true=>
 refine .inr ⟨rfl,?_⟩
 have hF:=hF rfl
 intro x hx y hy sys hsys he
 have h12:=hF _ (List.mem_map_of_mem hx) _ (List.mem_map_of_mem hy)
 have hsys':sys=1∨sys=2:=by simpa [isSystemI] using hsys
 rcases hsys' with rfl|rfl
 ·exact h12.1 he
 ·exact h12.2 he
end Go.Gm.Tryz
end
section
namespace Go.Gm.Tryz
open Go.Proofs
theorem ev_div {b:Book} {day number units person:Int} (h:isBookB (plusEv b (divEv day number units person))=true):0≤number∧1≤units∧units≤360:=by
 have h1:=(book_ok h).ev b.events.length (by simp [plusEv])
 have e:(plusEv b (divEv day number units person)).events[b.events.length]'(by simp [plusEv])=divEv day number units person:=by simp [plusEv]
 rw [e] at h1
 unfold isEventB at h1
 simp [divEv,isGrantI,isUnitsI,inI] at h1
 have h2:=of_decide_eq_true h1.2.1.1.1
 have h3:=of_decide_eq_true h1.2.1.1.2
 omega
theorem divide_law {H:GH} {l:BLoc} {b:Book} (hb:BookIn H l b) (day number units person:Int):C 4 [bookV l b,vi day,vi number,vi units,vi person] H (.bool true) H:=by
 refine con_wp tok mix fok4 (F:=g4) (c:=_) rfl (n:=218) rfl (rs:= [.tmp 10]) rfl (anch_closed rfl) ?_
 rcases l with ⟨⟨⟨ra,rf⟩⟩,⟨oa,of'⟩,⟨va,vf⟩⟩
 simp
 generalize hH1:GH.push H _=H1
 have hs1:Sub H H1:=by subst hH1; exact Sub.push (.refl H) _
 have k0:H1.get H.next=some (.arr { cells:=bookC ⟨⟨⟨ra,rf⟩⟩,⟨oa,of'⟩,⟨va,vf⟩⟩ b,ty:=28 }):=by subst hH1; simp
 have hn1:H1.next=H.next+1:=by subst hH1; simp
 have hb1:=hb.mono hs1
 clear hH1
 by_cases c1:(8:Int)<b.owners.length
 ·simp [c1]
  refine (known20_con _).go ?_
  simp
  exact hs1
 simp [c1,k0]
 by_cases c2:(14:Int)<b.events.length
 ·simp [c2]
  refine (known20_con _).go ?_
  simp
  exact hs1
 simp [c2,k0]
 by_cases c3:(4:Int)<b.tbl.rows.length
 ·simp [c3]
  refine (known20_con _).go ?_
  simp
  exact hs1
 simp [c3,k0]
 have hsh:shortB b=true:=by
  simp only [shortB,Bool.and_eq_true,Bool.or_eq_true,decide_eq_true_eq]
  exact ⟨by omega,by omega,by omega,.inl (by omega)⟩
 with_reducible refine (rRight_con ⟨⟨⟨_,_⟩⟩,⟨_,_⟩,⟨_,_⟩⟩ b _ hb1 hsh).go ?_
 simp
 cases hR:rightB b
 ·simp
  refine (known20_con _).go ?_
  simp
  exact hs1
 simp
 refine (rDay_con _ _).go ?_
 simp
 cases hd:isDayI day
 ·simp
  refine (known20_con _).go ?_
  simp
  exact hs1
 obtain ⟨hB,hwr⟩:=rightB_of hR
 have hbo:=book_ok hB
 have hsu:=book_supply hB
 have hel:=hbo.events
 simp (disch:=omega) [k0]
 generalize hH2:GH.put _ _ _=H2
 have s2:Sub H1 H2:=by subst hH2; exact (Sub.push (.refl H1) _).put (by omega) _
 have kc:H2.get H1.next=some (.arr { cells:=bookC ⟨⟨⟨ra,rf⟩⟩,⟨oa,of'⟩,⟨va,vf⟩⟩ b,ty:=28 }):=by subst hH2; simp
 have hn2:H2.next=H1.next+1:=by subst hH2; simp
 clear hH2
 have hb2:=hb1.mono s2
 have hrs:=hb2.events.readS
 obtain ⟨w1,H3,happ,ho3,hn3,hf3,_⟩:=(OwnL.nil (H:=H2) (N:=H2.next) (ty:=56) (sz:=8) (enc:=encEv)).apps (fun _=>rfl) (fun _=>rfl) (by decide) b.events (Nat.le_refl _)
 simp only [List.nil_append] at ho3
 have s3:Sub H2 H3:=⟨hn3,fun g hg=>hf3 g hg (by simp)⟩
 have c8:64*b.events.length≤1000000:=by omega
 have c9:b.events.length≤1000000:=by omega
 obtain ⟨wa,wf,rfl⟩:=ho3.slice
 obtain ⟨w2,H4,happ4,ho4,hn4,hf4,_⟩:=(ho3.push (.arr { cells:=encEv (divEv day number units person),ty:=56 })).app (fun _=>rfl) (fun _=>rfl) (by decide) (divEv day number units person) (by simp; omega)
 simp only [encEv,divEv] at happ4
 have d8:64*(1+b.events.length)≤1000000:=by omega
 have d9:1+b.events.length≤1000000:=by omega
 obtain ⟨wa2,wf2,rfl⟩:=ho4.slice
 simp only [GH.next_push] at hn4
 have hwb:∀g,blkOf (.slice wa b.events.length wf)=some g→H2.next≤g:=fun g hg=>(ho3.blk_lt hg).1
 have s4:Sub H2 H4:=⟨by omega,fun g hg=>by rw [hf4 g (by simp; omega) (fun hc=>by have:=hwb _ hc; omega),GH.get_push_lt _ _ (by omega),s3.2 g hg]⟩
 have kc4:=(s4.2 _ (by omega)).trans kc
 simp (disch:=omega) [hrs,c8,c9,happ,d8,d9,happ4,kc4]
 generalize hH5:GH.put _ _ _=H5
 have hE4:=ho4.elems' (fun _=>rfl)
 have k5:H5.get H1.next=some (.arr { cells:=bookC ⟨⟨⟨ra,rf⟩⟩,⟨oa,of'⟩,⟨wa2,wf2⟩⟩ (plusEv b (divEv day number units person)),ty:=28 }):=by subst hH5; simp [plusEv]
 have s5:Sub H1 H5:=by subst hH5; exact (s2.trans s4).put (by omega) _
 have hn5:H5.next=H4.next:=by subst hH5; simp
 have hE5:Elems H5 wa2 8 encEv (b.events++ [divEv day number units person]):=by
  subst hH5
  refine hE4.put _ fun d hd=>?_
  subst hd
  rcases ho4 with ⟨h,_⟩|⟨g,ver,szs,pre,_,hN,_,h,_⟩
  ·simp at h
  ·cases h; simp; omega
 clear hH5
 have hb5:=hb1.mono s5
 have hc5:BookIn H5 ⟨⟨⟨ra,rf⟩⟩,⟨oa,of'⟩,⟨wa2,wf2⟩⟩ (plusEv b (divEv day number units person)):=⟨hb5.t,hb5.owners,hE5⟩
 have hs5:=hs1.trans s5
 have k05:=(s5.2 H.next (by omega)).trans k0
 have hshc:shortB (plusEv b (divEv day number units person))=true:=by
  show (decide (b.tbl.rows.length≤15)&&(decide (b.owners.length≤8)&&(decide ((b.events++ [divEv day number units person]).length≤14)&&(decide (b.tbl.rows.length≤4)|| !isTableB b.tbl))))=true
  simp only [Bool.and_eq_true,Bool.or_eq_true,decide_eq_true_eq,List.length_append,List.length_cons,List.length_nil]
  exact ⟨by omega,by omega,by omega,.inl (by omega)⟩
 have hbv:bookV ⟨⟨⟨ra,rf⟩⟩,⟨oa,of'⟩,⟨wa2,wf2⟩⟩ (plusEv b (divEv day number units person))=.agg #[.slice ra b.tbl.rows.length rf,vi b.tbl.draw,vi b.supply,vi b.term,vi b.persons,.slice oa b.owners.length of',.slice wa2 (b.events.length+1) wf2]:=by simp [plusEv]
 have k5':H5.get H1.next=some (.arr { cells:= [.slice ra b.tbl.rows.length rf,vi b.tbl.draw,vi b.supply,vi b.term,vi b.persons,.slice oa b.owners.length of',.slice wa2 (b.events.length+1) wf2],ty:=28 }):=by rw [k5]; simp [plusEv]
 have hcr:=rRight_con ⟨⟨⟨ra,rf⟩⟩,⟨oa,of'⟩,⟨wa2,wf2⟩⟩ (plusEv b (divEv day number units person)) H5 hc5 hshc
 rw [hbv] at hcr
 refine hcr.go ?_
 simp
 cases hRc:rightB (plusEv b (divEv day number units person))
 ·simp
  refine (known20_con _).go ?_
  simp
  exact hs5
 obtain ⟨hC,hwc⟩:=rightB_of hRc
 obtain ⟨hnum,hu1,hu2⟩:=ev_div hC
 obtain ⟨s,u,hus,huu,hgl,p1,p2,p3,p4,sa,sc,pa,pc,pfair⟩:=divide_plain hB hwr hC hwc hnum hu1
 have ho:=out_right hB hwr hus hd (ok:=true) rfl
 have hoc:=out_right hC hwc huu hd (ok:=true) rfl
 have htb:isTableB b.tbl=true:=by unfold isBookB at hB; simp only [Bool.and_eq_true] at hB; exact hB.1.1.1.1.1.1.1
 simp (disch:=omega) [k05]
 refine (Fair_con ⟨⟨ra,rf⟩⟩ b.tbl (by omega) H5 hb5.t).mono ?_
 rintro x H6 ⟨s6,fb,rfl,hF⟩
 rw [htb]
 have k06:=(s6.2 _ (by omega)).trans k05
 have k6':=(s6.2 _ (by omega)).trans k5'
 have hb6:=hb5.mono s6
 have hc6:=hc5.mono s6
 have hn6:=s6.1
 simp (disch:=omega) [k06]
 refine (States_con hb6 day).mono ?_
 rintro x H7 ⟨s7,v7,rfl,hv7⟩
 have k07:=(s7.2 _ (by omega)).trans k06
 have k7':=(s7.2 _ (by omega)).trans k6'
 have hb7:=hb6.mono s7
 have hc7:=hc6.mono s7
 have hn7:=s7.1
 rw [ho] at hv7 ⊢
 obtain ⟨a7,q7,rfl,hE7⟩:=hv7
 simp only [statesR] at hE7 ⊢
 simp (disch:=omega) [k07]
 refine (Water_con hb7 day).go ?_
 rw [ho]
 simp (disch:=omega) [waterR,k7']
 have hcw:=Water_con hc7 day
 rw [hbv,hoc] at hcw
 refine hcw.go ?_
 simp (disch:=omega) [waterR,k07]
 refine (Waiting_con hb7 day).mono ?_
 rintro x H8 ⟨s8,v8,rfl,hv8⟩
 have k08:=(s8.2 _ (by omega)).trans k07
 have k8':=(s8.2 _ (by omega)).trans k7'
 have hb8:=hb7.mono s8
 have hc8:=hc7.mono s8
 have hn8:=s8.1
 rw [ho] at hv8 ⊢
 obtain ⟨a8,q8,rfl,hE8⟩:=hv8
 simp only [waitingR] at hE8 ⊢
 simp (disch:=omega) [k8']
 have hcv:=Waiting_con hc8 day
 rw [hbv,hoc] at hcv
 refine hcv.mono ?_
 rintro x H9 ⟨s9,v9,rfl,hv9⟩
 have k09:=(s9.2 _ (by omega)).trans k08
 have hb9:=hb8.mono s9
 have hn9:=s9.1
 have hE79:=hE7.mono (s8.trans s9)
 obtain ⟨a9,q9,rfl,hE9⟩:=hv9
 have hE89:=hE8.mono s9
 simp only [waitingR] at hE9 ⊢
 obtain ⟨e7,rfl,hb7e,hrd7⟩:=hE79.at number.toNat hgl
 have L1:¬(s.grants.length:Int)≤number:=by omega
 have L2:¬s.grants[number.toNat].units≤units:=by omega
 have L3:number<s.grants.length:=by omega
 simp (disch:=omega) [L1,L2,hrd7,k09]
 generalize hHa:GH.put _ _ _=Ha
 have sa9:Sub H9 Ha:=by subst hHa; exact (Sub.push (.refl H9) _).put (by omega) _
 have ka:Ha.get H9.next=some (.arr { cells:= [vi s.grants[number.toNat].is,vi s.grants[number.toNat].person,vi s.grants[number.toNat].estate,vi s.grants[number.toNat].system,vi s.grants[number.toNat].units],ty:=41 }):=by subst hHa; simp
 have hna:Ha.next=H9.next+1:=by subst hHa; simp
 clear hHa
 have k0a:=(sa9.2 _ (by omega)).trans k09
 have hba:=hb9.mono sa9
 have g1:setArgs b.tbl s.grants[number.toNat].system units=true:=by
  simp only [setArgs,htb,p3,nisUnitsI,inI,Bool.and_eq_true,decide_eq_true_eq]
  exact ⟨⟨trivial,trivial⟩,by omega⟩
 have g2:setArgs b.tbl s.grants[number.toNat].system (s.grants[number.toNat].units - units)=true:=by
  simp only [setArgs,htb,p3,nisUnitsI,inI,Bool.and_eq_true,decide_eq_true_eq]
  exact ⟨⟨trivial,trivial⟩,by omega⟩
 with_reducible refine (Set_con ⟨⟨_,_⟩⟩ b.tbl _ _ _ hba.t).mono ?_
 rintro x Hb ⟨sb,vb,rb,rfl,hb1⟩
 rw [if_pos g1,pa] at hb1
 obtain ⟨rfl,ab,qb,rfl,hEb⟩:=hb1
 have k0b:=(sb.2 _ (by omega)).trans k0a
 have kb:=(sb.2 _ (by omega)).trans ka
 have hbb:=hba.mono sb
 have hnb:=sb.1
 simp (disch:=omega) [k0b,kb,wrap64]
 with_reducible refine (Set_con ⟨⟨_,_⟩⟩ b.tbl _ _ _ hbb.t).mono ?_
 rintro x Hc ⟨scc,vc,rc,rfl,hc1⟩
 rw [if_pos g2,pc] at hc1
 obtain ⟨rfl,ac,qc,rfl,hEc⟩:=hc1
 have hla:sa.length≤6:=(allSets_mem (firstSet_mem pa).1).1
 have hlc:sc.length≤6:=(allSets_mem (firstSet_mem pc).1).1
 have M1:¬(6:Int)<sa.length:=by omega
 have M2:¬(6:Int)<sc.length:=by omega
 have hsA:Sub H Hc:=(((((((hs5.trans s6).trans s7).trans s8).trans s9).trans sa9).trans sb).trans scc)
 simp (disch:=omega) [M1,M2]
 cases fb with
 |false=>
  simp
  refine (known20_con _).go ?_
  simp
  exact hsA
 |true=>
  simp (disch:=omega) [wrap64]
  by_cases h6:(6:Int)<(sa.length:Int)+sc.length
  ·simp [h6]
   refine (known20_con _).go ?_
   simp
   exact hsA
  obtain ⟨f1,f2,f3⟩:=pfair (hF htb rfl) (by omega)
  have e1:(plusEv b (divEv day number units person)).supply=b.supply:=rfl
  have e2:freeI (plusEv b (divEv day number units person)) u=freeI b s:=(show freeI (plusEv b (divEv day number units person)) u=freeI b u from rfl).trans f2
  have hwl:s.waits.length≤1000000:=by
   obtain ⟨_,_,hJ,_⟩:=Wa_up hB hus
   have:=hJ.wf.len
   omega
  have hx8:=((hE89.mono sa9).mono sb).mono scc
  have hx9:=((hE9.mono sa9).mono sb).mono scc
  have hsame:=same1_con s.waits u.waits hwl a8 a9 q8 q9 Hc hx8 hx9
  simp [h6,e1,e2]
  refine hsame.go ?_
  rw [f3]
  simp
  refine (known20_con _).go ?_
  simp
  exact hsA
end Go.Gm.Tryz
end
section
namespace Go.Gm.Tryz
open Go.Proofs Go.Proofs.YtbafdnglbblodaaGreat Go.RowKit
theorem topDivide_spec:LawSpec Rows.topDivideSpec 5:=⟨rfl,fun H xs h=>by
 match xs,h with
 | [_,_,_,_,_],_=>rfl⟩
set_option maxRecDepth 100000 in
theorem topDivide_lifted (os:Os) (started:os.Started) (H:Type) (enc:TypeId×Value→H):
  ReturnsInHanded {} Tryz.checked os 4 .any (fun w args=>Rows.topDivideSpec.pre enc Tryz.prog Tryz.f4 [] false w args∧sizedMet enc Tryz.prog Tryz.f4 (OpenSpec.ofChange Rows.topDivideSpec) false w args)
   (Rows.topDivideSpec.post enc Tryz.prog Tryz.f4 false true false false):=by
 refine returnsInHanded_plain (C:=Tryz.checked) own started (by kernel_rfl) Tryz.func4
  (ChangeSpec.witness_shaped (enc:=enc) (C:=Tryz.checked) (os:=os) (X:=fun _ _=>True) false (World.laidAll Tryz.prog os []) #[.agg #[.slice none 0 0,.int .i64 0,.int .i64 0,.int .i64 0,.int .i64 0,.slice none 0 0,.slice none 0 0],.int .i64 0,.int .i64 0,.int .i64 0,.int .i64 0] 9 (World.laidAll_os _ _ _)
   (World.shaped_of_ZipB (by kernel_rfl) (by kernel_rfl)) (by kernel_rfl) (by kernel_rfl) (by kernel_rfl) trivial) ?_
 intro W base args ds gs before hsh hval _ hw
 refine law_calls (P:=Tryz.prog) (fn:=Tryz.f4) (ds:= [dBook,dI,dI,dI,dI]) laidOut (by rw [Tryz.params4]; exact .cons fitBook (.cons fitI (.cons fitI (.cons fitI (.cons fitI .nil))))) (by kernel_rfl) Tryz.underlying4 (by
  rw [Tryz.params4]
  intro t ht
  have hall:([28,3,3,3,3].all fun t=>Tryz.prog.readableRec t&&decide (t<Tryz.prog.types.size))=true:=by kernel_rfl
  have:=List.all_eq_true.1 hall t (by simpa using ht)
  simpa using this) topDivide_spec (fx:= []) (fun k r h=>by cases h) ?_ hval hw
 intro G gss hG hLie
 cases hLie with
 |cons h1 h2=>
 cases h2 with
 |cons h2 h3=>
 cases h3 with
 |cons h3 h4=>
 cases h4 with
 |cons h4 h5=>
 cases h5 with
 |cons h5 h6=>
 cases h6
 obtain ⟨l,b,e,hb,_,_,_⟩:=lie_book h1
 obtain ⟨n,rfl⟩:=lie_int h2
 obtain ⟨m,rfl⟩:=lie_int h3
 obtain ⟨o,rfl⟩:=lie_int h4
 obtain ⟨p,rfl⟩:=lie_int h5
 show GCall Tryz.prog 4 [argV dBook _,vi n,vi m,vi o,vi p] G _
 rw [e]
 exact (divide_law hb n m o p).mono fun x _ h=>h.1
theorem topDivide_joined:joinedFacts Tryz.prog 4 Tryz.f4 Rows.topDivideSpec Rows.topDivideRow=true:=by
 unfold joinedFacts
 exact and_tt (and_tt (and_tt (and_tt (and_tt (and_tt (and_tt (and_tt (and_tt (and_tt (and_tt (and_tt (and_tt (and_tt (and_tt (and_tt (and_tt (and_tt (and_tt (and_tt (and_tt (and_tt (and_tt (and_tt (and_tt (and_tt (and_tt (and_tt (and_tt (and_tt (and_tt (by kernel_rfl) (by kernel_rfl)) (by kernel_rfl)) (by kernel_rfl)) (by kernel_rfl)) (by kernel_rfl)) (by kernel_rfl)) (by kernel_rfl)) (by kernel_rfl)) (by kernel_rfl)) (by kernel_rfl)) (by kernel_rfl)) (by kernel_rfl)) (by kernel_rfl)) (by kernel_rfl)) (by kernel_rfl)) (by kernel_rfl)) (by kernel_rfl)) (by kernel_rfl)) (by kernel_rfl)) (by kernel_rfl)) (by kernel_rfl)) (by kernel_rfl)) (by kernel_rfl)) (by kernel_rfl)) (by kernel_rfl)) (by kernel_rfl)) (by kernel_rfl)) (by kernel_rfl)) (by kernel_rfl)) (by kernel_rfl)) (by kernel_rfl)
end Go.Gm.Tryz
namespace Go.Proofs.YtbafdnglbblodaaGreat
open Go.Gm.Tryz
theorem topDivide_holds:Rows.TopDivideSaid:=
 OpenClaim.holds_of_wide 4 Tryz.f4 rfl rfl rfl rfl rfl rfl rfl ⟨rfl,rfl,rfl,rfl,rfl⟩ rfl rfl rfl rfl rfl (by kernel_rfl) Tryz.func4 topDivide_joined
  (of_decide_eq_true (by kernel_rfl)) (by unfold Func.isWrapper; first|(rw [if_pos (by decide+kernel)]; kernel_rfl)|(rw [if_neg (by decide+kernel)]; exact ⟨rfl,rfl⟩))
  (fun os started H enc _=>topDivide_lifted os started H enc)
end Go.Proofs.YtbafdnglbblodaaGreat
end
end
