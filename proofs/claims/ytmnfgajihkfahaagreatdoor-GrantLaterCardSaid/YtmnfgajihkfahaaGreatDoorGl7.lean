/- The function GrantLater, called with any register and any day, returns true, and never panics: by the model of the language, for every input that the card fits, and under the card's conditions alone. -/
import Derived.Test.YtmnfgajihkfahaaGreatDoorBa6
import Derived.Test.YtmnfgajihkfahaaGreatDoorTie
noncomputable section
section
namespace Go.Gm.Tryz
open Go.Proofs
theorem t7:T.get 7=some r7:=by kernel_rfl
end Go.Gm.Tryz
end
section
namespace Go.Gm.Tryz
open Go.Proofs
theorem freeI_agr {N:Nat} {b c:Book} (h:Agr N b c) (s:Stand):mr b s=mr c s:=by
 have e:jv b=jv c:=by funext n g; simp [jv,h.tbl]
 simp [mr,e,h.sup]
theorem serveS_agr {N:Nat} {b c:Book} (h:Agr N b c):∀ {n:Nat} {s:Stand},LtW N s→gu b n s=gu c n s∧LtW N (gu b n s):=by
 intro n
 induction n with
 |zero=>intro s hs; exact ⟨rfl,hs⟩
 |succ n ih=>
  intro s hs
  simp only [gu]
  cases hw:s.waits with
  |nil=>exact ⟨rfl,hs⟩
  |cons w ws=>
   have hN:w.toNat<N:=hs w (by rw [hw]; simp)
   simp only [←h.ev w hN,freeI_agr h,h.tbl]
   split
   ·exact ⟨rfl,hs⟩
   ·refine ih fun v hv=>hs v ?_
    rw [hw]
    exact List.mem_cons_of_mem _ hv
theorem serve_agr {N:Nat} {b c:Book} (h:Agr N b c) {s:Stand} (hs:LtW N s):serve b s=serve c s∧LtW N (serve b s):=serveS_agr h hs
theorem endS_agr {N:Nat} {b c:Book} (h:Agr N b c) {s:Stand} (hs:LtW N s) (g:Nat) (d:Int):endS b s g d=endS c s g d∧LtW N (endS b s g d):=serve_agr h (s:=endG s g d) hs
theorem passS_agr {N:Nat} {b c:Book} (h:Agr N b c) {d:Int}:∀ {n:Nat} {s:Stand},LtW N s→lj b d n s=lj c d n s∧LtW N (lj b d n s):=by
 intro n
 induction n with
 |zero=>intro s hs; exact ⟨rfl,hs⟩
 |succ n ih=>
  intro s hs
  simp only [lj]
  split
  ·exact ⟨rfl,hs⟩
  ·obtain ⟨e1,e2⟩:=endS_agr h hs (lm s d).toNat (IntKind.i64.wrap (bl s (lm s d)+1))
   rw [←e1]
   exact ih e2
theorem pass_agr {N:Nat} {b c:Book} (h:Agr N b c) {s:Stand} (hs:LtW N s) (d:Int):pass b s d=pass c s d∧LtW N (pass b s d):=passS_agr h hs
theorem foldl_agr {α:Type} {P:Stand→Prop} {f g:Stand→α→Stand} (hf:∀s x,P s→f s x=g s x∧P (f s x)):∀(l:List α) {s:Stand},P s→l.foldl f s=l.foldl g s∧P (l.foldl f s):=by
 intro l
 induction l with
 |nil=>intro s hs; exact ⟨rfl,hs⟩
 |cons x l ih=>
  intro s hs
  obtain ⟨e1,e2⟩:=hf s x hs
  simp only [List.foldl_cons,←e1]
  exact ih e2
theorem fitsB_agr {N:Nat} {b c:Book} (h:Agr N b c) (s:Stand) (e:Ev):q9 b s e=q9 c s e:=by simp [q9,h.tbl,freeI_agr h]
theorem goesB_agr {N:Nat} {b c:Book} (h:Agr N b c) (s:Stand) (e:Ev):cu b s e=cu c s e:=by
 simp [cu,fitsB_agr h,nn,yi,h.tbl,freeI_agr h]
theorem dieB_waits (s:Stand) (e:Ev):(jt s e).waits=s.waits:=by
 have:∀(l:List Nat) (t:Stand),(l.foldl (cj e) t).waits=t.waits:=by
  intro l
  induction l with
  |nil=>intro t; rfl
  |cons x l ih=>
   intro t
   rw [List.foldl_cons,ih]
   unfold cj
   split<;>rfl
 exact this _ _
theorem dieS_agr {N:Nat} {b c:Book} (h:Agr N b c) {s:Stand} (hs:LtW N s) (e:Ev):uf b s e=uf c s e∧LtW N (uf b s e):=by
 have h1:LtW N (jt (dj s e) e):=fun w hw=>by rw [dieB_waits] at hw; exact hs w hw
 have h2:mn b (jt (dj s e) e) e=mn c (jt (dj s e) e) e:=by
  unfold mn
  congr 1
  apply List.filter_congr
  intro w hw
  simp [jg,h.ev w (h1 w hw)]
 have h3:LtW N (mn b (jt (dj s e) e) e):=fun w hw=>h1 w ((List.mem_filter.1 hw).1)
 obtain ⟨h4,h5⟩:=foldl_agr (P:=LtW N) (f:=bw b e) (g:=bw c e) (fun t i ht=>by
  unfold bw
  split
  ·exact endS_agr h ht _ _
  ·exact ⟨rfl,ht⟩) (List.range (mn b (jt (dj s e) e) e).grants.length) h3
 have h6:∀t i,bs b e t i=bs c e t i∧(LtW N t→LtW N (bs b e t i)):=fun t i=>by
  unfold bs
  rw [h.term]
  refine ⟨rfl,fun ht=>?_⟩
  split
  ·exact ht
  ·exact ht
 unfold uf ach n8
 rw [←h2,←h4]
 exact foldl_agr (P:=LtW N) (fun t i ht=>⟨(h6 t i).1,(h6 t i).2 ht⟩) _ h5
theorem doS_agr {N:Nat} {b c:Book} (h:Agr N b c) {s:Stand} (hs:LtW N s) (e:Ev) {n:Nat} (hn:n<N):doS b s e n=doS c s e n∧LtW N (doS b s e n):=by
 unfold doS
 repeat' split
 ·exact ⟨rfl,hs⟩
 ·exact ⟨rfl,hs⟩
 ·exact dieS_agr h hs e
 ·exact ⟨rfl,hs⟩
 ·exact ⟨rfl,hs⟩
 ·exact ⟨rfl,hs⟩
 ·exact ⟨rfl,hs⟩
 ·refine ⟨rfl,fun w hw=>?_⟩
  simp only [aaz,List.mem_append,List.mem_singleton] at hw
  rcases hw with hw|rfl
  ·exact hs w hw
  ·simpa using hn
theorem runS_agr {N:Nat} {b c:Book} (h:Agr N b c):∀ {es:List Ev} {n:Nat} {s:Stand},LtW N s→n+es.length≤N→ahf b es n s=ahf c es n s∧∀t,ahf b es n s=.inr t→LtW N t:=by
 intro es
 induction es with
 |nil=>intro n s hs _; exact ⟨rfl,fun t ht=>by cases ht; exact hs⟩
 |cons e es ih=>
  intro n s hs hn
  simp only [List.length_cons] at hn
  obtain ⟨e1,e2⟩:=pass_agr h hs e.day
  obtain ⟨e3,e4⟩:=doS_agr h e2 e (n:=n) (by omega)
  obtain ⟨e5,e6⟩:=serve_agr h e4
  simp only [ahf,←e1,←goesB_agr h,←e3,←e5]
  split
  ·exact ih e6 (by omega)
  ·exact ⟨rfl,fun t ht=>by cases ht⟩
theorem runS_append {b:Book}:∀ {es fs:List Ev} {n:Nat} {s:Stand},ahf b (es++fs) n s=match ahf b es n s with| .inl k=>.inl k| .inr t=>ahf b fs (n+es.length) t:=by
 intro es
 induction es with
 |nil=>intro fs n s; rfl
 |cons e es ih=>
  intro fs n s
  simp only [List.cons_append,ahf]
  split
  ·rw [ih]
   simp only [List.length_cons]
   rw [show n+1+es.length=n+(es.length+1) by omega]
  ·rfl
theorem runS_inl {b:Book}:∀ {es:List Ev} {n:Nat} {s:Stand} {k:Nat},ahf b es n s=.inl k→n≤k∧k<n+es.length:=by
 intro es
 induction es with
 |nil=>intro n s k h; cases h
 |cons e es ih=>
  intro n s k h
  simp only [ahf] at h
  simp only [List.length_cons]
  split at h
  ·have:=ih h; omega
  ·cases h; omega
theorem until_agr (b:Book) (many:Nat) (_hm:many≤b.events.length):Agr many b { b with events:=b.events.take many }:=by
 refine ⟨rfl,rfl,rfl,rfl,rfl,fun n hn=>?_⟩
 unfold db
 rw [List.getD_eq_getElem?_getD,List.getD_eq_getElem?_getD]
 simp only
 rw [List.getElem?_take,if_pos hn]
theorem until_book {b:Book} (hB:aq b=true) (many:Nat):aq { b with events:=b.events.take many }=true:=by
 have hB':=hB
 simp only [aq,Bool.and_eq_true] at hB ⊢
 obtain ⟨⟨⟨⟨⟨⟨⟨h1,h2⟩,h3⟩,h4⟩,h5⟩,h6⟩,h7⟩,h8⟩:=hB
 simp only [decide_eq_true_eq] at h5 h6
 refine ⟨⟨⟨⟨⟨⟨⟨h1,h2⟩,h3⟩,h4⟩,by simpa using h5⟩,by simp; omega⟩,?_⟩,h8⟩
 rw [List.all_eq_true] at h7 ⊢
 intro i hi
 have hi':=List.mem_range.1 hi
 simp only [List.length_take] at hi'
 have h9:=h7 i (List.mem_range.2 (by omega))
 have g1:∀j,j<many→(b.events.take many).getD j default=b.events.getD j default:=fun j hj=>by
  rw [List.getD_eq_getElem?_getD,List.getD_eq_getElem?_getD,List.getElem?_take,if_pos hj]
 unfold mc at h9 ⊢
 simp only [g1 i (by omega),g1 (i - 1) (by omega)]
 exact h9
theorem LtW_start (b:Book) (N:Nat):LtW N (start b):=fun w hw=>by simp [start] at hw
theorem first_plain {b:Book} (hB:aq b=true) {many:Nat} (hm:many≤b.events.length):
  dw { b with events:=b.events.take many }=match dw b with|some n=>if many≤n then none else some n|none=>none:=by
 have hA:=until_agr b many hm
 rw [aqi (until_book hB many),aqi hB]
 have hl:(b.events.take many).length=many:=by simp; omega
 obtain ⟨e1,e2⟩:=runS_agr hA (es:=b.events.take many) (n:=0) (LtW_start b many) (by rw [hl]; omega)
 have e3:ahf b b.events 0 (start b)=match ahf b (b.events.take many) 0 (start b) with| .inl k=>.inl k| .inr t=>ahf b (b.events.drop many) (0+(b.events.take many).length) t:=by
  rw [←runS_append,List.take_append_drop]
 have e4:start { b with events:=b.events.take many }=start b:=rfl
 rw [e4,←e1,e3]
 cases h:ahf b (b.events.take many) 0 (start b) with
 |inl k=>
  have:=(runS_inl h).2
  simp only
  rw [if_neg (by omega)]
 |inr t=>
  simp only
  cases h2:ahf b (b.events.drop many) (0+(b.events.take many).length) t with
  |inl k=>
   have:=(runS_inl h2).1
   simp only
   rw [if_pos (by omega)]
  |inr _=>rfl
end Go.Gm.Tryz
end
section
namespace Go.Gm.Tryz
open Go.Proofs
theorem until_con {H:GH} {l:BLoc} {b:Book} (hb:BookIn H l b) (he:awp l.events 8) (many:Nat) (hm:many≤b.events.length):
  ay Tryz.prog 28 [dl l b,vi many] H fun x H'=>Sub H H'∧x=.ret (dl l { b with events:=b.events.take many })∧BookIn H' l { b with events:=b.events.take many }:=by
 rcases l with ⟨⟨⟨ra,rf⟩⟩,⟨oa,of'⟩,⟨va,vf⟩⟩
 refine an tok mix a9y (F:=g28) (c:=_) rfl (n:=11) rfl (rs:= [.cell 4 28]) rfl ?_
 have hlen:(b.events.take many).length=many:=by simp; omega
 have hS:∀o1 o2 o3 o4,Sub H ((((H.push o1).push o2).put H.next o3).put (H.next+1) o4):=fun o1 o2 o3 o4=>(((Sub.push (.refl H) o1).push o2).put (Nat.le_refl _) o3).put (by omega) o4
 rcases he with ⟨h1,h2⟩|⟨a,h1,h2⟩
 ·simp only at h1 h2
  subst h1 h2
  have h0:b.events.length=0:=by rw [hb.events.nil rfl]; rfl
  have hm0:many=0:=by omega
  subst hm0
  have he0:b.events= []:=hb.events.nil rfl
  simp (disch:=omega) [h0]
  refine ⟨hS _ _ _ _,?_⟩
  have hp:∀H',Sub H H'→BookIn H' ⟨⟨⟨ra,rf⟩⟩,⟨oa,of'⟩,⟨none,0⟩⟩ { b with events:= [] }:=fun H' hs=>by
   have hb':=hb.mono hs
   exact ⟨hb'.t,hb'.owners,by have:=hb'.events; rw [he0] at this; exact this⟩
  exact hp _ (hS _ _ _ _)
 ·simp only at h1 h2
  subst h1 h2
  have hg0:ku a 0=a:=by cases a; simp [ku]
  simp (disch:=omega) [hm,hg0]
  have hp:∀H',Sub H H'→BookIn H' ⟨⟨⟨ra,rf⟩⟩,⟨oa,of'⟩,⟨some a,8⟩⟩ { b with events:=b.events.take many }:=fun H' hs=>by
   have hb':=hb.mono hs
   exact ⟨hb'.t,hb'.owners,hb'.events.pre many hm⟩
  exact ⟨hS _ _ _ _,hp _ (hS _ _ _ _)⟩
end Go.Gm.Tryz
end
section
namespace Go.Gm.Tryz
open Go.Proofs
theorem upFrom_append {b:Book} {d:Int}:∀ {es fs:List Ev} {n:Nat} {s:Stand},(∀e∈es,e.day≤d)→iu b d (es++fs) n s=match ahf b es n s with| .inl k=>.inl k| .inr t=>iu b d fs (n+es.length) t:=by
 intro es
 induction es with
 |nil=>intro fs n s _; rfl
 |cons e es ih=>
  intro fs n s hd
  have h1:¬e.day>d:=by have:=hd e (by simp); omega
  simp only [List.cons_append,iu,ahf,if_neg h1]
  split
  ·rw [ih fun x hx=>hd x (by simp [hx])]
   simp only [List.length_cons]
   rw [show n+1+es.length=n+(es.length+1) by omega]
  ·rfl
theorem later_plain {b:Book} (hB:aq b=true) (hw:dw b=none) {d:Int} {many:Nat} (hm:many≤b.events.length) (h1:∀e∈b.events.take many,e.day≤d) (h2:∀h:many<b.events.length,d<b.events[many].day):
  dw { b with events:=b.events.take many }=none∧upS { b with events:=b.events.take many } d=upS b d:=by
 have hA:=until_agr b many hm
 have hl:(b.events.take many).length=many:=by simp; omega
 refine ⟨by rw [first_plain hB hm,hw],?_⟩
 obtain ⟨e1,e2⟩:=runS_agr hA (es:=b.events.take many) (n:=0) (LtW_start b many) (by rw [hl]; omega)
 have hst:start { b with events:=b.events.take many }=start b:=rfl
 have hb:upS b d=match ahf b (b.events.take many) 0 (start b) with| .inl k=>.inl k| .inr t=>iu b d (b.events.drop many) (0+(b.events.take many).length) t:=by
  rw [←upFrom_append h1,List.take_append_drop]; rfl
 have hc:upS { b with events:=b.events.take many } d=match ahf b (b.events.take many) 0 (start b) with| .inl k=>.inl k| .inr t=>.inr (pass { b with events:=b.events.take many } t d):=by
  unfold upS
  rw [amo h1,hst,←e1]
  cases ahf b (b.events.take many) 0 (start b)<;>rfl
 rw [hb,hc]
 cases h:ahf b (b.events.take many) 0 (start b) with
 |inl k=>rfl
 |inr t=>
  simp only
  rw [←(pass_agr hA (e2 t h) d).1]
  by_cases hlt:many<b.events.length
  ·rw [List.drop_eq_getElem_cons hlt,iu,if_pos (h2 hlt)]
  ·rw [List.drop_of_length_le (by omega)]; rfl
end Go.Gm.Tryz
end
section
namespace Go.Gm.Tryz
open Go.Proofs
theorem zt {b:Book} (h:nt b=true):aq b=true∧dw b=none:=by
 simp only [nt,Bool.and_eq_true,Option.isNone_iff_eq_none] at h
 exact h
theorem qv {b:Book} (h:nw b=true):b.tbl.rows.length≤15∧b.events.length≤14∧b.owners.length≤8∧(aq b=true→b.tbl.rows.length≤4):=by
 have h':=h
 simp [nw] at h'
 refine ⟨by omega,by omega,by omega,fun hB=>?_⟩
 have ht:=xj hB
 simp [ht] at h'
 omega
end Go.Gm.Tryz
end
section
namespace Go.Gm
theorem wp_loop_mid {X:Cx} {b:Code} {K:Rho→List Nat→GH→Prop} {Q:VQ} {i:Nat} {ρ:Rho} {m:List Nat} {H:GH} (P:Rho→List Nat→GH→Prop) (h:wpC X (.loop b) (fun x ρ m H=>x=.exit i∧P ρ m H) ρ m H) (hk:∀ρ m H,P ρ m H→K ρ m H):wpC X (.loop b) (sd i (adk K Q)) ρ m H:=
 p8 h fun x ρ m H hx=>by
  obtain ⟨rfl,hp⟩:=hx
  rw [ah4,if_pos rfl,ki]
  exact hk _ _ _ hp
end Go.Gm
namespace Go.Gm.Tryz
open Go.Proofs
theorem later_law {H:GH} {l:BLoc} {b:Book} (hb:BookIn H l b) (he:awp l.events 8) (hfx:FxOk H.fx) (day:Int):C 7 [dl l b,vi day] H (.bool true) H:=by
 refine au tok mix bk0 (F:=g7) (c:=_) rfl (n:=194) rfl (rs:= [.tmp 4]) rfl (ac rfl) ?_
 rcases l with ⟨⟨⟨ra,rf⟩⟩,⟨oa,of'⟩,⟨va,vf⟩⟩
 simp
 generalize hH1:GH.push H _=H1
 have hs1:Sub H H1:=by subst hH1; exact Sub.push (.refl H) _
 have k0:H1.get H.next=some (.arr { cells:=bq ⟨⟨⟨ra,rf⟩⟩,⟨oa,of'⟩,⟨va,vf⟩⟩ b,ty:=28 }):=by subst hH1; simp
 have hn1:H1.next=H.next+1:=by subst hH1; simp
 have hf1:FxOk H1.fx:=by subst hH1; exact hfx
 have hb1:=hb.mono hs1
 clear hH1
 with_reducible refine (uc ⟨⟨⟨_,_⟩⟩,⟨_,_⟩,⟨_,_⟩⟩ b _ hb1).go ?_
 simp
 cases hsh:nw b
 ·simp
  refine (cx hf1).go ?_
  simp
  exact hs1
 obtain ⟨h15,h14,h8,h4⟩:=qv hsh
 simp [k0]
 with_reducible refine (wm ⟨⟨⟨_,_⟩⟩,⟨_,_⟩,⟨_,_⟩⟩ b _ hb1 hsh).go ?_
 simp
 cases hR:nt b
 ·simp
  refine (cx hf1).go ?_
  simp
  exact hs1
 simp
 refine (sq _ _).go ?_
 simp
 cases hd:fu day
 ·simp
  refine (cx hf1).go ?_
  simp
  exact hs1
 obtain ⟨hB,hwr⟩:=zt hR
 obtain ⟨s,hs⟩:=yr hB hwr day
 have ho:=zo hB hwr hs hd (ok:=true) rfl
 simp
 refine wp_loop_mid (fun ρ m H'=>ρ 1=vi day∧ρ 2=.pointer (some (ga H.next 0 0))∧m= []∧H'=H1∧∃many:Nat,ρ 5=vi many∧Cut b day many) ?_ ?_
 ·refine cv tok mix (by kernel_rfl) b.events.length (fun i ρ m H'=>ρ 1=vi day∧ρ 2=.pointer (some (ga H.next 0 0))∧ρ 5=vi i∧m= []∧H'=H1∧∀e∈b.events.take i,e.day≤day) (i0:=0) (by omega) (by simp) ?_
  rintro i ρ m H1 hi ⟨e1,e2,e5,rfl,rfl,hlo⟩
  simp (disch:=omega) [e2,e5,k0]
  by_cases hlt:i<b.events.length
  ·obtain ⟨a,ha,hab,hrd⟩:=hb1.events.at i hlt
   simp only at ha
   subst ha
   simp (disch:=omega) [hlt,e1,e2,e5,k0,hrd]
   refine ba (fun hdd=>?_) (fun hdd=>?_)
   ·simp (disch:=omega) [e1,e2,e5,aj]
    intro e hem
    rw [List.take_succ_eq_append_getElem hlt] at hem
    rcases List.mem_append.1 hem with hem|hem
    ·exact hlo e hem
    ·simp at hem; subst hem; exact hdd
   ·simp [e1,e2,e5]
    exact ⟨i,rfl,hi,hlo,fun _=>by omega⟩
  ·simp [hlt,e1,e2,e5]
   exact ⟨i,rfl,hi,hlo,fun h=>absurd h hlt⟩
 rintro ρ m H1 ⟨e1,e2,rfl,rfl,many,e5,hcut⟩
 have hm:=hcut.le
 simp (disch:=omega) [e2,e5,k0]
 refine (until_con hb1 he many hm).fx.mono ?_
 rintro x H2 ⟨⟨s2,rfl,hc2⟩,f2⟩
 have hA:=until_agr b many hm
 obtain ⟨hcw,hcu⟩:=later_plain hB hwr hm hcut.lo hcut.hi
 have hcB:=until_book hB many
 have hco:=zo hcB hcw (hcu.trans hs) hd (ok:=true) rfl
 have hl':min many b.events.length=many:=by omega
 have hcl:({ b with events:=b.events.take many }:Book).events.length=many:=by simp; omega
 simp [hl']
 generalize hH3:GH.put _ _ _=H3
 have s3:Sub H2 H3:=by subst hH3; exact ⟨by simp,fun g hg=>by simp (disch:=omega)⟩
 have k1:H3.get H2.next=some (.arr { cells:=bq ⟨⟨⟨ra,rf⟩⟩,⟨oa,of'⟩,⟨va,vf⟩⟩ { b with events:=b.events.take many },ty:=28 }):=by subst hH3; simp [bq,hl']
 have hn3:H3.next=H2.next+1:=by subst hH3; simp
 have f3:H3.fx=H2.fx:=by subst hH3; rfl
 clear hH3
 have h13:=s2.trans s3
 have hn2:=s2.1
 have n1:H.next<H1.next:=by omega
 have k3:H3.get H.next=_:=(h13.2 H.next (by omega)).trans k0
 have hb3:=hb1.mono h13
 have hc3:=hc2.mono s3
 have hf3:FxOk H3.fx:=by rw [f3,f2]; exact hf1
 have bv:dl ⟨⟨⟨ra,rf⟩⟩,⟨oa,of'⟩,⟨va,vf⟩⟩ { b with events:=b.events.take many }=.agg #[.slice ra b.tbl.rows.length rf,vi b.tbl.draw,vi b.supply,vi b.term,vi b.persons,.slice oa b.owners.length of',.slice va many vf]:=by simp [dl,hl']
 simp [e1,e2,k3]
 refine (ab5 hb3 day).fx.mono ?_
 rintro x H4 ⟨⟨s4,v4,rfl,w4⟩,f4⟩
 have k4:=(s4.2 H2.next (by omega)).trans k1
 have k4':=(s4.2 H.next (by omega)).trans k3
 have n4:=s4.1
 simp [e1,k4,hl']
 have sc:=ab5 (hc3.mono s4) day; rw [bv] at sc; refine sc.fx.mono ?_; clear sc
 rintro x H5 ⟨⟨s5,v5,rfl,w5⟩,f5⟩
 have k5:=(s5.2 H2.next (by omega)).trans k4
 have k5':=(s5.2 H.next (by omega)).trans k4'
 have n5:=s5.1
 simp [e1,e2,k5']
 refine (aaa (hb3.mono (s4.trans s5)) day).fx.mono ?_
 rintro x H6 ⟨⟨s6,v6,rfl,w6⟩,f6⟩
 have k6:=(s6.2 H2.next (by omega)).trans k5
 have k6':=(s6.2 H.next (by omega)).trans k5'
 have n6:=s6.1
 simp [e1,k6,hl']
 have sc:=aaa (hc3.mono (s4.trans (s5.trans s6))) day; rw [bv] at sc; refine sc.fx.mono ?_; clear sc
 rintro x H7 ⟨⟨s7,v7,rfl,w7⟩,f7⟩
 have k7:=(s7.2 H2.next (by omega)).trans k6
 have k7':=(s7.2 H.next (by omega)).trans k6'
 have n7:=s7.1
 have t7:=s4.trans (s5.trans (s6.trans s7))
 simp [e1,e2,k7']
 refine (aen (hb3.mono t7) day).go ?_
 simp [e1,k7,hl']
 have sc:=aen (hc3.mono t7) day; rw [bv] at sc; refine sc.go ?_; clear sc
 simp [e1,e2,k7']
 refine (aac (hb3.mono t7) day).fx.mono ?_
 rintro x H8 ⟨⟨s8,v8,rfl,w8⟩,f8⟩
 have k8:=(s8.2 H2.next (by omega)).trans k7
 have k8':=(s8.2 H.next (by omega)).trans k7'
 have n8:=s8.1
 simp [e1,k8,hl']
 have sc:=aac (hc3.mono (t7.trans s8)) day; rw [bv] at sc; refine sc.fx.mono ?_; clear sc
 rintro x H9 ⟨⟨s9,v9,rfl,w9⟩,f9⟩
 have k9:=(s9.2 H2.next (by omega)).trans k8
 have k9':=(s9.2 H.next (by omega)).trans k8'
 have n9:=s9.1
 have t9:=t7.trans (s8.trans s9)
 simp [e1,e2,k9']
 refine (aht (hb3.mono t9) 0 day).fx.mono ?_
 rintro x H10 ⟨⟨s10,v10,rfl,w10⟩,f10⟩
 have k10:=(s10.2 H2.next (by omega)).trans k9
 have n10:=s10.1
 simp [e1,k10,hl']
 have sc:=aht (hc3.mono (t9.trans s10)) 0 day; rw [bv] at sc; refine sc.fx.mono ?_; clear sc
 rintro x H11 ⟨⟨s11,v11,rfl,w11⟩,f11⟩
 have hf11:FxOk H11.fx:=by rw [f11,f10,f9,f8,f7,f6,f5,f4]; exact hf3
 have hin:inI 0 0 day=true:=by simp [fu,inI] at hd ⊢; omega
 rw [hin] at w10 w11
 rw [hin]
 rw [ho] at w4 w6 w8 w10
 rw [hco] at w5 w7 w9 w11
 rw [ho,hco]
 have wb:tg { b with events:=b.events.take many } (.ok s)=tg b (.ok s):=by
  simp only [tg,freeI_agr hA]
 have w0:(tg b (.ok s)).2.2=0:=rfl
 rw [wb]
 simp only [o8,me,ml,aal] at w4 w5 w6 w7 w8 w9 w10 w11 ⊢
 simp [w0]
 obtain ⟨a4,q4,rfl,E4⟩:=w4.sub (s5.trans (s6.trans (s7.trans (s8.trans (s9.trans (s10.trans s11))))))
 obtain ⟨a5,q5,rfl,E5⟩:=w5.sub (s6.trans (s7.trans (s8.trans (s9.trans (s10.trans s11)))))
 obtain ⟨a6,q6,rfl,E6⟩:=w6.sub (s7.trans (s8.trans (s9.trans (s10.trans s11))))
 obtain ⟨a7,q7,rfl,E7⟩:=w7.sub (s8.trans (s9.trans (s10.trans s11)))
 obtain ⟨a8,q8,rfl,E8⟩:=w8.sub (s9.trans (s10.trans s11))
 obtain ⟨a9,q9,rfl,E9⟩:=w9.sub (s10.trans s11)
 obtain ⟨a10,q10,rfl,E10⟩:=w10.sub s11
 obtain ⟨a11,q11,rfl,E11⟩:=w11
 obtain ⟨n,hn,hJ⟩:=bks hB hs
 have L1:=hJ.wf.len
 have L2:=hJ.wf.own
 have L3:=hJ.wf.fe
 have L4:=List.countP_le_length (p:=fun x:GSt=>decide (x.is=3)) (l:=s.grants)
 have L5:(ane s 0 day).length≤1000000:=by
  have:=List.length_filter_le (fun p:Int×Int=>inI p.2 0 day) s.fell
  simp only [ane,List.length_map]
  omega
 refine (sv s.grants s.grants (by omega) _ _ _ _ _ E4 E5).go ?_
 simp
 refine (nv s.owners s.owners (by omega) _ _ _ _ _ E6 E7).go ?_
 simp
 refine (nv s.waits s.waits (by omega) _ _ _ _ _ E8 E9).go ?_
 simp
 refine (nv (ane s 0 day) (ane s 0 day) L5 _ _ _ _ _ E10 E11).go ?_
 simp
 refine (cx hf11).go ?_
 simp
 exact hs1.trans (h13.trans (t9.trans (s10.trans s11)))
end Go.Gm.Tryz
end
section
namespace Go.Gm.Tryz
open Go.Proofs Go.Proofs.YtmnfgajihkfahaaGreatDoor Go.RowKit
theorem grantLater_spec:LawSpec Rows.grantLaterSpec 2:=⟨rfl,fun H xs h=>by
 match xs,h with
 | [_,_],_=>rfl⟩
set_option maxRecDepth 100000 in
theorem grantLater_lifted (os:Os) (started:os.Started) (H:Type) (enc:TypeId×Value→H):
  ReturnsInHanded {} Tryz.checked os 7 .any (fun w args=>(Rows.grantLaterSpec.pre enc Tryz.prog Tryz.f7 [] false w args∧laidMetH Tryz.prog li w)∧sizedMet enc Tryz.prog Tryz.f7 (OpenSpec.ofChange Rows.grantLaterSpec) false w args)
   (Rows.grantLaterSpec.post enc Tryz.prog Tryz.f7 false true false false):=by
 refine fk (C:=Tryz.checked) (X:=fun w _=>laidMetH Tryz.prog li w) (fun _ _ _ hh h=>h.of_heap hh) own started (by kernel_rfl) Tryz.func7
  (ChangeSpec.witness_shaped (enc:=enc) (C:=Tryz.checked) (os:=os) (X:=fun w _=>laidMetH Tryz.prog li w) false (World.laidAll Tryz.prog os li) #[.agg #[.slice none 0 0,.int .i64 0,.int .i64 0,.int .i64 0,.int .i64 0,.slice none 0 0,.slice none 0 0],.int .i64 0] 9 (World.laidAll_os _ _ _)
   (World.shaped_of_ZipB (by kernel_rfl) (by kernel_rfl)) (by kernel_rfl) (by kernel_rfl) (by kernel_rfl)
   (by rw [MakeChecks.laidMetH_plain _ _ _ (by kernel_rfl)]; exact laidMet_laidAll _ (by kernel_rfl) (by kernel_rfl))) ?_
 intro W base args ds gs before hsh hval _ hw hL
 obtain ⟨fx,hfx,hok,hW⟩:=anh hL hsh
 refine tw (P:=Tryz.prog) (fn:=Tryz.f7) (ds:= [sh,dI]) abw (by rw [Tryz.params7]; exact .cons abt (.cons rz .nil)) (by kernel_rfl) Tryz.underlying4 (by
  rw [Tryz.params7]
  intro t ht
  have hall:([28,3].all fun t=>Tryz.prog.readableRec t&&decide (t<Tryz.prog.types.size))=true:=by kernel_rfl
  have:=List.all_eq_true.1 hall t (by simpa using ht)
  simpa using this) grantLater_spec hW hfx ?_ hval hw
 intro G gss hG hLie
 have hfG:FxOk G.fx:=by rw [hG]; exact hok
 cases hLie with
 |cons h1 h2=>
 cases h2 with
 |cons h2 h3=>
 cases h3
 obtain ⟨l,b,e,hb,_,_,k3⟩:=yb h1
 obtain ⟨n,rfl⟩:=ew h2
 show ay Tryz.prog 7 [ahz sh _,vi n] G _
 rw [e]
 exact (later_law hb k3 hfG n).mono fun x _ h=>h.1
theorem grantLater_inPlace:(Rows.grantLaterRow.inPlace==Tryz.prog.inPlace 7)=true:=by kernel_rfl
theorem grantLater_unf:(Rows.grantLaterRow.unfollowed==Tryz.prog.unfollowed 7)=true:=by kernel_rfl
theorem grantLater_rec:(Rows.grantLaterRow.recurses==Tryz.prog.recurses 7)=true:=by kernel_rfl
theorem grantLater_named:(Rows.grantLaterRow.named==Tryz.prog.varsNamed 7)=true:=by kernel_rfl
theorem grantLater_joined:joinedFacts Tryz.prog 7 Tryz.f7 Rows.grantLaterSpec Rows.grantLaterRow=true:=by
 unfold joinedFacts
 exact am (am (am (am (am (am (am (am (am (am (am (am (am (am (am (am (am (am (am (am (am (am (am (am (am (am (am (am (am (am (am (by kernel_rfl) (by kernel_rfl)) (by kernel_rfl)) (by kernel_rfl)) (by kernel_rfl)) (by kernel_rfl)) (by kernel_rfl)) (by kernel_rfl)) (by kernel_rfl)) grantLater_inPlace) grantLater_unf) grantLater_rec) grantLater_named) (by kernel_rfl)) (by kernel_rfl)) (by kernel_rfl)) (by kernel_rfl)) (by kernel_rfl)) (by kernel_rfl)) (by kernel_rfl)) (by kernel_rfl)) (by kernel_rfl)) (by kernel_rfl)) (by kernel_rfl)) (by kernel_rfl)) af9) (by rw [agc]; exact beq_self_eq_true _)) (by rw [anr]; exact beq_self_eq_true _)) (by kernel_rfl)) (by kernel_rfl)) (by kernel_rfl)) (by kernel_rfl)
theorem grantLater_holds:Rows.GrantLaterSaid:=
 OpenClaim.holds_of_wide 7 Tryz.f7 rfl rfl rfl rfl rfl rfl rfl ⟨rfl,rfl,rfl,rfl,rfl⟩ rfl rfl rfl rfl rfl (by kernel_rfl) Tryz.func7 grantLater_joined
  (of_decide_eq_true (by kernel_rfl)) (by unfold Func.isWrapper; first|(rw [if_pos (by decide+kernel)]; kernel_rfl)|(rw [if_neg (by decide+kernel)]; exact ⟨rfl,rfl⟩))
  (fun os started H enc _=>grantLater_lifted os started H enc)
end Go.Gm.Tryz
namespace Go.Proofs.YtmnfgajihkfahaaGreatDoor
open Go.Gm.Tryz
set_option maxRecDepth 100000 in
theorem grantLater_card_holds:Rows.GrantLaterCardSaid:=
 Claim7.holds_tied_plain_at .later [] [.data,.data,.data,.data,.pinned] true (true, "c50a2473247fd563652536c5189614d6c43fc7c925362f406516d21693885498") true
  grantLater_holds (fun _ h=>by cases h) (by kernel_rfl) (fun _ h=>by cases h) grantLater_row_tie rfl ⟨rfl,rfl⟩ anq rfl
  (fun f fn hf hfn=>by
   obtain rfl:f=7:=Option.some.inj ((show Tryz.prog.funcNamed "quinaria/quinarialaw06.GrantLater"=some 7 by kernel_rfl).symm.trans hf)|>.symm
   obtain rfl:fn=Tryz.f7:=(Option.some.inj (Tryz.func7.symm.trans hfn)).symm
   exact ⟨agv,fun j t ht=>by
    rw [Tryz.params7] at ht
    have hm:t∈ [28,3]:=by simpa using Array.mem_of_getElem? ht
    have hall:([28,3].all fun u=> !Tryz.prog.wantsStandIn u)=true:=by kernel_rfl
    exact (show Tryz.prog.wantsStandIn t=false by simpa using List.all_eq_true.1 hall t hm)⟩)
  (by kernel_rfl)
end Go.Proofs.YtmnfgajihkfahaaGreatDoor
end
end
