/- This file proves, with the files of this claim that it imports, that the statement TopGranted holds of the program for every input: joined layers 6 and 7 in a drought; no condition is added. -/
import Derived.Test.YthfchbkbhcageaaGreatDoorDa5
import Derived.JoinedOf
import Derived.Lib.LaidTab
import Derived.Test.YthfchbkbhcageaaGreatDoorCards
import Derived.Test.YthfchbkbhcageaaGreatDoorTie
import Derived.SevenTiedAt
noncomputable section
section
namespace Go.Gm.Tryz
open Go.Proofs Go.Proofs.YthfchbkbhcageaaGreatDoor Go.RowKit
theorem gPow:Tryz.prog.globalNamed "internal/strconv.uint64pow10"=some 0:=by kernel_rfl
theorem gPowT:(Tryz.prog.globals[0]?).map (·.type)=some 273:=by kernel_rfl
def laidL:List (String×DataW Unit):= [("math/bits.deBruijn32tab",Rows.laid_math_bits_deBruijn32tab),("math/bits.deBruijn64tab",Rows.laid_math_bits_deBruijn64tab),("internal/strconv.uint64pow10",Rows.laid_internal_strconv_uint64pow10)]
theorem pow_data:(Rows.laid_internal_strconv_uint64pow10:DataW Unit)=Lib.tabData .u64 Lib.pow10Tab:=by kernel_rfl
theorem tab_of {W:World} (h:laidMetH Tryz.prog laidL W):Lib.TabIs Tryz.prog W "internal/strconv.uint64pow10" .u64 Lib.pow10Tab:=by
 rw [MakeChecks.laidMetH_plain _ _ _ (by kernel_rfl)] at h
 obtain ⟨ps,⟨_,_,_,_,_,_,_,_,_,_,⟨_,_,_,_,_,_,_,_,_,_,⟨g,t,cs,fuel,p,q,hg,ht,hv,hd,_,_⟩,_⟩,_⟩,_⟩:=h
 obtain rfl:=Option.some.inj (gPow.symm.trans hg)
 obtain rfl:=Option.some.inj (gPowT.symm.trans ht)
 rw [pow_data] at hd
 unfold Lib.TabIs
 rw [hv,←Lib.cells_of_tab Tryz.underlying273 Tryz.underlying257 (by kernel_rfl) (by kernel_rfl) hd]
theorem fx_of {W:World} (h:laidMetH Tryz.prog laidL W):∃fx,(∀k r,(k,r)∈fx→W.heap[k]?=some r)∧FxOk fx:=by
 have ht:=tab_of h
 have h0:∃o,W.heap[0]?=some o:=by
  unfold Lib.TabIs World.var? at ht
  rw [gPow] at ht
  simp only [Option.bind_some] at ht
  cases hh:W.heap[0]? with
  |none=>rw [hh] at ht; cases ht
  |some o=>exact ⟨o,rfl⟩
 obtain ⟨o,h0⟩:=h0
 refine ⟨[(0,o)],?_,⟨fun w hw=>?_⟩⟩
 ·intro k r hk
  simp at hk
  obtain ⟨rfl,rfl⟩:=hk
  exact h0
 ·have:=hw 0 o (by simp)
  unfold Lib.TabIs World.var? at ht ⊢
  rw [gPow] at ht ⊢
  simp only [Option.bind_some] at ht ⊢
  rw [this]
  rw [h0] at ht
  exact ht
def ioL:List Nat:= [104,97,114,110,101,115,115,32,55,49,50,97,51,97,51,99,54,49,48,55,102,52,97,52,99,102,48,56,99,54,99,102,53,56,101,97,50,98,57,57,98,97,50,48,56,48,50,55,55,99,51,57,53,52,49,53,98,51,101,51,99,56,54,56,48,52,49,55,55,54,49,100,32,99,117,116,32,97,116,32,113,117,105,110,97,114,105,97,47,113,117,105,110,97,114,105,97,116,111,112,46,84,111,112,71,114,97,110,116,101,100]
def ioC:List Char:=ioL.map Char.ofNat
theorem io:Tryz.prog.initOrder.toList=ioC:=(congrArg String.toList (show Tryz.prog.initOrder=String.ofList (ioL.map Char.ofNat) from by kernel_rfl)).trans String.toList_ofList
def enterF (P:Program): { F:List Char→Bool//∀l,P.initOrder.toList=l→P.mayEnter=F l }:=⟨_,fun l h=>by unfold Program.mayEnter; rw [h]⟩
def finalF (P:Program): { F:List Char→Bool//∀l,P.initOrder.toList=l→P.liftsFinal=F l }:=⟨_,fun l h=>by unfold Program.liftsFinal Program.headLifts; rw [h]⟩
def makeF (P:Program): { F:List Char→Option Make//∀l,P.initOrder.toList=l→P.make=F l }:=⟨_,fun l h=>by unfold Program.make Program.headLifts; rw [h]⟩
def mainF (P:Program): { F:List Char→Option (Bool×List Char)//∀l,P.initOrder.toList=l→P.mainIs=F l }:=⟨_,fun l h=>by unfold Program.mainIs; rw [h]⟩
theorem enters:Tryz.prog.mayEnter=true:=((enterF Tryz.prog).2 _ io).trans (by kernel_rfl)
theorem finals:Tryz.prog.liftsFinal=Rows.topGrantedRow.lifted:=((finalF Tryz.prog).2 _ io).trans (by kernel_rfl)
theorem makes:Tryz.prog.make=some Rows.topGrantedRow.make:=((makeF Tryz.prog).2 _ io).trans (by kernel_rfl)
theorem mains:Tryz.prog.mainIs=some (true, "712a3a3c6107f4a4cf08c6cf58ea2b99ba2080277c395415b3e3c8680417761d".toList):=((mainF Tryz.prog).2 _ io).trans (by kernel_rfl)
theorem looksT:true=Tryz.prog.looks []:=by kernel_rfl
theorem topGranted_spec:LawSpec Rows.topGrantedSpec 3:=⟨rfl,fun H xs h=>by
 match xs,h with
 | [_,_,_],_=>rfl⟩
set_option maxRecDepth 100000 in
theorem topGranted_lifted (os:Os) (started:os.Started) (H:Type) (enc:TypeId×Value→H):
  ReturnsInHanded {} Tryz.checked os 3 .any (fun w args=>(Rows.topGrantedSpec.pre enc Tryz.prog Tryz.f3 [] false w args∧laidMetH Tryz.prog laidL w)∧sizedMet enc Tryz.prog Tryz.f3 (OpenSpec.ofChange Rows.topGrantedSpec) false w args)
   (Rows.topGrantedSpec.post enc Tryz.prog Tryz.f3 false true false false):=by
 refine returnsInHanded_shaped (C:=Tryz.checked) (X:=fun w _=>laidMetH Tryz.prog laidL w) (fun _ _ _ hh h=>h.of_heap hh) own started (by kernel_rfl) Tryz.func3
  (ChangeSpec.witness_shaped (enc:=enc) (C:=Tryz.checked) (os:=os) (X:=fun w _=>laidMetH Tryz.prog laidL w) false (World.laidAll Tryz.prog os laidL) #[.agg #[.slice none 0 0,.int .i64 0,.int .i64 0,.int .i64 0,.int .i64 0,.slice none 0 0,.slice none 0 0],.int .i64 0,.int .i64 0] 9 (World.laidAll_os _ _ _)
   (World.shaped_of_ZipB (by kernel_rfl) (by kernel_rfl)) (by kernel_rfl) (by kernel_rfl) (by kernel_rfl)
   (by rw [MakeChecks.laidMetH_plain _ _ _ (by kernel_rfl)]; exact laidMet_laidAll _ (by kernel_rfl) (by kernel_rfl))) ?_
 intro W base args ds gs before hsh hval _ hw hL
 obtain ⟨fx,hfx,hok⟩:=fx_of hL
 refine law_calls (P:=Tryz.prog) (fn:=Tryz.f3) (ds:= [dBook,dI,dI]) laidOut (by rw [Tryz.params3]; exact .cons fitBook (.cons fitI (.cons fitI .nil))) (by kernel_rfl) Tryz.underlying4 (by
  rw [Tryz.params3]
  intro t ht
  have hall:([28,3,3].all fun t=>Tryz.prog.readableRec t&&decide (t<Tryz.prog.types.size))=true:=by kernel_rfl
  have:=List.all_eq_true.1 hall t (by simpa using ht)
  simpa using this) topGranted_spec (fx:=fx) hfx ?_ hval hw
 intro G gss hG hLie
 have hfG:FxOk G.fx:=by rw [hG]; exact hok
 cases hLie with
 |cons h1 h2=>
 cases h2 with
 |cons h2 h3=>
 cases h3 with
 |cons h3 h4=>
 cases h4
 obtain ⟨l,b,e,hb,_,_,_⟩:=lie_book h1
 obtain ⟨n,rfl⟩:=lie_int h2
 obtain ⟨m,rfl⟩:=lie_int h3
 show GCall Tryz.prog 3 [argV dBook _,vi n,vi m] G _
 rw [e]
 exact (granted_law hfG hb n m).mono fun x _ h=>h.1
theorem topGranted_inPlace:(Rows.topGrantedRow.inPlace==Tryz.prog.inPlace 3)=true:=by kernel_rfl
theorem topGranted_unf:(Rows.topGrantedRow.unfollowed==Tryz.prog.unfollowed 3)=true:=by kernel_rfl
theorem topGranted_rec:(Rows.topGrantedRow.recurses==Tryz.prog.recurses 3)=true:=by kernel_rfl
theorem topGranted_named:(Rows.topGrantedRow.named==Tryz.prog.varsNamed 3)=true:=by kernel_rfl
theorem topGranted_joined:joinedFacts Tryz.prog 3 Tryz.f3 Rows.topGrantedSpec Rows.topGrantedRow=true:=by
 unfold joinedFacts
 exact and_tt (and_tt (and_tt (and_tt (and_tt (and_tt (and_tt (and_tt (and_tt (and_tt (and_tt (and_tt (and_tt (and_tt (and_tt (and_tt (and_tt (and_tt (and_tt (and_tt (and_tt (and_tt (and_tt (and_tt (and_tt (and_tt (and_tt (and_tt (and_tt (and_tt (and_tt (by kernel_rfl) (by kernel_rfl)) (by kernel_rfl)) (by kernel_rfl)) (by kernel_rfl)) (by kernel_rfl)) (by kernel_rfl)) (by kernel_rfl)) (by kernel_rfl)) topGranted_inPlace) topGranted_unf) topGranted_rec) topGranted_named) (by kernel_rfl)) (by kernel_rfl)) (by kernel_rfl)) (by kernel_rfl)) (by kernel_rfl)) (by kernel_rfl)) (by kernel_rfl)) (by kernel_rfl)) (by kernel_rfl)) (by kernel_rfl)) (by kernel_rfl)) (by kernel_rfl)) enters) (by rw [finals]; exact beq_self_eq_true _)) (by rw [makes]; exact beq_self_eq_true _)) (by kernel_rfl)) (by kernel_rfl)) (by kernel_rfl)) (by kernel_rfl)
theorem topGranted_holds:Rows.TopGrantedSaid:=
 OpenClaim.holds_of_wide 3 Tryz.f3 rfl rfl rfl rfl rfl rfl rfl ⟨rfl,rfl,rfl,rfl,rfl⟩ rfl rfl rfl rfl rfl (by kernel_rfl) Tryz.func3 topGranted_joined
  (of_decide_eq_true (by kernel_rfl)) (by unfold Func.isWrapper; first|(rw [if_pos (by decide+kernel)]; kernel_rfl)|(rw [if_neg (by decide+kernel)]; exact ⟨rfl,rfl⟩))
  (fun os started H enc _=>topGranted_lifted os started H enc)
end Go.Gm.Tryz
namespace Go.Proofs.YthfchbkbhcageaaGreatDoor
open Go.Gm.Tryz
set_option maxRecDepth 100000 in
theorem topGranted_card_holds:Rows.TopGrantedCardSaid:=
 Claim7.holds_tied_plain_at .later [] [.data,.data,.data] true (true, "712a3a3c6107f4a4cf08c6cf58ea2b99ba2080277c395415b3e3c8680417761d") true
  topGranted_holds (fun _ h=>by cases h) (by kernel_rfl) (fun _ h=>by cases h) topGranted_row_tie rfl ⟨rfl,rfl⟩ mains rfl
  (fun f fn hf hfn=>by
   obtain rfl:f=3:=Option.some.inj ((show Tryz.prog.funcNamed "quinaria/quinariatop.TopGranted"=some 3 by kernel_rfl).symm.trans hf)|>.symm
   obtain rfl:fn=Tryz.f3:=(Option.some.inj (Tryz.func3.symm.trans hfn)).symm
   exact ⟨looksT,fun j t ht=>by
    rw [Tryz.params3] at ht
    have hm:t∈ [28,3,3]:=by simpa using Array.mem_of_getElem? ht
    have hall:([28,3,3].all fun u=> !Tryz.prog.wantsStandIn u)=true:=by kernel_rfl
    exact (show Tryz.prog.wantsStandIn t=false by simpa using List.all_eq_true.1 hall t hm)⟩)
  (by kernel_rfl)
end Go.Proofs.YthfchbkbhcageaaGreatDoor
end
end
