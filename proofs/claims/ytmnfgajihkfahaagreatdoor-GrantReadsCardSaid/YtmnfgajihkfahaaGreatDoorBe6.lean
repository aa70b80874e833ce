/- Part 6 of the proof: Gr10, Gr11. -/
import Derived.Test.YtmnfgajihkfahaaGreatDoorBe5
noncomputable section
section
namespace Go.Gm.Tryz
open Go.Proofs
def da:Value:=.slice none 0 0
end Go.Gm.Tryz
end
section
namespace Go.Gm.Tryz
open Go.Proofs
def UpR (H:GH) (l:BLoc) (b:Book) (day:Int) (x:GO) (H':GH):Prop:=match upS b day with
 | .inr s=>∃N sg O,H.next≤N∧x=.ret (.tuple #[.pointer (some (ga sg 0 0)),vi (-1)])∧eo H' N l b sg s O∧Wf b s∧Wg b s
 | .inl n=>∃sg,x=.ret (.tuple #[.pointer (some (ga sg 0 0)),vi n])
def nt (b:Book):Bool:=aq b&&(dw b).isNone
end Go.Gm.Tryz
end
end
