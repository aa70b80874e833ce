/-
  NARROWER THAN 'FOR EVERY INPUT', by the rows' own cells (each row's printed sentence says how): GrantFirst: laid · GrantStates: laid · GrantNobody: laid · GrantFound: laid · GrantLater: laid · GrantWaters: laid · GrantKept: laid · GrantFells: laid · GrantBack: laid · GrantHolds: laid · GrantTruths: laid · GrantMays: laid · GrantLooks: laid · GrantRival: laid · GrantLess: laid · GrantWrongs: laid · GrantChosen: laid · GrantTrue: laid · GrantPrints: laid · GrantReads: laid · GrantSpoilt: laid.
  DERIVED. THE GIVEN ROWS OF THIS SEAT. 21 by the template 'for every input the law returns true; each argument reads behind the call as it read before'; 0 by the template 'total and deterministic' (their statements: YtmnfgajihkfahaaGreatDoorTotals.lean).
  GIVEN WITH THE SEED: the statements are not yours to turn. If you find one false, say at which input.
  Laid BY PROGRAM, IN A SANDBOX (cutbox-rows.mjs): the forced cells as the released guide's own fill.sh prints them over the translation 9d6934076bcc22c8… (all of the seat's roots in one cut). By AI agents, Wed Nov 11 2026. No macro, syntax, notation, axiom, sorry.
-/
import Derived.Test.YtmnfgajihkfahaaGreatDoorChecked
import GoSem.PinnedTables
import GoSem.Claim
import GoSem.ClaimJoined
import GoSem.ClaimMapViews
import Derived.JoinedTies
import Derived.KernelRfl
namespace Go.Proofs.YtmnfgajihkfahaaGreatDoor
/- THE CELL 'sum', in the pinned program and in every row, IS THE sha256 OF THE DUMP (.gsa) THAT YtmnfgajihkfahaaGreatDoorProg.lean LOADS. Nothing in Lean hashes anything: it is a label: what it is worth is what the hold of that sum in a sandbox is worth. -/
noncomputable def Tryz.pinned : Pinned := { name := "ytmnfgajihkfahaagreatdoor", sum := "9d6934076bcc22c8004a8b491c5965e346ef95da7d4b3e78b05a40fd328d02de", checked := Tryz.checked }
namespace Rows
def none {H : Type} : Left H := { results := [], args := [] }

/- WHAT THE LISTED PACKAGE-LEVEL VARIABLES READ AS WHEN THE CALL BEGINS. Each datum BY PROGRAM (the guide's laid-datum.mjs) off the statement by which the dump's own 'gosem.cut.vars' lays the variable. In a bare row this is a premise. The card (YtmnfgajihkfahaaGreatDoorCards.lean) ties it to the program's text. -/
def laid_math_bits_deBruijn32tab {H : Type} : DataW H := .agg [.lit (.int .u8 0), .lit (.int .u8 1), .lit (.int .u8 28), .lit (.int .u8 2), .lit (.int .u8 29), .lit (.int .u8 14), .lit (.int .u8 24), .lit (.int .u8 3), .lit (.int .u8 30), .lit (.int .u8 22), .lit (.int .u8 20), .lit (.int .u8 15), .lit (.int .u8 25), .lit (.int .u8 17), .lit (.int .u8 4), .lit (.int .u8 8), .lit (.int .u8 31), .lit (.int .u8 27), .lit (.int .u8 13), .lit (.int .u8 23), .lit (.int .u8 21), .lit (.int .u8 19), .lit (.int .u8 16), .lit (.int .u8 7), .lit (.int .u8 26), .lit (.int .u8 12), .lit (.int .u8 18), .lit (.int .u8 6), .lit (.int .u8 11), .lit (.int .u8 5), .lit (.int .u8 10), .lit (.int .u8 9)]
def laid_math_bits_deBruijn64tab {H : Type} : DataW H := .agg [.lit (.int .u8 0), .lit (.int .u8 1), .lit (.int .u8 56), .lit (.int .u8 2), .lit (.int .u8 57), .lit (.int .u8 49), .lit (.int .u8 28), .lit (.int .u8 3), .lit (.int .u8 61), .lit (.int .u8 58), .lit (.int .u8 42), .lit (.int .u8 50), .lit (.int .u8 38), .lit (.int .u8 29), .lit (.int .u8 17), .lit (.int .u8 4), .lit (.int .u8 62), .lit (.int .u8 47), .lit (.int .u8 59), .lit (.int .u8 36), .lit (.int .u8 45), .lit (.int .u8 43), .lit (.int .u8 51), .lit (.int .u8 22), .lit (.int .u8 53), .lit (.int .u8 39), .lit (.int .u8 33), .lit (.int .u8 30), .lit (.int .u8 24), .lit (.int .u8 18), .lit (.int .u8 12), .lit (.int .u8 5), .lit (.int .u8 63), .lit (.int .u8 55), .lit (.int .u8 48), .lit (.int .u8 27), .lit (.int .u8 60), .lit (.int .u8 41), .lit (.int .u8 37), .lit (.int .u8 16), .lit (.int .u8 46), .lit (.int .u8 35), .lit (.int .u8 44), .lit (.int .u8 21), .lit (.int .u8 52), .lit (.int .u8 32), .lit (.int .u8 23), .lit (.int .u8 11), .lit (.int .u8 54), .lit (.int .u8 26), .lit (.int .u8 40), .lit (.int .u8 15), .lit (.int .u8 34), .lit (.int .u8 20), .lit (.int .u8 31), .lit (.int .u8 10), .lit (.int .u8 25), .lit (.int .u8 14), .lit (.int .u8 19), .lit (.int .u8 9), .lit (.int .u8 13), .lit (.int .u8 8), .lit (.int .u8 7), .lit (.int .u8 6)]
def laid_internal_strconv_uint64pow10 {H : Type} : DataW H := .agg [.lit (.int .u64 1), .lit (.int .u64 10), .lit (.int .u64 100), .lit (.int .u64 1000), .lit (.int .u64 10000), .lit (.int .u64 100000), .lit (.int .u64 1000000), .lit (.int .u64 10000000), .lit (.int .u64 100000000), .lit (.int .u64 1000000000), .lit (.int .u64 10000000000), .lit (.int .u64 100000000000), .lit (.int .u64 1000000000000), .lit (.int .u64 10000000000000), .lit (.int .u64 100000000000000), .lit (.int .u64 1000000000000000), .lit (.int .u64 10000000000000000), .lit (.int .u64 100000000000000000), .lit (.int .u64 1000000000000000000), .lit (.int .u64 10000000000000000000)]
def laid_unicode_utf8_acceptRanges {H : Type} : DataW H := .agg [.agg [.lit (.int .u8 128), .lit (.int .u8 191)], .agg [.lit (.int .u8 160), .lit (.int .u8 191)], .agg [.lit (.int .u8 128), .lit (.int .u8 159)], .agg [.lit (.int .u8 144), .lit (.int .u8 191)], .agg [.lit (.int .u8 128), .lit (.int .u8 143)], .agg [.lit (.int .u8 0), .lit (.int .u8 0)], .agg [.lit (.int .u8 0), .lit (.int .u8 0)], .agg [.lit (.int .u8 0), .lit (.int .u8 0)], .agg [.lit (.int .u8 0), .lit (.int .u8 0)], .agg [.lit (.int .u8 0), .lit (.int .u8 0)], .agg [.lit (.int .u8 0), .lit (.int .u8 0)], .agg [.lit (.int .u8 0), .lit (.int .u8 0)], .agg [.lit (.int .u8 0), .lit (.int .u8 0)], .agg [.lit (.int .u8 0), .lit (.int .u8 0)], .agg [.lit (.int .u8 0), .lit (.int .u8 0)], .agg [.lit (.int .u8 0), .lit (.int .u8 0)]]
/-- One of Go's own tables, pinned by name: the form's constant. -/
def laid_unicode_utf8_first : DataW Unit := Go.Pinned.utf8First

/-- 'quinarialaw06.GrantFirst': WHATEVER THE INPUT: true; the input reads as it did. -/
def grantFirstSpec : ChangeSpec := { name := "grantFirst", fn := fun _ => fun
  | [d1, d2] => { results := [.lit (.bool true)], args := [d1, d2] }
  | _ => none }
def grantFirstRow : OpenClaim := { program := "ytmnfgajihkfahaagreatdoor", sum := "9d6934076bcc22c8004a8b491c5965e346ef95da7d4b3e78b05a40fd328d02de", func := "quinaria/quinarialaw06.GrantFirst", spec := "grantFirst", inPlace := ["internal/bytealg.CountString", "internal/bytealg.IndexByteString", "internal/bytealg.IndexString"], unfollowed := true, recurses := true, named := ["unicode/utf8.first", "unicode/utf8.acceptRanges", "internal/bytealg.MaxLen", "internal/strconv.uint64pow10", "math/bits.deBruijn32tab", "math/bits.deBruijn64tab"], plainKeys := false, apart := false, laid := [("math/bits.deBruijn32tab", laid_math_bits_deBruijn32tab), ("math/bits.deBruijn64tab", laid_math_bits_deBruijn64tab), ("internal/strconv.uint64pow10", laid_internal_strconv_uint64pow10), ("unicode/utf8.acceptRanges", laid_unicode_utf8_acceptRanges), ("unicode/utf8.first", laid_unicode_utf8_first)] }
def GrantFirstSaid : Prop := grantFirstRow.holds Tryz.pinned (OpenSpec.ofChange grantFirstSpec)

/-- ITS FALSE NEIGHBOUR: 'it returns false'. Refute it at one input. -/
def grantFirstWrong : ChangeSpec := { name := "grantFirst", fn := fun _ => fun
  | [d1, d2] => { results := [.lit (.bool false)], args := [d1, d2] }
  | _ => none }
def GrantFirstWrongFalsely : Prop := grantFirstRow.holds Tryz.pinned (OpenSpec.ofChange grantFirstWrong)

/-- 'quinarialaw06.GrantStates': WHATEVER THE INPUT: true; the input reads as it did. -/
def grantStatesSpec : ChangeSpec := { name := "grantStates", fn := fun _ => fun
  | [d1, d2] => { results := [.lit (.bool true)], args := [d1, d2] }
  | _ => none }
def grantStatesRow : OpenClaim := { program := "ytmnfgajihkfahaagreatdoor", sum := "9d6934076bcc22c8004a8b491c5965e346ef95da7d4b3e78b05a40fd328d02de", func := "quinaria/quinarialaw06.GrantStates", spec := "grantStates", inPlace := ["internal/bytealg.CountString", "internal/bytealg.IndexByteString", "internal/bytealg.IndexString"], unfollowed := true, recurses := true, named := ["unicode/utf8.first", "unicode/utf8.acceptRanges", "internal/bytealg.MaxLen", "internal/strconv.uint64pow10", "math/bits.deBruijn32tab", "math/bits.deBruijn64tab"], plainKeys := false, apart := false, laid := [("math/bits.deBruijn32tab", laid_math_bits_deBruijn32tab), ("math/bits.deBruijn64tab", laid_math_bits_deBruijn64tab), ("internal/strconv.uint64pow10", laid_internal_strconv_uint64pow10), ("unicode/utf8.acceptRanges", laid_unicode_utf8_acceptRanges), ("unicode/utf8.first", laid_unicode_utf8_first)] }
def GrantStatesSaid : Prop := grantStatesRow.holds Tryz.pinned (OpenSpec.ofChange grantStatesSpec)

/-- ITS FALSE NEIGHBOUR: 'it returns false'. Refute it at one input. -/
def grantStatesWrong : ChangeSpec := { name := "grantStates", fn := fun _ => fun
  | [d1, d2] => { results := [.lit (.bool false)], args := [d1, d2] }
  | _ => none }
def GrantStatesWrongFalsely : Prop := grantStatesRow.holds Tryz.pinned (OpenSpec.ofChange grantStatesWrong)

/-- 'quinarialaw06.GrantNobody': WHATEVER THE INPUT: true; the input reads as it did. -/
def grantNobodySpec : ChangeSpec := { name := "grantNobody", fn := fun _ => fun
  | [d1, d2] => { results := [.lit (.bool true)], args := [d1, d2] }
  | _ => none }
def grantNobodyRow : OpenClaim := { program := "ytmnfgajihkfahaagreatdoor", sum := "9d6934076bcc22c8004a8b491c5965e346ef95da7d4b3e78b05a40fd328d02de", func := "quinaria/quinarialaw06.GrantNobody", spec := "grantNobody", inPlace := ["internal/bytealg.CountString", "internal/bytealg.IndexByteString", "internal/bytealg.IndexString"], unfollowed := true, recurses := true, named := ["unicode/utf8.first", "unicode/utf8.acceptRanges", "internal/bytealg.MaxLen", "internal/strconv.uint64pow10", "math/bits.deBruijn32tab", "math/bits.deBruijn64tab"], plainKeys := false, apart := false, laid := [("math/bits.deBruijn32tab", laid_math_bits_deBruijn32tab), ("math/bits.deBruijn64tab", laid_math_bits_deBruijn64tab), ("internal/strconv.uint64pow10", laid_internal_strconv_uint64pow10), ("unicode/utf8.acceptRanges", laid_unicode_utf8_acceptRanges), ("unicode/utf8.first", laid_unicode_utf8_first)] }
def GrantNobodySaid : Prop := grantNobodyRow.holds Tryz.pinned (OpenSpec.ofChange grantNobodySpec)

/-- ITS FALSE NEIGHBOUR: 'it returns false'. Refute it at one input. -/
def grantNobodyWrong : ChangeSpec := { name := "grantNobody", fn := fun _ => fun
  | [d1, d2] => { results := [.lit (.bool false)], args := [d1, d2] }
  | _ => none }
def GrantNobodyWrongFalsely : Prop := grantNobodyRow.holds Tryz.pinned (OpenSpec.ofChange grantNobodyWrong)

/-- 'quinarialaw06.GrantFound': WHATEVER THE INPUT: true; the input reads as it did. -/
def grantFoundSpec : ChangeSpec := { name := "grantFound", fn := fun _ => fun
  | [d1, d2] => { results := [.lit (.bool true)], args := [d1, d2] }
  | _ => none }
def grantFoundRow : OpenClaim := { program := "ytmnfgajihkfahaagreatdoor", sum := "9d6934076bcc22c8004a8b491c5965e346ef95da7d4b3e78b05a40fd328d02de", func := "quinaria/quinarialaw06.GrantFound", spec := "grantFound", inPlace := ["internal/bytealg.CountString", "internal/bytealg.IndexByteString", "internal/bytealg.IndexString"], unfollowed := true, recurses := true, named := ["unicode/utf8.first", "unicode/utf8.acceptRanges", "internal/bytealg.MaxLen", "internal/strconv.uint64pow10", "math/bits.deBruijn32tab", "math/bits.deBruijn64tab"], plainKeys := false, apart := false, laid := [("math/bits.deBruijn32tab", laid_math_bits_deBruijn32tab), ("math/bits.deBruijn64tab", laid_math_bits_deBruijn64tab), ("internal/strconv.uint64pow10", laid_internal_strconv_uint64pow10), ("unicode/utf8.acceptRanges", laid_unicode_utf8_acceptRanges), ("unicode/utf8.first", laid_unicode_utf8_first)] }
def GrantFoundSaid : Prop := grantFoundRow.holds Tryz.pinned (OpenSpec.ofChange grantFoundSpec)

/-- ITS FALSE NEIGHBOUR: 'it returns false'. Refute it at one input. -/
def grantFoundWrong : ChangeSpec := { name := "grantFound", fn := fun _ => fun
  | [d1, d2] => { results := [.lit (.bool false)], args := [d1, d2] }
  | _ => none }
def GrantFoundWrongFalsely : Prop := grantFoundRow.holds Tryz.pinned (OpenSpec.ofChange grantFoundWrong)

/-- 'quinarialaw06.GrantLater': WHATEVER THE INPUT: true; the input reads as it did. -/
def grantLaterSpec : ChangeSpec := { name := "grantLater", fn := fun _ => fun
  | [d1, d2] => { results := [.lit (.bool true)], args := [d1, d2] }
  | _ => none }
def grantLaterRow : OpenClaim := { program := "ytmnfgajihkfahaagreatdoor", sum := "9d6934076bcc22c8004a8b491c5965e346ef95da7d4b3e78b05a40fd328d02de", func := "quinaria/quinarialaw06.GrantLater", spec := "grantLater", inPlace := ["internal/bytealg.CountString", "internal/bytealg.IndexByteString", "internal/bytealg.IndexString"], unfollowed := true, recurses := true, named := ["unicode/utf8.first", "unicode/utf8.acceptRanges", "internal/bytealg.MaxLen", "internal/strconv.uint64pow10", "math/bits.deBruijn32tab", "math/bits.deBruijn64tab"], plainKeys := false, apart := false, laid := [("math/bits.deBruijn32tab", laid_math_bits_deBruijn32tab), ("math/bits.deBruijn64tab", laid_math_bits_deBruijn64tab), ("internal/strconv.uint64pow10", laid_internal_strconv_uint64pow10), ("unicode/utf8.acceptRanges", laid_unicode_utf8_acceptRanges), ("unicode/utf8.first", laid_unicode_utf8_first)] }
def GrantLaterSaid : Prop := grantLaterRow.holds Tryz.pinned (OpenSpec.ofChange grantLaterSpec)

/-- ITS FALSE NEIGHBOUR: 'it returns false'. Refute it at one input. -/
def grantLaterWrong : ChangeSpec := { name := "grantLater", fn := fun _ => fun
  | [d1, d2] => { results := [.lit (.bool false)], args := [d1, d2] }
  | _ => none }
def GrantLaterWrongFalsely : Prop := grantLaterRow.holds Tryz.pinned (OpenSpec.ofChange grantLaterWrong)

/-- 'quinarialaw06.GrantWaters': WHATEVER THE INPUT: true; the input reads as it did. -/
def grantWatersSpec : ChangeSpec := { name := "grantWaters", fn := fun _ => fun
  | [d1, d2] => { results := [.lit (.bool true)], args := [d1, d2] }
  | _ => none }
def grantWatersRow : OpenClaim := { program := "ytmnfgajihkfahaagreatdoor", sum := "9d6934076bcc22c8004a8b491c5965e346ef95da7d4b3e78b05a40fd328d02de", func := "quinaria/quinarialaw06.GrantWaters", spec := "grantWaters", inPlace := ["internal/bytealg.CountString", "internal/bytealg.IndexByteString", "internal/bytealg.IndexString"], unfollowed := true, recurses := true, named := ["unicode/utf8.first", "unicode/utf8.acceptRanges", "internal/bytealg.MaxLen", "internal/strconv.uint64pow10", "math/bits.deBruijn32tab", "math/bits.deBruijn64tab"], plainKeys := false, apart := false, laid := [("math/bits.deBruijn32tab", laid_math_bits_deBruijn32tab), ("math/bits.deBruijn64tab", laid_math_bits_deBruijn64tab), ("internal/strconv.uint64pow10", laid_internal_strconv_uint64pow10), ("unicode/utf8.acceptRanges", laid_unicode_utf8_acceptRanges), ("unicode/utf8.first", laid_unicode_utf8_first)] }
def GrantWatersSaid : Prop := grantWatersRow.holds Tryz.pinned (OpenSpec.ofChange grantWatersSpec)

/-- ITS FALSE NEIGHBOUR: 'it returns false'. Refute it at one input. -/
def grantWatersWrong : ChangeSpec := { name := "grantWaters", fn := fun _ => fun
  | [d1, d2] => { results := [.lit (.bool false)], args := [d1, d2] }
  | _ => none }
def GrantWatersWrongFalsely : Prop := grantWatersRow.holds Tryz.pinned (OpenSpec.ofChange grantWatersWrong)

/-- 'quinarialaw06.GrantKept': WHATEVER THE INPUT: true; the input reads as it did. -/
def grantKeptSpec : ChangeSpec := { name := "grantKept", fn := fun _ => fun
  | [d1, d2] => { results := [.lit (.bool true)], args := [d1, d2] }
  | _ => none }
def grantKeptRow : OpenClaim := { program := "ytmnfgajihkfahaagreatdoor", sum := "9d6934076bcc22c8004a8b491c5965e346ef95da7d4b3e78b05a40fd328d02de", func := "quinaria/quinarialaw06.GrantKept", spec := "grantKept", inPlace := ["internal/bytealg.CountString", "internal/bytealg.IndexByteString", "internal/bytealg.IndexString"], unfollowed := true, recurses := true, named := ["unicode/utf8.first", "unicode/utf8.acceptRanges", "internal/bytealg.MaxLen", "internal/strconv.uint64pow10", "math/bits.deBruijn32tab", "math/bits.deBruijn64tab"], plainKeys := false, apart := false, laid := [("math/bits.deBruijn32tab", laid_math_bits_deBruijn32tab), ("math/bits.deBruijn64tab", laid_math_bits_deBruijn64tab), ("internal/strconv.uint64pow10", laid_internal_strconv_uint64pow10), ("unicode/utf8.acceptRanges", laid_unicode_utf8_acceptRanges), ("unicode/utf8.first", laid_unicode_utf8_first)] }
def GrantKeptSaid : Prop := grantKeptRow.holds Tryz.pinned (OpenSpec.ofChange grantKeptSpec)

/-- ITS FALSE NEIGHBOUR: 'it returns false'. Refute it at one input. -/
def grantKeptWrong : ChangeSpec := { name := "grantKept", fn := fun _ => fun
  | [d1, d2] => { results := [.lit (.bool false)], args := [d1, d2] }
  | _ => none }
def GrantKeptWrongFalsely : Prop := grantKeptRow.holds Tryz.pinned (OpenSpec.ofChange grantKeptWrong)

/-- 'quinarialaw06.GrantFells': WHATEVER THE INPUT: true; the input reads as it did. -/
def grantFellsSpec : ChangeSpec := { name := "grantFells", fn := fun _ => fun
  | [d1, d2, d3] => { results := [.lit (.bool true)], args := [d1, d2, d3] }
  | _ => none }
def grantFellsRow : OpenClaim := { program := "ytmnfgajihkfahaagreatdoor", sum := "9d6934076bcc22c8004a8b491c5965e346ef95da7d4b3e78b05a40fd328d02de", func := "quinaria/quinarialaw06.GrantFells", spec := "grantFells", inPlace := ["internal/bytealg.CountString", "internal/bytealg.IndexByteString", "internal/bytealg.IndexString"], unfollowed := true, recurses := true, named := ["unicode/utf8.first", "unicode/utf8.acceptRanges", "internal/bytealg.MaxLen", "internal/strconv.uint64pow10", "math/bits.deBruijn32tab", "math/bits.deBruijn64tab"], plainKeys := false, apart := false, laid := [("math/bits.deBruijn32tab", laid_math_bits_deBruijn32tab), ("math/bits.deBruijn64tab", laid_math_bits_deBruijn64tab), ("internal/strconv.uint64pow10", laid_internal_strconv_uint64pow10), ("unicode/utf8.acceptRanges", laid_unicode_utf8_acceptRanges), ("unicode/utf8.first", laid_unicode_utf8_first)] }
def GrantFellsSaid : Prop := grantFellsRow.holds Tryz.pinned (OpenSpec.ofChange grantFellsSpec)

/-- ITS FALSE NEIGHBOUR: 'it returns false'. Refute it at one input. -/
def grantFellsWrong : ChangeSpec := { name := "grantFells", fn := fun _ => fun
  | [d1, d2, d3] => { results := [.lit (.bool false)], args := [d1, d2, d3] }
  | _ => none }
def GrantFellsWrongFalsely : Prop := grantFellsRow.holds Tryz.pinned (OpenSpec.ofChange grantFellsWrong)

/-- 'quinarialaw06.GrantBack': WHATEVER THE INPUT: true; the input reads as it did. -/
def grantBackSpec : ChangeSpec := { name := "grantBack", fn := fun _ => fun
  | [d1, d2, d3, d4] => { results := [.lit (.bool true)], args := [d1, d2, d3, d4] }
  | _ => none }
def grantBackRow : OpenClaim := { program := "ytmnfgajihkfahaagreatdoor", sum := "9d6934076bcc22c8004a8b491c5965e346ef95da7d4b3e78b05a40fd328d02de", func := "quinaria/quinarialaw06.GrantBack", spec := "grantBack", inPlace := ["internal/bytealg.CountString", "internal/bytealg.IndexByteString", "internal/bytealg.IndexString"], unfollowed := true, recurses := true, named := ["unicode/utf8.first", "unicode/utf8.acceptRanges", "internal/bytealg.MaxLen", "internal/strconv.uint64pow10", "math/bits.deBruijn32tab", "math/bits.deBruijn64tab"], plainKeys := false, apart := false, laid := [("math/bits.deBruijn32tab", laid_math_bits_deBruijn32tab), ("math/bits.deBruijn64tab", laid_math_bits_deBruijn64tab), ("internal/strconv.uint64pow10", laid_internal_strconv_uint64pow10), ("unicode/utf8.acceptRanges", laid_unicode_utf8_acceptRanges), ("unicode/utf8.first", laid_unicode_utf8_first)] }
def GrantBackSaid : Prop := grantBackRow.holds Tryz.pinned (OpenSpec.ofChange grantBackSpec)

/-- ITS FALSE NEIGHBOUR: 'it returns false'. Refute it at one input. -/
def grantBackWrong : ChangeSpec := { name := "grantBack", fn := fun _ => fun
  | [d1, d2, d3, d4] => { results := [.lit (.bool false)], args := [d1, d2, d3, d4] }
  | _ => none }
def GrantBackWrongFalsely : Prop := grantBackRow.holds Tryz.pinned (OpenSpec.ofChange grantBackWrong)

/-- 'quinarialaw06.GrantHolds': WHATEVER THE INPUT: true; the input reads as it did. -/
def grantHoldsSpec : ChangeSpec := { name := "grantHolds", fn := fun _ => fun
  | [d1, d2, d3, d4] => { results := [.lit (.bool true)], args := [d1, d2, d3, d4] }
  | _ => none }
def grantHoldsRow : OpenClaim := { program := "ytmnfgajihkfahaagreatdoor", sum := "9d6934076bcc22c8004a8b491c5965e346ef95da7d4b3e78b05a40fd328d02de", func := "quinaria/quinarialaw06.GrantHolds", spec := "grantHolds", inPlace := ["internal/bytealg.CountString", "internal/bytealg.IndexByteString", "internal/bytealg.IndexString"], unfollowed := true, recurses := true, named := ["unicode/utf8.first", "unicode/utf8.acceptRanges", "internal/bytealg.MaxLen", "internal/strconv.uint64pow10", "math/bits.deBruijn32tab", "math/bits.deBruijn64tab"], plainKeys := false, apart := false, laid := [("math/bits.deBruijn32tab", laid_math_bits_deBruijn32tab), ("math/bits.deBruijn64tab", laid_math_bits_deBruijn64tab), ("internal/strconv.uint64pow10", laid_internal_strconv_uint64pow10), ("unicode/utf8.acceptRanges", laid_unicode_utf8_acceptRanges), ("unicode/utf8.first", laid_unicode_utf8_first)] }
def GrantHoldsSaid : Prop := grantHoldsRow.holds Tryz.pinned (OpenSpec.ofChange grantHoldsSpec)

/-- ITS FALSE NEIGHBOUR: 'it returns false'. Refute it at one input. -/
def grantHoldsWrong : ChangeSpec := { name := "grantHolds", fn := fun _ => fun
  | [d1, d2, d3, d4] => { results := [.lit (.bool false)], args := [d1, d2, d3, d4] }
  | _ => none }
def GrantHoldsWrongFalsely : Prop := grantHoldsRow.holds Tryz.pinned (OpenSpec.ofChange grantHoldsWrong)

/-- 'quinarialaw06.GrantTruths': WHATEVER THE INPUT: true; the input reads as it did. -/
def grantTruthsSpec : ChangeSpec := { name := "grantTruths", fn := fun _ => fun
  | [d1, d2] => { results := [.lit (.bool true)], args := [d1, d2] }
  | _ => none }
def grantTruthsRow : OpenClaim := { program := "ytmnfgajihkfahaagreatdoor", sum := "9d6934076bcc22c8004a8b491c5965e346ef95da7d4b3e78b05a40fd328d02de", func := "quinaria/quinarialaw06.GrantTruths", spec := "grantTruths", inPlace := ["internal/bytealg.CountString", "internal/bytealg.IndexByteString", "internal/bytealg.IndexString"], unfollowed := true, recurses := true, named := ["unicode/utf8.first", "unicode/utf8.acceptRanges", "internal/bytealg.MaxLen", "internal/strconv.uint64pow10", "math/bits.deBruijn32tab", "math/bits.deBruijn64tab"], plainKeys := false, apart := false, laid := [("math/bits.deBruijn32tab", laid_math_bits_deBruijn32tab), ("math/bits.deBruijn64tab", laid_math_bits_deBruijn64tab), ("internal/strconv.uint64pow10", laid_internal_strconv_uint64pow10), ("unicode/utf8.acceptRanges", laid_unicode_utf8_acceptRanges), ("unicode/utf8.first", laid_unicode_utf8_first)] }
def GrantTruthsSaid : Prop := grantTruthsRow.holds Tryz.pinned (OpenSpec.ofChange grantTruthsSpec)

/-- ITS FALSE NEIGHBOUR: 'it returns false'. Refute it at one input. -/
def grantTruthsWrong : ChangeSpec := { name := "grantTruths", fn := fun _ => fun
  | [d1, d2] => { results := [.lit (.bool false)], args := [d1, d2] }
  | _ => none }
def GrantTruthsWrongFalsely : Prop := grantTruthsRow.holds Tryz.pinned (OpenSpec.ofChange grantTruthsWrong)

/-- 'quinarialaw06.GrantMays': WHATEVER THE INPUT: true; the input reads as it did. -/
def grantMaysSpec : ChangeSpec := { name := "grantMays", fn := fun _ => fun
  | [d1, d2, d3, d4, d5] => { results := [.lit (.bool true)], args := [d1, d2, d3, d4, d5] }
  | _ => none }
def grantMaysRow : OpenClaim := { program := "ytmnfgajihkfahaagreatdoor", sum := "9d6934076bcc22c8004a8b491c5965e346ef95da7d4b3e78b05a40fd328d02de", func := "quinaria/quinarialaw06.GrantMays", spec := "grantMays", inPlace := ["internal/bytealg.CountString", "internal/bytealg.IndexByteString", "internal/bytealg.IndexString"], unfollowed := true, recurses := true, named := ["unicode/utf8.first", "unicode/utf8.acceptRanges", "internal/bytealg.MaxLen", "internal/strconv.uint64pow10", "math/bits.deBruijn32tab", "math/bits.deBruijn64tab"], plainKeys := false, apart := false, laid := [("math/bits.deBruijn32tab", laid_math_bits_deBruijn32tab), ("math/bits.deBruijn64tab", laid_math_bits_deBruijn64tab), ("internal/strconv.uint64pow10", laid_internal_strconv_uint64pow10), ("unicode/utf8.acceptRanges", laid_unicode_utf8_acceptRanges), ("unicode/utf8.first", laid_unicode_utf8_first)] }
def GrantMaysSaid : Prop := grantMaysRow.holds Tryz.pinned (OpenSpec.ofChange grantMaysSpec)

/-- ITS FALSE NEIGHBOUR: 'it returns false'. Refute it at one input. -/
def grantMaysWrong : ChangeSpec := { name := "grantMays", fn := fun _ => fun
  | [d1, d2, d3, d4, d5] => { results := [.lit (.bool false)], args := [d1, d2, d3, d4, d5] }
  | _ => none }
def GrantMaysWrongFalsely : Prop := grantMaysRow.holds Tryz.pinned (OpenSpec.ofChange grantMaysWrong)

/-- 'quinarialaw06.GrantLooks': WHATEVER THE INPUT: true; the input reads as it did. -/
def grantLooksSpec : ChangeSpec := { name := "grantLooks", fn := fun _ => fun
  | [d1, d2] => { results := [.lit (.bool true)], args := [d1, d2] }
  | _ => none }
def grantLooksRow : OpenClaim := { program := "ytmnfgajihkfahaagreatdoor", sum := "9d6934076bcc22c8004a8b491c5965e346ef95da7d4b3e78b05a40fd328d02de", func := "quinaria/quinarialaw06.GrantLooks", spec := "grantLooks", inPlace := ["internal/bytealg.CountString", "internal/bytealg.IndexByteString", "internal/bytealg.IndexString"], unfollowed := true, recurses := true, named := ["unicode/utf8.first", "unicode/utf8.acceptRanges", "internal/bytealg.MaxLen", "internal/strconv.uint64pow10", "math/bits.deBruijn32tab", "math/bits.deBruijn64tab"], plainKeys := false, apart := false, laid := [("math/bits.deBruijn32tab", laid_math_bits_deBruijn32tab), ("math/bits.deBruijn64tab", laid_math_bits_deBruijn64tab), ("internal/strconv.uint64pow10", laid_internal_strconv_uint64pow10), ("unicode/utf8.acceptRanges", laid_unicode_utf8_acceptRanges), ("unicode/utf8.first", laid_unicode_utf8_first)] }
def GrantLooksSaid : Prop := grantLooksRow.holds Tryz.pinned (OpenSpec.ofChange grantLooksSpec)

/-- ITS FALSE NEIGHBOUR: 'it returns false'. Refute it at one input. -/
def grantLooksWrong : ChangeSpec := { name := "grantLooks", fn := fun _ => fun
  | [d1, d2] => { results := [.lit (.bool false)], args := [d1, d2] }
  | _ => none }
def GrantLooksWrongFalsely : Prop := grantLooksRow.holds Tryz.pinned (OpenSpec.ofChange grantLooksWrong)

/-- 'quinarialaw06.GrantRival': WHATEVER THE INPUT: true; the input reads as it did. -/
def grantRivalSpec : ChangeSpec := { name := "grantRival", fn := fun _ => fun
  | [d1, d2, d3] => { results := [.lit (.bool true)], args := [d1, d2, d3] }
  | _ => none }
def grantRivalRow : OpenClaim := { program := "ytmnfgajihkfahaagreatdoor", sum := "9d6934076bcc22c8004a8b491c5965e346ef95da7d4b3e78b05a40fd328d02de", func := "quinaria/quinarialaw06.GrantRival", spec := "grantRival", inPlace := ["internal/bytealg.CountString", "internal/bytealg.IndexByteString", "internal/bytealg.IndexString"], unfollowed := true, recurses := true, named := ["unicode/utf8.first", "unicode/utf8.acceptRanges", "internal/bytealg.MaxLen", "internal/strconv.uint64pow10", "math/bits.deBruijn32tab", "math/bits.deBruijn64tab"], plainKeys := false, apart := false, laid := [("math/bits.deBruijn32tab", laid_math_bits_deBruijn32tab), ("math/bits.deBruijn64tab", laid_math_bits_deBruijn64tab), ("internal/strconv.uint64pow10", laid_internal_strconv_uint64pow10), ("unicode/utf8.acceptRanges", laid_unicode_utf8_acceptRanges), ("unicode/utf8.first", laid_unicode_utf8_first)] }
def GrantRivalSaid : Prop := grantRivalRow.holds Tryz.pinned (OpenSpec.ofChange grantRivalSpec)

/-- ITS FALSE NEIGHBOUR: 'it returns false'. Refute it at one input. -/
def grantRivalWrong : ChangeSpec := { name := "grantRival", fn := fun _ => fun
  | [d1, d2, d3] => { results := [.lit (.bool false)], args := [d1, d2, d3] }
  | _ => none }
def GrantRivalWrongFalsely : Prop := grantRivalRow.holds Tryz.pinned (OpenSpec.ofChange grantRivalWrong)

/-- 'quinarialaw06.GrantLess': WHATEVER THE INPUT: true; the input reads as it did. -/
def grantLessSpec : ChangeSpec := { name := "grantLess", fn := fun _ => fun
  | [d1, d2, d3, d4, d5, d6, d7] => { results := [.lit (.bool true)], args := [d1, d2, d3, d4, d5, d6, d7] }
  | _ => none }
def grantLessRow : OpenClaim := { program := "ytmnfgajihkfahaagreatdoor", sum := "9d6934076bcc22c8004a8b491c5965e346ef95da7d4b3e78b05a40fd328d02de", func := "quinaria/quinarialaw06.GrantLess", spec := "grantLess", inPlace := ["internal/bytealg.CountString", "internal/bytealg.IndexByteString", "internal/bytealg.IndexString"], unfollowed := true, recurses := true, named := ["unicode/utf8.first", "unicode/utf8.acceptRanges", "internal/bytealg.MaxLen", "internal/strconv.uint64pow10", "math/bits.deBruijn32tab", "math/bits.deBruijn64tab"], plainKeys := false, apart := false, laid := [("math/bits.deBruijn32tab", laid_math_bits_deBruijn32tab), ("math/bits.deBruijn64tab", laid_math_bits_deBruijn64tab), ("internal/strconv.uint64pow10", laid_internal_strconv_uint64pow10), ("unicode/utf8.acceptRanges", laid_unicode_utf8_acceptRanges), ("unicode/utf8.first", laid_unicode_utf8_first)] }
def GrantLessSaid : Prop := grantLessRow.holds Tryz.pinned (OpenSpec.ofChange grantLessSpec)

/-- ITS FALSE NEIGHBOUR: 'it returns false'. Refute it at one input. -/
def grantLessWrong : ChangeSpec := { name := "grantLess", fn := fun _ => fun
  | [d1, d2, d3, d4, d5, d6, d7] => { results := [.lit (.bool false)], args := [d1, d2, d3, d4, d5, d6, d7] }
  | _ => none }
def GrantLessWrongFalsely : Prop := grantLessRow.holds Tryz.pinned (OpenSpec.ofChange grantLessWrong)

/-- 'quinarialaw06.GrantWrongs': WHATEVER THE INPUT: true; the input reads as it did. -/
def grantWrongsSpec : ChangeSpec := { name := "grantWrongs", fn := fun _ => fun
  | [d] => { results := [.lit (.bool true)], args := [d] }
  | _ => none }
def grantWrongsRow : OpenClaim := { program := "ytmnfgajihkfahaagreatdoor", sum := "9d6934076bcc22c8004a8b491c5965e346ef95da7d4b3e78b05a40fd328d02de", func := "quinaria/quinarialaw06.GrantWrongs", spec := "grantWrongs", inPlace := ["internal/bytealg.CountString", "internal/bytealg.IndexByteString", "internal/bytealg.IndexString"], unfollowed := true, recurses := true, named := ["unicode/utf8.first", "unicode/utf8.acceptRanges", "internal/bytealg.MaxLen", "internal/strconv.uint64pow10", "math/bits.deBruijn32tab", "math/bits.deBruijn64tab"], plainKeys := false, apart := false, laid := [("math/bits.deBruijn32tab", laid_math_bits_deBruijn32tab), ("math/bits.deBruijn64tab", laid_math_bits_deBruijn64tab), ("internal/strconv.uint64pow10", laid_internal_strconv_uint64pow10), ("unicode/utf8.acceptRanges", laid_unicode_utf8_acceptRanges), ("unicode/utf8.first", laid_unicode_utf8_first)] }
def GrantWrongsSaid : Prop := grantWrongsRow.holds Tryz.pinned (OpenSpec.ofChange grantWrongsSpec)

/-- ITS FALSE NEIGHBOUR: 'it returns false'. Refute it at one input. -/
def grantWrongsWrong : ChangeSpec := { name := "grantWrongs", fn := fun _ => fun
  | [d] => { results := [.lit (.bool false)], args := [d] }
  | _ => none }
def GrantWrongsWrongFalsely : Prop := grantWrongsRow.holds Tryz.pinned (OpenSpec.ofChange grantWrongsWrong)

/-- 'quinarialaw06.GrantChosen': WHATEVER THE INPUT: true; the input reads as it did. -/
def grantChosenSpec : ChangeSpec := { name := "grantChosen", fn := fun _ => fun
  | [d1, d2, d3, d4, d5] => { results := [.lit (.bool true)], args := [d1, d2, d3, d4, d5] }
  | _ => none }
def grantChosenRow : OpenClaim := { program := "ytmnfgajihkfahaagreatdoor", sum := "9d6934076bcc22c8004a8b491c5965e346ef95da7d4b3e78b05a40fd328d02de", func := "quinaria/quinarialaw06.GrantChosen", spec := "grantChosen", inPlace := ["internal/bytealg.CountString", "internal/bytealg.IndexByteString", "internal/bytealg.IndexString"], unfollowed := true, recurses := true, named := ["unicode/utf8.first", "unicode/utf8.acceptRanges", "internal/bytealg.MaxLen", "internal/strconv.uint64pow10", "math/bits.deBruijn32tab", "math/bits.deBruijn64tab"], plainKeys := false, apart := false, laid := [("math/bits.deBruijn32tab", laid_math_bits_deBruijn32tab), ("math/bits.deBruijn64tab", laid_math_bits_deBruijn64tab), ("internal/strconv.uint64pow10", laid_internal_strconv_uint64pow10), ("unicode/utf8.acceptRanges", laid_unicode_utf8_acceptRanges), ("unicode/utf8.first", laid_unicode_utf8_first)] }
def GrantChosenSaid : Prop := grantChosenRow.holds Tryz.pinned (OpenSpec.ofChange grantChosenSpec)

/-- ITS FALSE NEIGHBOUR: 'it returns false'. Refute it at one input. -/
def grantChosenWrong : ChangeSpec := { name := "grantChosen", fn := fun _ => fun
  | [d1, d2, d3, d4, d5] => { results := [.lit (.bool false)], args := [d1, d2, d3, d4, d5] }
  | _ => none }
def GrantChosenWrongFalsely : Prop := grantChosenRow.holds Tryz.pinned (OpenSpec.ofChange grantChosenWrong)

/-- 'quinarialaw06.GrantTrue': WHATEVER THE INPUT: true; the input reads as it did. -/
def grantTrueSpec : ChangeSpec := { name := "grantTrue", fn := fun _ => fun
  | [d1, d2, d3, d4, d5, d6] => { results := [.lit (.bool true)], args := [d1, d2, d3, d4, d5, d6] }
  | _ => none }
def grantTrueRow : OpenClaim := { program := "ytmnfgajihkfahaagreatdoor", sum := "9d6934076bcc22c8004a8b491c5965e346ef95da7d4b3e78b05a40fd328d02de", func := "quinaria/quinarialaw06.GrantTrue", spec := "grantTrue", inPlace := ["internal/bytealg.CountString", "internal/bytealg.IndexByteString", "internal/bytealg.IndexString"], unfollowed := true, recurses := true, named := ["unicode/utf8.first", "unicode/utf8.acceptRanges", "internal/bytealg.MaxLen", "internal/strconv.uint64pow10", "math/bits.deBruijn32tab", "math/bits.deBruijn64tab"], plainKeys := false, apart := false, laid := [("math/bits.deBruijn32tab", laid_math_bits_deBruijn32tab), ("math/bits.deBruijn64tab", laid_math_bits_deBruijn64tab), ("internal/strconv.uint64pow10", laid_internal_strconv_uint64pow10), ("unicode/utf8.acceptRanges", laid_unicode_utf8_acceptRanges), ("unicode/utf8.first", laid_unicode_utf8_first)] }
def GrantTrueSaid : Prop := grantTrueRow.holds Tryz.pinned (OpenSpec.ofChange grantTrueSpec)

/-- ITS FALSE NEIGHBOUR: 'it returns false'. Refute it at one input. -/
def grantTrueWrong : ChangeSpec := { name := "grantTrue", fn := fun _ => fun
  | [d1, d2, d3, d4, d5, d6] => { results := [.lit (.bool false)], args := [d1, d2, d3, d4, d5, d6] }
  | _ => none }
def GrantTrueWrongFalsely : Prop := grantTrueRow.holds Tryz.pinned (OpenSpec.ofChange grantTrueWrong)

/-- 'quinarialaw06.GrantPrints': WHATEVER THE INPUT: true; the input reads as it did. -/
def grantPrintsSpec : ChangeSpec := { name := "grantPrints", fn := fun _ => fun
  | [d] => { results := [.lit (.bool true)], args := [d] }
  | _ => none }
def grantPrintsRow : OpenClaim := { program := "ytmnfgajihkfahaagreatdoor", sum := "9d6934076bcc22c8004a8b491c5965e346ef95da7d4b3e78b05a40fd328d02de", func := "quinaria/quinarialaw06.GrantPrints", spec := "grantPrints", inPlace := ["internal/bytealg.CountString", "internal/bytealg.IndexByteString", "internal/bytealg.IndexString"], unfollowed := true, recurses := true, named := ["unicode/utf8.first", "unicode/utf8.acceptRanges", "internal/bytealg.MaxLen", "internal/strconv.uint64pow10", "math/bits.deBruijn32tab", "math/bits.deBruijn64tab"], plainKeys := false, apart := false, laid := [("math/bits.deBruijn32tab", laid_math_bits_deBruijn32tab), ("math/bits.deBruijn64tab", laid_math_bits_deBruijn64tab), ("internal/strconv.uint64pow10", laid_internal_strconv_uint64pow10), ("unicode/utf8.acceptRanges", laid_unicode_utf8_acceptRanges), ("unicode/utf8.first", laid_unicode_utf8_first)] }
def GrantPrintsSaid : Prop := grantPrintsRow.holds Tryz.pinned (OpenSpec.ofChange grantPrintsSpec)

/-- ITS FALSE NEIGHBOUR: 'it returns false'. Refute it at one input. -/
def grantPrintsWrong : ChangeSpec := { name := "grantPrints", fn := fun _ => fun
  | [d] => { results := [.lit (.bool false)], args := [d] }
  | _ => none }
def GrantPrintsWrongFalsely : Prop := grantPrintsRow.holds Tryz.pinned (OpenSpec.ofChange grantPrintsWrong)

/-- 'quinarialaw06.GrantReads': WHATEVER THE INPUT: true; the input reads as it did. -/
def grantReadsSpec : ChangeSpec := { name := "grantReads", fn := fun _ => fun
  | [d1, d2] => { results := [.lit (.bool true)], args := [d1, d2] }
  | _ => none }
def grantReadsRow : OpenClaim := { program := "ytmnfgajihkfahaagreatdoor", sum := "9d6934076bcc22c8004a8b491c5965e346ef95da7d4b3e78b05a40fd328d02de", func := "quinaria/quinarialaw06.GrantReads", spec := "grantReads", inPlace := ["internal/bytealg.CountString", "internal/bytealg.IndexByteString", "internal/bytealg.IndexString"], unfollowed := true, recurses := true, named := ["unicode/utf8.first", "unicode/utf8.acceptRanges", "internal/bytealg.MaxLen", "internal/strconv.uint64pow10", "math/bits.deBruijn32tab", "math/bits.deBruijn64tab"], plainKeys := false, apart := false, laid := [("math/bits.deBruijn32tab", laid_math_bits_deBruijn32tab), ("math/bits.deBruijn64tab", laid_math_bits_deBruijn64tab), ("internal/strconv.uint64pow10", laid_internal_strconv_uint64pow10), ("unicode/utf8.acceptRanges", laid_unicode_utf8_acceptRanges), ("unicode/utf8.first", laid_unicode_utf8_first)] }
def GrantReadsSaid : Prop := grantReadsRow.holds Tryz.pinned (OpenSpec.ofChange grantReadsSpec)

/-- ITS FALSE NEIGHBOUR: 'it returns false'. Refute it at one input. -/
def grantReadsWrong : ChangeSpec := { name := "grantReads", fn := fun _ => fun
  | [d1, d2] => { results := [.lit (.bool false)], args := [d1, d2] }
  | _ => none }
def GrantReadsWrongFalsely : Prop := grantReadsRow.holds Tryz.pinned (OpenSpec.ofChange grantReadsWrong)

/-- 'quinarialaw06.GrantSpoilt': WHATEVER THE INPUT: true; the input reads as it did. -/
def grantSpoiltSpec : ChangeSpec := { name := "grantSpoilt", fn := fun _ => fun
  | [d1, d2, d3] => { results := [.lit (.bool true)], args := [d1, d2, d3] }
  | _ => none }
def grantSpoiltRow : OpenClaim := { program := "ytmnfgajihkfahaagreatdoor", sum := "9d6934076bcc22c8004a8b491c5965e346ef95da7d4b3e78b05a40fd328d02de", func := "quinaria/quinarialaw06.GrantSpoilt", spec := "grantSpoilt", inPlace := ["internal/bytealg.CountString", "internal/bytealg.IndexByteString", "internal/bytealg.IndexString"], unfollowed := true, recurses := true, named := ["unicode/utf8.first", "unicode/utf8.acceptRanges", "internal/bytealg.MaxLen", "internal/strconv.uint64pow10", "math/bits.deBruijn32tab", "math/bits.deBruijn64tab"], plainKeys := false, apart := false, laid := [("math/bits.deBruijn32tab", laid_math_bits_deBruijn32tab), ("math/bits.deBruijn64tab", laid_math_bits_deBruijn64tab), ("internal/strconv.uint64pow10", laid_internal_strconv_uint64pow10), ("unicode/utf8.acceptRanges", laid_unicode_utf8_acceptRanges), ("unicode/utf8.first", laid_unicode_utf8_first)] }
def GrantSpoiltSaid : Prop := grantSpoiltRow.holds Tryz.pinned (OpenSpec.ofChange grantSpoiltSpec)

/-- ITS FALSE NEIGHBOUR: 'it returns false'. Refute it at one input. -/
def grantSpoiltWrong : ChangeSpec := { name := "grantSpoilt", fn := fun _ => fun
  | [d1, d2, d3] => { results := [.lit (.bool false)], args := [d1, d2, d3] }
  | _ => none }
def GrantSpoiltWrongFalsely : Prop := grantSpoiltRow.holds Tryz.pinned (OpenSpec.ofChange grantSpoiltWrong)

/- THE SECOND FORM. 'bulk': how many values and letters a reading holds, each counted each time it is reached (what is shared counts as often as it is met; a slice's spare places count too). A statement '..UptoSaid' is the law's where the arguments, and the package variables that the reading takes, are together of bulk at most 1048576: NARROWER than '..Said'. Prove '..Said' where nothing that the law and all that it calls make is longer than what came in: it says more and counts as full. Else prove '..UptoSaid'. A law counts once. -/
mutual
def uptoBulk {H : Type} : DataW H → Nat
  | .lit (.string bytes) => bytes.length + 1
  | .lit _ => 1
  | .nil => 1
  | .ptr d => uptoBulk d + 1
  | .slice elems spare => uptoBulkAll elems + uptoBulkAll spare + 1
  | .agg parts => uptoBulkAll parts + 1
  | .iface _ d => uptoBulk d + 1
  | .map entries => uptoBulkEntries entries + 1
  | .held _ => 1
def uptoBulkAll {H : Type} : List (DataW H) → Nat
  | [] => 0
  | d :: r => uptoBulk d + uptoBulkAll r
def uptoBulkEntries {H : Type} : List (Lit × DataW H) → Nat
  | [] => 0
  | x :: r => uptoBulkEntry x + uptoBulkEntries r
def uptoBulkEntry {H : Type} : Lit × DataW H → Nat
  | (.string bytes, d) => bytes.length + uptoBulk d + 1
  | (_, d) => uptoBulk d + 1
 end
def uptoSmall : (H : Type) → List (DataW H) → Bool := fun _ ds => decide (uptoBulkAll ds ≤ 1048576)
def OpenSpec.upto (s : _root_.Go.ChangeSpec) : _root_.Go.OpenSpec := { _root_.Go.OpenSpec.ofChange s with cond := some uptoSmall }

/-- 'quinarialaw06.GrantFirst', WHERE WHAT IT READS IS OF BULK AT MOST 1048576: true; the input reads as it did. -/
def grantFirstUptoRow : OpenClaim := { program := "ytmnfgajihkfahaagreatdoor", sum := "9d6934076bcc22c8004a8b491c5965e346ef95da7d4b3e78b05a40fd328d02de", func := "quinaria/quinarialaw06.GrantFirst", spec := "grantFirst", inPlace := ["internal/bytealg.CountString", "internal/bytealg.IndexByteString", "internal/bytealg.IndexString"], unfollowed := true, recurses := true, named := ["unicode/utf8.first", "unicode/utf8.acceptRanges", "internal/bytealg.MaxLen", "internal/strconv.uint64pow10", "math/bits.deBruijn32tab", "math/bits.deBruijn64tab"], plainKeys := false, apart := false, laid := [("math/bits.deBruijn32tab", laid_math_bits_deBruijn32tab), ("math/bits.deBruijn64tab", laid_math_bits_deBruijn64tab), ("internal/strconv.uint64pow10", laid_internal_strconv_uint64pow10), ("unicode/utf8.acceptRanges", laid_unicode_utf8_acceptRanges), ("unicode/utf8.first", laid_unicode_utf8_first)], narrowed := true }
def GrantFirstUptoSaid : Prop := grantFirstUptoRow.holds Tryz.pinned (OpenSpec.upto grantFirstSpec)

/-- 'quinarialaw06.GrantStates', WHERE WHAT IT READS IS OF BULK AT MOST 1048576: true; the input reads as it did. -/
def grantStatesUptoRow : OpenClaim := { program := "ytmnfgajihkfahaagreatdoor", sum := "9d6934076bcc22c8004a8b491c5965e346ef95da7d4b3e78b05a40fd328d02de", func := "quinaria/quinarialaw06.GrantStates", spec := "grantStates", inPlace := ["internal/bytealg.CountString", "internal/bytealg.IndexByteString", "internal/bytealg.IndexString"], unfollowed := true, recurses := true, named := ["unicode/utf8.first", "unicode/utf8.acceptRanges", "internal/bytealg.MaxLen", "internal/strconv.uint64pow10", "math/bits.deBruijn32tab", "math/bits.deBruijn64tab"], plainKeys := false, apart := false, laid := [("math/bits.deBruijn32tab", laid_math_bits_deBruijn32tab), ("math/bits.deBruijn64tab", laid_math_bits_deBruijn64tab), ("internal/strconv.uint64pow10", laid_internal_strconv_uint64pow10), ("unicode/utf8.acceptRanges", laid_unicode_utf8_acceptRanges), ("unicode/utf8.first", laid_unicode_utf8_first)], narrowed := true }
def GrantStatesUptoSaid : Prop := grantStatesUptoRow.holds Tryz.pinned (OpenSpec.upto grantStatesSpec)

/-- 'quinarialaw06.GrantNobody', WHERE WHAT IT READS IS OF BULK AT MOST 1048576: true; the input reads as it did. -/
def grantNobodyUptoRow : OpenClaim := { program := "ytmnfgajihkfahaagreatdoor", sum := "9d6934076bcc22c8004a8b491c5965e346ef95da7d4b3e78b05a40fd328d02de", func := "quinaria/quinarialaw06.GrantNobody", spec := "grantNobody", inPlace := ["internal/bytealg.CountString", "internal/bytealg.IndexByteString", "internal/bytealg.IndexString"], unfollowed := true, recurses := true, named := ["unicode/utf8.first", "unicode/utf8.acceptRanges", "internal/bytealg.MaxLen", "internal/strconv.uint64pow10", "math/bits.deBruijn32tab", "math/bits.deBruijn64tab"], plainKeys := false, apart := false, laid := [("math/bits.deBruijn32tab", laid_math_bits_deBruijn32tab), ("math/bits.deBruijn64tab", laid_math_bits_deBruijn64tab), ("internal/strconv.uint64pow10", laid_internal_strconv_uint64pow10), ("unicode/utf8.acceptRanges", laid_unicode_utf8_acceptRanges), ("unicode/utf8.first", laid_unicode_utf8_first)], narrowed := true }
def GrantNobodyUptoSaid : Prop := grantNobodyUptoRow.holds Tryz.pinned (OpenSpec.upto grantNobodySpec)

/-- 'quinarialaw06.GrantFound', WHERE WHAT IT READS IS OF BULK AT MOST 1048576: true; the input reads as it did. -/
def grantFoundUptoRow : OpenClaim := { program := "ytmnfgajihkfahaagreatdoor", sum := "9d6934076bcc22c8004a8b491c5965e346ef95da7d4b3e78b05a40fd328d02de", func := "quinaria/quinarialaw06.GrantFound", spec := "grantFound", inPlace := ["internal/bytealg.CountString", "internal/bytealg.IndexByteString", "internal/bytealg.IndexString"], unfollowed := true, recurses := true, named := ["unicode/utf8.first", "unicode/utf8.acceptRanges", "internal/bytealg.MaxLen", "internal/strconv.uint64pow10", "math/bits.deBruijn32tab", "math/bits.deBruijn64tab"], plainKeys := false, apart := false, laid := [("math/bits.deBruijn32tab", laid_math_bits_deBruijn32tab), ("math/bits.deBruijn64tab", laid_math_bits_deBruijn64tab), ("internal/strconv.uint64pow10", laid_internal_strconv_uint64pow10), ("unicode/utf8.acceptRanges", laid_unicode_utf8_acceptRanges), ("unicode/utf8.first", laid_unicode_utf8_first)], narrowed := true }
def GrantFoundUptoSaid : Prop := grantFoundUptoRow.holds Tryz.pinned (OpenSpec.upto grantFoundSpec)

/-- 'quinarialaw06.GrantLater', WHERE WHAT IT READS IS OF BULK AT MOST 1048576: true; the input reads as it did. -/
def grantLaterUptoRow : OpenClaim := { program := "ytmnfgajihkfahaagreatdoor", sum := "9d6934076bcc22c8004a8b491c5965e346ef95da7d4b3e78b05a40fd328d02de", func := "quinaria/quinarialaw06.GrantLater", spec := "grantLater", inPlace := ["internal/bytealg.CountString", "internal/bytealg.IndexByteString", "internal/bytealg.IndexString"], unfollowed := true, recurses := true, named := ["unicode/utf8.first", "unicode/utf8.acceptRanges", "internal/bytealg.MaxLen", "internal/strconv.uint64pow10", "math/bits.deBruijn32tab", "math/bits.deBruijn64tab"], plainKeys := false, apart := false, laid := [("math/bits.deBruijn32tab", laid_math_bits_deBruijn32tab), ("math/bits.deBruijn64tab", laid_math_bits_deBruijn64tab), ("internal/strconv.uint64pow10", laid_internal_strconv_uint64pow10), ("unicode/utf8.acceptRanges", laid_unicode_utf8_acceptRanges), ("unicode/utf8.first", laid_unicode_utf8_first)], narrowed := true }
def GrantLaterUptoSaid : Prop := grantLaterUptoRow.holds Tryz.pinned (OpenSpec.upto grantLaterSpec)

/-- 'quinarialaw06.GrantWaters', WHERE WHAT IT READS IS OF BULK AT MOST 1048576: true; the input reads as it did. -/
def grantWatersUptoRow : OpenClaim := { program := "ytmnfgajihkfahaagreatdoor", sum := "9d6934076bcc22c8004a8b491c5965e346ef95da7d4b3e78b05a40fd328d02de", func := "quinaria/quinarialaw06.GrantWaters", spec := "grantWaters", inPlace := ["internal/bytealg.CountString", "internal/bytealg.IndexByteString", "internal/bytealg.IndexString"], unfollowed := true, recurses := true, named := ["unicode/utf8.first", "unicode/utf8.acceptRanges", "internal/bytealg.MaxLen", "internal/strconv.uint64pow10", "math/bits.deBruijn32tab", "math/bits.deBruijn64tab"], plainKeys := false, apart := false, laid := [("math/bits.deBruijn32tab", laid_math_bits_deBruijn32tab), ("math/bits.deBruijn64tab", laid_math_bits_deBruijn64tab), ("internal/strconv.uint64pow10", laid_internal_strconv_uint64pow10), ("unicode/utf8.acceptRanges", laid_unicode_utf8_acceptRanges), ("unicode/utf8.first", laid_unicode_utf8_first)], narrowed := true }
def GrantWatersUptoSaid : Prop := grantWatersUptoRow.holds Tryz.pinned (OpenSpec.upto grantWatersSpec)

/-- 'quinarialaw06.GrantKept', WHERE WHAT IT READS IS OF BULK AT MOST 1048576: true; the input reads as it did. -/
def grantKeptUptoRow : OpenClaim := { program := "ytmnfgajihkfahaagreatdoor", sum := "9d6934076bcc22c8004a8b491c5965e346ef95da7d4b3e78b05a40fd328d02de", func := "quinaria/quinarialaw06.GrantKept", spec := "grantKept", inPlace := ["internal/bytealg.CountString", "internal/bytealg.IndexByteString", "internal/bytealg.IndexString"], unfollowed := true, recurses := true, named := ["unicode/utf8.first", "unicode/utf8.acceptRanges", "internal/bytealg.MaxLen", "internal/strconv.uint64pow10", "math/bits.deBruijn32tab", "math/bits.deBruijn64tab"], plainKeys := false, apart := false, laid := [("math/bits.deBruijn32tab", laid_math_bits_deBruijn32tab), ("math/bits.deBruijn64tab", laid_math_bits_deBruijn64tab), ("internal/strconv.uint64pow10", laid_internal_strconv_uint64pow10), ("unicode/utf8.acceptRanges", laid_unicode_utf8_acceptRanges), ("unicode/utf8.first", laid_unicode_utf8_first)], narrowed := true }
def GrantKeptUptoSaid : Prop := grantKeptUptoRow.holds Tryz.pinned (OpenSpec.upto grantKeptSpec)

/-- 'quinarialaw06.GrantFells', WHERE WHAT IT READS IS OF BULK AT MOST 1048576: true; the input reads as it did. -/
def grantFellsUptoRow : OpenClaim := { program := "ytmnfgajihkfahaagreatdoor", sum := "9d6934076bcc22c8004a8b491c5965e346ef95da7d4b3e78b05a40fd328d02de", func := "quinaria/quinarialaw06.GrantFells", spec := "grantFells", inPlace := ["internal/bytealg.CountString", "internal/bytealg.IndexByteString", "internal/bytealg.IndexString"], unfollowed := true, recurses := true, named := ["unicode/utf8.first", "unicode/utf8.acceptRanges", "internal/bytealg.MaxLen", "internal/strconv.uint64pow10", "math/bits.deBruijn32tab", "math/bits.deBruijn64tab"], plainKeys := false, apart := false, laid := [("math/bits.deBruijn32tab", laid_math_bits_deBruijn32tab), ("math/bits.deBruijn64tab", laid_math_bits_deBruijn64tab), ("internal/strconv.uint64pow10", laid_internal_strconv_uint64pow10), ("unicode/utf8.acceptRanges", laid_unicode_utf8_acceptRanges), ("unicode/utf8.first", laid_unicode_utf8_first)], narrowed := true }
def GrantFellsUptoSaid : Prop := grantFellsUptoRow.holds Tryz.pinned (OpenSpec.upto grantFellsSpec)

/-- 'quinarialaw06.GrantBack', WHERE WHAT IT READS IS OF BULK AT MOST 1048576: true; the input reads as it did. -/
def grantBackUptoRow : OpenClaim := { program := "ytmnfgajihkfahaagreatdoor", sum := "9d6934076bcc22c8004a8b491c5965e346ef95da7d4b3e78b05a40fd328d02de", func := "quinaria/quinarialaw06.GrantBack", spec := "grantBack", inPlace := ["internal/bytealg.CountString", "internal/bytealg.IndexByteString", "internal/bytealg.IndexString"], unfollowed := true, recurses := true, named := ["unicode/utf8.first", "unicode/utf8.acceptRanges", "internal/bytealg.MaxLen", "internal/strconv.uint64pow10", "math/bits.deBruijn32tab", "math/bits.deBruijn64tab"], plainKeys := false, apart := false, laid := [("math/bits.deBruijn32tab", laid_math_bits_deBruijn32tab), ("math/bits.deBruijn64tab", laid_math_bits_deBruijn64tab), ("internal/strconv.uint64pow10", laid_internal_strconv_uint64pow10), ("unicode/utf8.acceptRanges", laid_unicode_utf8_acceptRanges), ("unicode/utf8.first", laid_unicode_utf8_first)], narrowed := true }
def GrantBackUptoSaid : Prop := grantBackUptoRow.holds Tryz.pinned (OpenSpec.upto grantBackSpec)

/-- 'quinarialaw06.GrantHolds', WHERE WHAT IT READS IS OF BULK AT MOST 1048576: true; the input reads as it did. -/
def grantHoldsUptoRow : OpenClaim := { program := "ytmnfgajihkfahaagreatdoor", sum := "9d6934076bcc22c8004a8b491c5965e346ef95da7d4b3e78b05a40fd328d02de", func := "quinaria/quinarialaw06.GrantHolds", spec := "grantHolds", inPlace := ["internal/bytealg.CountString", "internal/bytealg.IndexByteString", "internal/bytealg.IndexString"], unfollowed := true, recurses := true, named := ["unicode/utf8.first", "unicode/utf8.acceptRanges", "internal/bytealg.MaxLen", "internal/strconv.uint64pow10", "math/bits.deBruijn32tab", "math/bits.deBruijn64tab"], plainKeys := false, apart := false, laid := [("math/bits.deBruijn32tab", laid_math_bits_deBruijn32tab), ("math/bits.deBruijn64tab", laid_math_bits_deBruijn64tab), ("internal/strconv.uint64pow10", laid_internal_strconv_uint64pow10), ("unicode/utf8.acceptRanges", laid_unicode_utf8_acceptRanges), ("unicode/utf8.first", laid_unicode_utf8_first)], narrowed := true }
def GrantHoldsUptoSaid : Prop := grantHoldsUptoRow.holds Tryz.pinned (OpenSpec.upto grantHoldsSpec)

/-- 'quinarialaw06.GrantTruths', WHERE WHAT IT READS IS OF BULK AT MOST 1048576: true; the input reads as it did. -/
def grantTruthsUptoRow : OpenClaim := { program := "ytmnfgajihkfahaagreatdoor", sum := "9d6934076bcc22c8004a8b491c5965e346ef95da7d4b3e78b05a40fd328d02de", func := "quinaria/quinarialaw06.GrantTruths", spec := "grantTruths", inPlace := ["internal/bytealg.CountString", "internal/bytealg.IndexByteString", "internal/bytealg.IndexString"], unfollowed := true, recurses := true, named := ["unicode/utf8.first", "unicode/utf8.acceptRanges", "internal/bytealg.MaxLen", "internal/strconv.uint64pow10", "math/bits.deBruijn32tab", "math/bits.deBruijn64tab"], plainKeys := false, apart := false, laid := [("math/bits.deBruijn32tab", laid_math_bits_deBruijn32tab), ("math/bits.deBruijn64tab", laid_math_bits_deBruijn64tab), ("internal/strconv.uint64pow10", laid_internal_strconv_uint64pow10), ("unicode/utf8.acceptRanges", laid_unicode_utf8_acceptRanges), ("unicode/utf8.first", laid_unicode_utf8_first)], narrowed := true }
def GrantTruthsUptoSaid : Prop := grantTruthsUptoRow.holds Tryz.pinned (OpenSpec.upto grantTruthsSpec)

/-- 'quinarialaw06.GrantMays', WHERE WHAT IT READS IS OF BULK AT MOST 1048576: true; the input reads as it did. -/
def grantMaysUptoRow : OpenClaim := { program := "ytmnfgajihkfahaagreatdoor", sum := "9d6934076bcc22c8004a8b491c5965e346ef95da7d4b3e78b05a40fd328d02de", func := "quinaria/quinarialaw06.GrantMays", spec := "grantMays", inPlace := ["internal/bytealg.CountString", "internal/bytealg.IndexByteString", "internal/bytealg.IndexString"], unfollowed := true, recurses := true, named := ["unicode/utf8.first", "unicode/utf8.acceptRanges", "internal/bytealg.MaxLen", "internal/strconv.uint64pow10", "math/bits.deBruijn32tab", "math/bits.deBruijn64tab"], plainKeys := false, apart := false, laid := [("math/bits.deBruijn32tab", laid_math_bits_deBruijn32tab), ("math/bits.deBruijn64tab", laid_math_bits_deBruijn64tab), ("internal/strconv.uint64pow10", laid_internal_strconv_uint64pow10), ("unicode/utf8.acceptRanges", laid_unicode_utf8_acceptRanges), ("unicode/utf8.first", laid_unicode_utf8_first)], narrowed := true }
def GrantMaysUptoSaid : Prop := grantMaysUptoRow.holds Tryz.pinned (OpenSpec.upto grantMaysSpec)

/-- 'quinarialaw06.GrantLooks', WHERE WHAT IT READS IS OF BULK AT MOST 1048576: true; the input reads as it did. -/
def grantLooksUptoRow : OpenClaim := { program := "ytmnfgajihkfahaagreatdoor", sum := "9d6934076bcc22c8004a8b491c5965e346ef95da7d4b3e78b05a40fd328d02de", func := "quinaria/quinarialaw06.GrantLooks", spec := "grantLooks", inPlace := ["internal/bytealg.CountString", "internal/bytealg.IndexByteString", "internal/bytealg.IndexString"], unfollowed := true, recurses := true, named := ["unicode/utf8.first", "unicode/utf8.acceptRanges", "internal/bytealg.MaxLen", "internal/strconv.uint64pow10", "math/bits.deBruijn32tab", "math/bits.deBruijn64tab"], plainKeys := false, apart := false, laid := [("math/bits.deBruijn32tab", laid_math_bits_deBruijn32tab), ("math/bits.deBruijn64tab", laid_math_bits_deBruijn64tab), ("internal/strconv.uint64pow10", laid_internal_strconv_uint64pow10), ("unicode/utf8.acceptRanges", laid_unicode_utf8_acceptRanges), ("unicode/utf8.first", laid_unicode_utf8_first)], narrowed := true }
def GrantLooksUptoSaid : Prop := grantLooksUptoRow.holds Tryz.pinned (OpenSpec.upto grantLooksSpec)

/-- 'quinarialaw06.GrantRival', WHERE WHAT IT READS IS OF BULK AT MOST 1048576: true; the input reads as it did. -/
def grantRivalUptoRow : OpenClaim := { program := "ytmnfgajihkfahaagreatdoor", sum := "9d6934076bcc22c8004a8b491c5965e346ef95da7d4b3e78b05a40fd328d02de", func := "quinaria/quinarialaw06.GrantRival", spec := "grantRival", inPlace := ["internal/bytealg.CountString", "internal/bytealg.IndexByteString", "internal/bytealg.IndexString"], unfollowed := true, recurses := true, named := ["unicode/utf8.first", "unicode/utf8.acceptRanges", "internal/bytealg.MaxLen", "internal/strconv.uint64pow10", "math/bits.deBruijn32tab", "math/bits.deBruijn64tab"], plainKeys := false, apart := false, laid := [("math/bits.deBruijn32tab", laid_math_bits_deBruijn32tab), ("math/bits.deBruijn64tab", laid_math_bits_deBruijn64tab), ("internal/strconv.uint64pow10", laid_internal_strconv_uint64pow10), ("unicode/utf8.acceptRanges", laid_unicode_utf8_acceptRanges), ("unicode/utf8.first", laid_unicode_utf8_first)], narrowed := true }
def GrantRivalUptoSaid : Prop := grantRivalUptoRow.holds Tryz.pinned (OpenSpec.upto grantRivalSpec)

/-- 'quinarialaw06.GrantLess', WHERE WHAT IT READS IS OF BULK AT MOST 1048576: true; the input reads as it did. -/
def grantLessUptoRow : OpenClaim := { program := "ytmnfgajihkfahaagreatdoor", sum := "9d6934076bcc22c8004a8b491c5965e346ef95da7d4b3e78b05a40fd328d02de", func := "quinaria/quinarialaw06.GrantLess", spec := "grantLess", inPlace := ["internal/bytealg.CountString", "internal/bytealg.IndexByteString", "internal/bytealg.IndexString"], unfollowed := true, recurses := true, named := ["unicode/utf8.first", "unicode/utf8.acceptRanges", "internal/bytealg.MaxLen", "internal/strconv.uint64pow10", "math/bits.deBruijn32tab", "math/bits.deBruijn64tab"], plainKeys := false, apart := false, laid := [("math/bits.deBruijn32tab", laid_math_bits_deBruijn32tab), ("math/bits.deBruijn64tab", laid_math_bits_deBruijn64tab), ("internal/strconv.uint64pow10", laid_internal_strconv_uint64pow10), ("unicode/utf8.acceptRanges", laid_unicode_utf8_acceptRanges), ("unicode/utf8.first", laid_unicode_utf8_first)], narrowed := true }
def GrantLessUptoSaid : Prop := grantLessUptoRow.holds Tryz.pinned (OpenSpec.upto grantLessSpec)

/-- 'quinarialaw06.GrantWrongs', WHERE WHAT IT READS IS OF BULK AT MOST 1048576: true; the input reads as it did. -/
def grantWrongsUptoRow : OpenClaim := { program := "ytmnfgajihkfahaagreatdoor", sum := "9d6934076bcc22c8004a8b491c5965e346ef95da7d4b3e78b05a40fd328d02de", func := "quinaria/quinarialaw06.GrantWrongs", spec := "grantWrongs", inPlace := ["internal/bytealg.CountString", "internal/bytealg.IndexByteString", "internal/bytealg.IndexString"], unfollowed := true, recurses := true, named := ["unicode/utf8.first", "unicode/utf8.acceptRanges", "internal/bytealg.MaxLen", "internal/strconv.uint64pow10", "math/bits.deBruijn32tab", "math/bits.deBruijn64tab"], plainKeys := false, apart := false, laid := [("math/bits.deBruijn32tab", laid_math_bits_deBruijn32tab), ("math/bits.deBruijn64tab", laid_math_bits_deBruijn64tab), ("internal/strconv.uint64pow10", laid_internal_strconv_uint64pow10), ("unicode/utf8.acceptRanges", laid_unicode_utf8_acceptRanges), ("unicode/utf8.first", laid_unicode_utf8_first)], narrowed := true }
def GrantWrongsUptoSaid : Prop := grantWrongsUptoRow.holds Tryz.pinned (OpenSpec.upto grantWrongsSpec)

/-- 'quinarialaw06.GrantChosen', WHERE WHAT IT READS IS OF BULK AT MOST 1048576: true; the input reads as it did. -/
def grantChosenUptoRow : OpenClaim := { program := "ytmnfgajihkfahaagreatdoor", sum := "9d6934076bcc22c8004a8b491c5965e346ef95da7d4b3e78b05a40fd328d02de", func := "quinaria/quinarialaw06.GrantChosen", spec := "grantChosen", inPlace := ["internal/bytealg.CountString", "internal/bytealg.IndexByteString", "internal/bytealg.IndexString"], unfollowed := true, recurses := true, named := ["unicode/utf8.first", "unicode/utf8.acceptRanges", "internal/bytealg.MaxLen", "internal/strconv.uint64pow10", "math/bits.deBruijn32tab", "math/bits.deBruijn64tab"], plainKeys := false, apart := false, laid := [("math/bits.deBruijn32tab", laid_math_bits_deBruijn32tab), ("math/bits.deBruijn64tab", laid_math_bits_deBruijn64tab), ("internal/strconv.uint64pow10", laid_internal_strconv_uint64pow10), ("unicode/utf8.acceptRanges", laid_unicode_utf8_acceptRanges), ("unicode/utf8.first", laid_unicode_utf8_first)], narrowed := true }
def GrantChosenUptoSaid : Prop := grantChosenUptoRow.holds Tryz.pinned (OpenSpec.upto grantChosenSpec)

/-- 'quinarialaw06.GrantTrue', WHERE WHAT IT READS IS OF BULK AT MOST 1048576: true; the input reads as it did. -/
def grantTrueUptoRow : OpenClaim := { program := "ytmnfgajihkfahaagreatdoor", sum := "9d6934076bcc22c8004a8b491c5965e346ef95da7d4b3e78b05a40fd328d02de", func := "quinaria/quinarialaw06.GrantTrue", spec := "grantTrue", inPlace := ["internal/bytealg.CountString", "internal/bytealg.IndexByteString", "internal/bytealg.IndexString"], unfollowed := true, recurses := true, named := ["unicode/utf8.first", "unicode/utf8.acceptRanges", "internal/bytealg.MaxLen", "internal/strconv.uint64pow10", "math/bits.deBruijn32tab", "math/bits.deBruijn64tab"], plainKeys := false, apart := false, laid := [("math/bits.deBruijn32tab", laid_math_bits_deBruijn32tab), ("math/bits.deBruijn64tab", laid_math_bits_deBruijn64tab), ("internal/strconv.uint64pow10", laid_internal_strconv_uint64pow10), ("unicode/utf8.acceptRanges", laid_unicode_utf8_acceptRanges), ("unicode/utf8.first", laid_unicode_utf8_first)], narrowed := true }
def GrantTrueUptoSaid : Prop := grantTrueUptoRow.holds Tryz.pinned (OpenSpec.upto grantTrueSpec)

/-- 'quinarialaw06.GrantPrints', WHERE WHAT IT READS IS OF BULK AT MOST 1048576: true; the input reads as it did. -/
def grantPrintsUptoRow : OpenClaim := { program := "ytmnfgajihkfahaagreatdoor", sum := "9d6934076bcc22c8004a8b491c5965e346ef95da7d4b3e78b05a40fd328d02de", func := "quinaria/quinarialaw06.GrantPrints", spec := "grantPrints", inPlace := ["internal/bytealg.CountString", "internal/bytealg.IndexByteString", "internal/bytealg.IndexString"], unfollowed := true, recurses := true, named := ["unicode/utf8.first", "unicode/utf8.acceptRanges", "internal/bytealg.MaxLen", "internal/strconv.uint64pow10", "math/bits.deBruijn32tab", "math/bits.deBruijn64tab"], plainKeys := false, apart := false, laid := [("math/bits.deBruijn32tab", laid_math_bits_deBruijn32tab), ("math/bits.deBruijn64tab", laid_math_bits_deBruijn64tab), ("internal/strconv.uint64pow10", laid_internal_strconv_uint64pow10), ("unicode/utf8.acceptRanges", laid_unicode_utf8_acceptRanges), ("unicode/utf8.first", laid_unicode_utf8_first)], narrowed := true }
def GrantPrintsUptoSaid : Prop := grantPrintsUptoRow.holds Tryz.pinned (OpenSpec.upto grantPrintsSpec)

/-- 'quinarialaw06.GrantReads', WHERE WHAT IT READS IS OF BULK AT MOST 1048576: true; the input reads as it did. -/
def grantReadsUptoRow : OpenClaim := { program := "ytmnfgajihkfahaagreatdoor", sum := "9d6934076bcc22c8004a8b491c5965e346ef95da7d4b3e78b05a40fd328d02de", func := "quinaria/quinarialaw06.GrantReads", spec := "grantReads", inPlace := ["internal/bytealg.CountString", "internal/bytealg.IndexByteString", "internal/bytealg.IndexString"], unfollowed := true, recurses := true, named := ["unicode/utf8.first", "unicode/utf8.acceptRanges", "internal/bytealg.MaxLen", "internal/strconv.uint64pow10", "math/bits.deBruijn32tab", "math/bits.deBruijn64tab"], plainKeys := false, apart := false, laid := [("math/bits.deBruijn32tab", laid_math_bits_deBruijn32tab), ("math/bits.deBruijn64tab", laid_math_bits_deBruijn64tab), ("internal/strconv.uint64pow10", laid_internal_strconv_uint64pow10), ("unicode/utf8.acceptRanges", laid_unicode_utf8_acceptRanges), ("unicode/utf8.first", laid_unicode_utf8_first)], narrowed := true }
def GrantReadsUptoSaid : Prop := grantReadsUptoRow.holds Tryz.pinned (OpenSpec.upto grantReadsSpec)

/-- 'quinarialaw06.GrantSpoilt', WHERE WHAT IT READS IS OF BULK AT MOST 1048576: true; the input reads as it did. -/
def grantSpoiltUptoRow : OpenClaim := { program := "ytmnfgajihkfahaagreatdoor", sum := "9d6934076bcc22c8004a8b491c5965e346ef95da7d4b3e78b05a40fd328d02de", func := "quinaria/quinarialaw06.GrantSpoilt", spec := "grantSpoilt", inPlace := ["internal/bytealg.CountString", "internal/bytealg.IndexByteString", "internal/bytealg.IndexString"], unfollowed := true, recurses := true, named := ["unicode/utf8.first", "unicode/utf8.acceptRanges", "internal/bytealg.MaxLen", "internal/strconv.uint64pow10", "math/bits.deBruijn32tab", "math/bits.deBruijn64tab"], plainKeys := false, apart := false, laid := [("math/bits.deBruijn32tab", laid_math_bits_deBruijn32tab), ("math/bits.deBruijn64tab", laid_math_bits_deBruijn64tab), ("internal/strconv.uint64pow10", laid_internal_strconv_uint64pow10), ("unicode/utf8.acceptRanges", laid_unicode_utf8_acceptRanges), ("unicode/utf8.first", laid_unicode_utf8_first)], narrowed := true }
def GrantSpoiltUptoSaid : Prop := grantSpoiltUptoRow.holds Tryz.pinned (OpenSpec.upto grantSpoiltSpec)

end Rows
end Go.Proofs.YtmnfgajihkfahaaGreatDoor
