/- Part 3 of the proof: GmTryz, GmTryzOk, Gc1, Gc2, Gc3, Gc4, GmOwn, Gc5, Gc6, GmIter, Gc7, GmIter2, Gc8, Gc9, Gc10, Gc11, Gc12, Gc13, Gc14, Gc15, Gc16. -/
import Derived.Test.YtmnfgajihkfahaaGreatDoorBe2
import Derived.Test.YtmnfgajihkfahaaGreatDoorProg
import Derived.KernelRfl
noncomputable section
section
namespace Go.Gm.Tryz
open Go.Proofs
def r1:TRow:= { size:=1,bytes:=8,zero:= [.nilFunc],agg:=false,kind:=.other }
def r2:TRow:= { size:=1,bytes:=8,zero:= [.int .i64 0],agg:=false,kind:=(.int .i64) }
def r3:TRow:= { size:=1,bytes:=8,zero:= [.int .i64 0],agg:=false,kind:=(.int .i64) }
def r4:TRow:= { size:=1,bytes:=1,zero:= [.bool false],agg:=false,kind:=.bool }
def r5:TRow:= { size:=1,bytes:=1,zero:= [.int .u8 0],agg:=false,kind:=(.int .u8) }
def r6:TRow:= { size:=1,bytes:=1,zero:= [.int .u8 0],agg:=false,kind:=(.int .u8) }
def r7:TRow:= { size:=4,bytes:=24,zero:= [.int .i64 0,.int .i64 0,.bool false,.int .u8 0],agg:=true,kind:=(.struct [(0,2),(1,3),(2,4),(3,6)]),flat:=some [(.int .i64),(.int .i64),.bool,(.int .u8)],key:=true }
def r8:TRow:= { size:=4,bytes:=24,zero:= [.int .i64 0,.int .i64 0,.bool false,.int .u8 0],agg:=true,kind:=(.struct [(0,2),(1,3),(2,4),(3,6)]),flat:=some [(.int .i64),(.int .i64),.bool,(.int .u8)],key:=true,meths:= [("Error",230),("RuntimeError",231)] }
def r9:TRow:= { size:=1,bytes:=16,zero:= [.string ⟨#[]⟩],agg:=false,kind:=.str }
def r10:TRow:= { size:=1,bytes:=16,zero:= [.string ⟨#[]⟩],agg:=false,kind:=.str,meths:= [("Error",232),("RuntimeError",233)] }
def r11:TRow:= { size:=1,bytes:=16,zero:= [.string ⟨#[]⟩],agg:=false,kind:=.str,meths:= [("Error",234),("RuntimeError",235)] }
def r12:TRow:= { size:=1,bytes:=8,zero:= [.int .u64 0],agg:=false,kind:=(.int .u64) }
def r13:TRow:= { size:=2,bytes:=24,zero:= [.string ⟨#[]⟩,.int .u64 0],agg:=true,kind:=(.struct [(0,9),(1,12)]) }
def r14:TRow:= { size:=2,bytes:=24,zero:= [.string ⟨#[]⟩,.int .u64 0],agg:=true,kind:=(.struct [(0,9),(1,12)]),meths:= [("Error",236),("RuntimeError",237)] }
def r15:TRow:= { size:=1,bytes:=8,zero:= [.pointer none],agg:=false,kind:=(.ptr 273),meths:= [("Error",238),("RuntimeError",239)] }
def r16:TRow:= { size:=1,bytes:=8,zero:= [.pointer none],agg:=false,kind:=(.ptr 276),meths:= [("Error",240),("RuntimeError",241)] }
def r17:TRow:= { size:=1,bytes:=8,zero:= [.pointer none],agg:=false,kind:=(.ptr 284),meths:= [("Align",242)] }
def r18:TRow:= { size:=1,bytes:=8,zero:= [.pointer none],agg:=true,kind:=(.struct [(0,17)]) }
def r19:TRow:= { size:=1,bytes:=8,zero:= [.pointer none],agg:=true,kind:=(.struct [(0,17)]),meths:= [("Error",243),("RuntimeError",244)] }
def r20:TRow:= { size:=1,bytes:=16,zero:= [.nilIface],agg:=false,kind:=(.iface false) }
def r21:TRow:= { size:=1,bytes:=4,zero:= [.int .i32 0],agg:=false,kind:=(.int .i32) }
def r22:TRow:= { size:=1,bytes:=24,zero:= [.slice none 0 0],agg:=false,kind:=(.slice 157) }
def r23:TRow:= { size:=2,bytes:=32,zero:= [.slice none 0 0,.int .i64 0],agg:=true,kind:=(.struct [(0,22),(1,3)]) }
def r24:TRow:= { size:=2,bytes:=32,zero:= [.slice none 0 0,.int .i64 0],agg:=true,kind:=(.struct [(0,22),(1,3)]) }
def r25:TRow:= { size:=1,bytes:=24,zero:= [.slice none 0 0],agg:=false,kind:=(.slice 3) }
def r26:TRow:= { size:=1,bytes:=24,zero:= [.slice none 0 0],agg:=false,kind:=(.slice 57) }
def r27:TRow:= { size:=7,bytes:=104,zero:= [.slice none 0 0,.int .i64 0,.int .i64 0,.int .i64 0,.int .i64 0,.slice none 0 0,.slice none 0 0],agg:=true,kind:=(.struct [(0,24),(2,3),(3,3),(4,3),(5,25),(6,26)]) }
def r28:TRow:= { size:=7,bytes:=104,zero:= [.slice none 0 0,.int .i64 0,.int .i64 0,.int .i64 0,.int .i64 0,.slice none 0 0,.slice none 0 0],agg:=true,kind:=(.struct [(0,24),(2,3),(3,3),(4,3),(5,25),(6,26)]) }
def r29:TRow:= { size:=1,bytes:=8,zero:= [.nilFunc],agg:=false,kind:=.other }
def r30:TRow:= { size:=1,bytes:=8,zero:= [.nilFunc],agg:=false,kind:=.other }
def r31:TRow:= { size:=1,bytes:=8,zero:= [.int .i64 0],agg:=false,kind:=(.int .i64) }
def r33:TRow:= { size:=1,bytes:=8,zero:= [.nilFunc],agg:=false,kind:=.other }
def r34:TRow:= { size:=1,bytes:=8,zero:= [.nilFunc],agg:=false,kind:=.other }
def r35:TRow:= { size:=1,bytes:=8,zero:= [.nilFunc],agg:=false,kind:=.other }
def r36:TRow:= { size:=1,bytes:=24,zero:= [.slice none 0 0],agg:=false,kind:=(.slice 53) }
def r38:TRow:= { size:=1,bytes:=8,zero:= [.nilFunc],agg:=false,kind:=.other }
def r40:TRow:= { size:=1,bytes:=8,zero:= [.nilFunc],agg:=false,kind:=.other }
def r41:TRow:= { size:=1,bytes:=8,zero:= [.nilFunc],agg:=false,kind:=.other }
def r42:TRow:= { size:=1,bytes:=8,zero:= [.pointer none],agg:=false,kind:=(.ptr 47),meths:= [("Free",44),("Goes",144),("Used",43),("Water",92),("quinaria/quinariaref06.dies",187),("quinaria/quinariaref06.do",145),("quinaria/quinariaref06.end",183),("quinaria/quinariaref06.fits",184),("quinaria/quinariaref06.grant",186),("quinaria/quinariaref06.own",188),("quinaria/quinariaref06.owned",185),("quinaria/quinariaref06.pass",143),("quinaria/quinariaref06.serve",189)] }
def r43:TRow:= { size:=1,bytes:=8,zero:= [.nilFunc],agg:=false,kind:=.other }
def r44:TRow:= { size:=1,bytes:=8,zero:= [.nilFunc],agg:=false,kind:=.other }
def r45:TRow:= { size:=1,bytes:=24,zero:= [.slice none 0 0],agg:=false,kind:=(.slice 4) }
def r46:TRow:= { size:=16,bytes:=320,zero:= [.slice none 0 0,.int .i64 0,.int .i64 0,.int .i64 0,.int .i64 0,.slice none 0 0,.slice none 0 0,.slice none 0 0,.slice none 0 0,.slice none 0 0,.slice none 0 0,.slice none 0 0,.slice none 0 0,.slice none 0 0,.slice none 0 0,.slice none 0 0],agg:=true,kind:=(.struct [(0,28),(7,25),(8,25),(9,45),(10,25),(11,36),(12,25),(13,25),(14,25),(15,25)]) }
def r47:TRow:= { size:=16,bytes:=320,zero:= [.slice none 0 0,.int .i64 0,.int .i64 0,.int .i64 0,.int .i64 0,.slice none 0 0,.slice none 0 0,.slice none 0 0,.slice none 0 0,.slice none 0 0,.slice none 0 0,.slice none 0 0,.slice none 0 0,.slice none 0 0,.slice none 0 0,.slice none 0 0],agg:=true,kind:=(.struct [(0,28),(7,25),(8,25),(9,45),(10,25),(11,36),(12,25),(13,25),(14,25),(15,25)]) }
def r48:TRow:= { size:=1,bytes:=8,zero:= [.nilFunc],agg:=false,kind:=.other }
def r49:TRow:= { size:=1,bytes:=8,zero:= [.nilFunc],agg:=false,kind:=.other }
def r50:TRow:= { size:=1,bytes:=8,zero:= [.int .i64 0],agg:=false,kind:=(.int .i64) }
def r51:TRow:= { size:=1,bytes:=8,zero:= [.int .i64 0],agg:=false,kind:=(.int .i64) }
def r52:TRow:= { size:=5,bytes:=40,zero:= [.int .i64 0,.int .i64 0,.int .i64 0,.int .i64 0,.int .i64 0],agg:=true,kind:=(.struct [(0,50),(1,3),(2,3),(3,51),(4,3)]),flat:=some [(.int .i64),(.int .i64),(.int .i64),(.int .i64),(.int .i64)],key:=true }
def r53:TRow:= { size:=5,bytes:=40,zero:= [.int .i64 0,.int .i64 0,.int .i64 0,.int .i64 0,.int .i64 0],agg:=true,kind:=(.struct [(0,50),(1,3),(2,3),(3,51),(4,3)]),flat:=some [(.int .i64),(.int .i64),(.int .i64),(.int .i64),(.int .i64)],key:=true }
def r54:TRow:= { size:=1,bytes:=8,zero:= [.nilFunc],agg:=false,kind:=.other }
def r55:TRow:= { size:=1,bytes:=8,zero:= [.int .i64 0],agg:=false,kind:=(.int .i64) }
def r56:TRow:= { size:=8,bytes:=64,zero:= [.int .i64 0,.int .i64 0,.int .i64 0,.int .i64 0,.int .i64 0,.int .i64 0,.int .i64 0,.int .i64 0],agg:=true,kind:=(.struct [(0,55),(1,3),(2,3),(3,3),(4,3),(5,3),(6,51),(7,3)]),flat:=some [(.int .i64),(.int .i64),(.int .i64),(.int .i64),(.int .i64),(.int .i64),(.int .i64),(.int .i64)],key:=true }
def r57:TRow:= { size:=8,bytes:=64,zero:= [.int .i64 0,.int .i64 0,.int .i64 0,.int .i64 0,.int .i64 0,.int .i64 0,.int .i64 0,.int .i64 0],agg:=true,kind:=(.struct [(0,55),(1,3),(2,3),(3,3),(4,3),(5,3),(6,51),(7,3)]),flat:=some [(.int .i64),(.int .i64),(.int .i64),(.int .i64),(.int .i64),(.int .i64),(.int .i64),(.int .i64)],key:=true }
def r59:TRow:= { size:=1,bytes:=8,zero:= [.nilFunc],agg:=false,kind:=.other }
def r60:TRow:= { size:=1,bytes:=8,zero:= [.nilFunc],agg:=false,kind:=.other }
def r61:TRow:= { size:=1,bytes:=8,zero:= [.nilFunc],agg:=false,kind:=.other }
def r62:TRow:= { size:=1,bytes:=8,zero:= [.nilFunc],agg:=false,kind:=.other }
def r63:TRow:= { size:=1,bytes:=8,zero:= [.nilFunc],agg:=false,kind:=.other }
def r64:TRow:= { size:=1,bytes:=8,zero:= [.nilFunc],agg:=false,kind:=.other }
def r65:TRow:= { size:=2,bytes:=16,zero:= [.int .i64 0,.int .i64 0],agg:=true,kind:=(.struct [(0,3),(1,3)]),flat:=some [(.int .i64),(.int .i64)],key:=true }
def r66:TRow:= { size:=2,bytes:=16,zero:= [.int .i64 0,.int .i64 0],agg:=true,kind:=(.struct [(0,3),(1,3)]),flat:=some [(.int .i64),(.int .i64)],key:=true }
def r68:TRow:= { size:=1,bytes:=8,zero:= [.nilFunc],agg:=false,kind:=.other }
def r69:TRow:= { size:=1,bytes:=8,zero:= [.nilFunc],agg:=false,kind:=.other }
def r70:TRow:= { size:=1,bytes:=8,zero:= [.nilFunc],agg:=false,kind:=.other }
def r71:TRow:= { size:=1,bytes:=8,zero:= [.nilFunc],agg:=false,kind:=.other }
def r72:TRow:= { size:=1,bytes:=24,zero:= [.slice none 0 0],agg:=false,kind:=(.slice 88) }
def r73:TRow:= { size:=1,bytes:=8,zero:= [.nilFunc],agg:=false,kind:=.other }
def r74:TRow:= { size:=1,bytes:=8,zero:= [.nilFunc],agg:=false,kind:=.other }
def r75:TRow:= { size:=1,bytes:=8,zero:= [.nilFunc],agg:=false,kind:=.other }
def r76:TRow:= { size:=1,bytes:=24,zero:= [.slice none 0 0],agg:=false,kind:=(.slice 25) }
def r77:TRow:= { size:=1,bytes:=8,zero:= [.nilFunc],agg:=false,kind:=.other }
def r78:TRow:= { size:=1,bytes:=8,zero:= [.int .i64 0],agg:=false,kind:=(.int .i64) }
def r80:TRow:= { size:=1,bytes:=8,zero:= [.nilFunc],agg:=false,kind:=.other }
def r81:TRow:= { size:=1,bytes:=8,zero:= [.nilFunc],agg:=false,kind:=.other }
def r82:TRow:= { size:=1,bytes:=8,zero:= [.nilFunc],agg:=false,kind:=.other }
def r83:TRow:= { size:=1,bytes:=8,zero:= [.nilFunc],agg:=false,kind:=.other }
def r84:TRow:= { size:=1,bytes:=8,zero:= [.nilFunc],agg:=false,kind:=.other }
def r85:TRow:= { size:=1,bytes:=8,zero:= [.nilFunc],agg:=false,kind:=.other }
def r86:TRow:= { size:=1,bytes:=8,zero:= [.nilFunc],agg:=false,kind:=.other }
def r87:TRow:= { size:=2,bytes:=32,zero:= [.int .i64 0,.slice none 0 0],agg:=true,kind:=(.struct [(0,3),(1,26)]) }
def r88:TRow:= { size:=2,bytes:=32,zero:= [.int .i64 0,.slice none 0 0],agg:=true,kind:=(.struct [(0,3),(1,26)]) }
def r89:TRow:= { size:=1,bytes:=8,zero:= [.nilFunc],agg:=false,kind:=.other }
def r90:TRow:= { size:=1,bytes:=8,zero:= [.nilFunc],agg:=false,kind:=.other }
def r91:TRow:= { size:=1,bytes:=8,zero:= [.nilFunc],agg:=false,kind:=.other }
def r92:TRow:= { size:=1,bytes:=8,zero:= [.nilFunc],agg:=false,kind:=.other }
def r93:TRow:= { size:=1,bytes:=8,zero:= [.nilFunc],agg:=false,kind:=.other }
def r94:TRow:= { size:=1,bytes:=8,zero:= [.nilFunc],agg:=false,kind:=.other }
def r95:TRow:= { size:=1,bytes:=8,zero:= [.nilFunc],agg:=false,kind:=.other }
def r96:TRow:= { size:=1,bytes:=8,zero:= [.nilFunc],agg:=false,kind:=.other }
def r97:TRow:= { size:=1,bytes:=8,zero:= [.nilFunc],agg:=false,kind:=.other }
def r98:TRow:= { size:=1,bytes:=8,zero:= [.nilFunc],agg:=false,kind:=.other }
def bdm:TRow:= { size:=1,bytes:=8,zero:= [.nilFunc],agg:=false,kind:=.other }
def bdn:TRow:= { size:=1,bytes:=8,zero:= [.nilFunc],agg:=false,kind:=.other }
def bdo:TRow:= { size:=1,bytes:=8,zero:= [.nilFunc],agg:=false,kind:=.other }
def bdp:TRow:= { size:=1,bytes:=8,zero:= [.nilFunc],agg:=false,kind:=.other }
def bdq:TRow:= { size:=1,bytes:=8,zero:= [.nilFunc],agg:=false,kind:=.other }
def bdr:TRow:= { size:=1,bytes:=8,zero:= [.nilFunc],agg:=false,kind:=.other }
def bds:TRow:= { size:=1,bytes:=24,zero:= [.slice none 0 0],agg:=false,kind:=(.slice 5) }
def bdt:TRow:= { size:=1,bytes:=8,zero:= [.nilFunc],agg:=false,kind:=.other }
def bdu:TRow:= { size:=1,bytes:=8,zero:= [.nilFunc],agg:=false,kind:=.other }
def bdv:TRow:= { size:=1,bytes:=8,zero:= [.nilFunc],agg:=false,kind:=.other }
def bdw:TRow:= { size:=1,bytes:=8,zero:= [.nilFunc],agg:=false,kind:=.other }
def bdx:TRow:= { size:=1,bytes:=8,zero:= [.nilFunc],agg:=false,kind:=.other }
def bdy:TRow:= { size:=1,bytes:=8,zero:= [.nilFunc],agg:=false,kind:=.other }
def bdz:TRow:= { size:=1,bytes:=8,zero:= [.nilFunc],agg:=false,kind:=.other }
def a6b:TRow:= { size:=1,bytes:=8,zero:= [.pointer none],agg:=false,kind:=(.ptr 123),meths:= [("quinaria/grant.add",181),("quinaria/grant.ends",180),("quinaria/grant.exists",250),("quinaria/grant.fits",247),("quinaria/grant.free",89),("quinaria/grant.own",253),("quinaria/grant.pass",138),("quinaria/grant.serve",140),("quinaria/grant.water",146)] }
def bd0:TRow:= { size:=1,bytes:=8,zero:= [.nilFunc],agg:=false,kind:=.other }
def bd1:TRow:= { size:=1,bytes:=8,zero:= [.nilFunc],agg:=false,kind:=.other }
def a6c:TRow:= { size:=1,bytes:=8,zero:= [.map none],agg:=false,kind:=(.map 230 3) }
def a6d:TRow:= { size:=1,bytes:=24,zero:= [.slice none 0 0],agg:=false,kind:=(.slice 128) }
def bd2:TRow:= { size:=14,bytes:=256,zero:= [.slice none 0 0,.int .i64 0,.int .i64 0,.int .i64 0,.int .i64 0,.slice none 0 0,.slice none 0 0,.map none,.slice none 0 0,.slice none 0 0,.slice none 0 0,.slice none 0 0,.slice none 0 0,.slice none 0 0],agg:=true,kind:=(.struct [(0,28),(7,120),(8,45),(9,25),(10,36),(11,25),(12,25),(13,121)]) }
def a6e:TRow:= { size:=14,bytes:=256,zero:= [.slice none 0 0,.int .i64 0,.int .i64 0,.int .i64 0,.int .i64 0,.slice none 0 0,.slice none 0 0,.map none,.slice none 0 0,.slice none 0 0,.slice none 0 0,.slice none 0 0,.slice none 0 0,.slice none 0 0],agg:=true,kind:=(.struct [(0,28),(7,120),(8,45),(9,25),(10,36),(11,25),(12,25),(13,121)]) }
def bd3:TRow:= { size:=1,bytes:=8,zero:= [.nilFunc],agg:=false,kind:=.other }
def bd4:TRow:= { size:=1,bytes:=8,zero:= [.nilFunc],agg:=false,kind:=.other }
def bd5:TRow:= { size:=2,bytes:=16,zero:= [.int .i64 0,.int .i64 0],agg:=true,kind:=(.struct [(0,3),(1,3)]),flat:=some [(.int .i64),(.int .i64)],key:=true }
def a6f:TRow:= { size:=2,bytes:=16,zero:= [.int .i64 0,.int .i64 0],agg:=true,kind:=(.struct [(0,3),(1,3)]),flat:=some [(.int .i64),(.int .i64)],key:=true }
def bd6:TRow:= { size:=1,bytes:=8,zero:= [.nilFunc],agg:=false,kind:=.other }
def bd7:TRow:= { size:=1,bytes:=8,zero:= [.nilFunc],agg:=false,kind:=.other }
def bd8:TRow:= { size:=1,bytes:=8,zero:= [.nilFunc],agg:=false,kind:=.other }
def bd9:TRow:= { size:=1,bytes:=8,zero:= [.nilFunc],agg:=false,kind:=.other }
def a6g:TRow:= { size:=1,bytes:=8,zero:= [.nilFunc],agg:=false,kind:=.other }
def bea:TRow:= { size:=1,bytes:=8,zero:= [.nilFunc],agg:=false,kind:=.other }
def beb:TRow:= { size:=7,bytes:=72,zero:= [.slice none 0 0,.int .i64 0,.int .i64 0,.int .i64 0,.int .i64 0,.int .i64 0,.int .i64 0],agg:=true,kind:=(.struct [(0,24),(2,53)]) }
def a6h:TRow:= { size:=7,bytes:=72,zero:= [.slice none 0 0,.int .i64 0,.int .i64 0,.int .i64 0,.int .i64 0,.int .i64 0,.int .i64 0],agg:=true,kind:=(.struct [(0,24),(2,53)]),meths:= [("quinaria/grant.own",101),("quinaria/grant.turned",102)] }
def a6i:TRow:= { size:=2,bytes:=16,zero:= [.nilFunc,.nilFunc],agg:=true,kind:=(.arr 2 133) }
def bec:TRow:= { size:=1,bytes:=8,zero:= [.nilFunc],agg:=false,kind:=.other }
def bed:TRow:= { size:=1,bytes:=8,zero:= [.nilFunc],agg:=false,kind:=.other }
def bee:TRow:= { size:=1,bytes:=8,zero:= [.nilFunc],agg:=false,kind:=.other }
def bef:TRow:= { size:=1,bytes:=8,zero:= [.nilFunc],agg:=false,kind:=.other }
def beg:TRow:= { size:=1,bytes:=8,zero:= [.nilFunc],agg:=false,kind:=.other }
def beh:TRow:= { size:=8,bytes:=128,zero:= [.slice none 0 0,.slice none 0 0,.int .i64 0,.int .i64 0,.int .i64 0,.int .i64 0,.slice none 0 0,.slice none 0 0],agg:=true,kind:=(.struct [(0,25),(1,28)]) }
def a6j:TRow:= { size:=8,bytes:=128,zero:= [.slice none 0 0,.slice none 0 0,.int .i64 0,.int .i64 0,.int .i64 0,.int .i64 0,.slice none 0 0,.slice none 0 0],agg:=true,kind:=(.struct [(0,25),(1,28)]) }
def a6k:TRow:= { size:=1,bytes:=24,zero:= [.slice none 0 0],agg:=false,kind:=(.slice 147) }
def a6l:TRow:= { size:=4,bytes:=32,zero:= [.int .i64 0,.int .i64 0,.int .i64 0,.int .i64 0],agg:=true,kind:=(.arr 4 3) }
def a6m:TRow:= { size:=1,bytes:=24,zero:= [.slice none 0 0],agg:=false,kind:=(.slice 151) }
def bei:TRow:= { size:=1,bytes:=8,zero:= [.nilFunc],agg:=false,kind:=.other }
def bej:TRow:= { size:=2,bytes:=16,zero:= [.int .i64 0,.int .i64 0],agg:=true,kind:=(.struct [(0,3),(1,3)]),flat:=some [(.int .i64),(.int .i64)],key:=true }
def a6n:TRow:= { size:=2,bytes:=16,zero:= [.int .i64 0,.int .i64 0],agg:=true,kind:=(.struct [(0,3),(1,3)]),flat:=some [(.int .i64),(.int .i64)],key:=true }
def bek:TRow:= { size:=1,bytes:=8,zero:= [.nilFunc],agg:=false,kind:=.other }
def bel:TRow:= { size:=1,bytes:=8,zero:= [.nilFunc],agg:=false,kind:=.other }
def bem:TRow:= { size:=1,bytes:=8,zero:= [.nilFunc],agg:=false,kind:=.other }
def ben:TRow:= { size:=1,bytes:=8,zero:= [.nilFunc],agg:=false,kind:=.other }
def beo:TRow:= { size:=3,bytes:=24,zero:= [.int .i64 0,.int .i64 0,.int .i64 0],agg:=true,kind:=(.struct [(0,3),(1,3),(2,3)]),flat:=some [(.int .i64),(.int .i64),(.int .i64)],key:=true }
def a6o:TRow:= { size:=3,bytes:=24,zero:= [.int .i64 0,.int .i64 0,.int .i64 0],agg:=true,kind:=(.struct [(0,3),(1,3),(2,3)]),flat:=some [(.int .i64),(.int .i64),(.int .i64)],key:=true }
def bep:TRow:= { size:=1,bytes:=8,zero:= [.nilFunc],agg:=false,kind:=.other }
def ber:TRow:= { size:=1,bytes:=8,zero:= [.nilFunc],agg:=false,kind:=.other }
def a6p:TRow:= { size:=1,bytes:=24,zero:= [.slice none 0 0],agg:=false,kind:=(.slice 9) }
def bes:TRow:= { size:=1,bytes:=8,zero:= [.nilFunc],agg:=false,kind:=.other }
def bet:TRow:= { size:=1,bytes:=8,zero:= [.nilFunc],agg:=false,kind:=.other }
def beu:TRow:= { size:=1,bytes:=8,zero:= [.nilFunc],agg:=false,kind:=.other }
def bev:TRow:= { size:=1,bytes:=8,zero:= [.nilFunc],agg:=false,kind:=.other }
def bew:TRow:= { size:=1,bytes:=8,zero:= [.nilFunc],agg:=false,kind:=.other }
def bex:TRow:= { size:=1,bytes:=8,zero:= [.nilFunc],agg:=false,kind:=.other }
def bey:TRow:= { size:=1,bytes:=8,zero:= [.nilFunc],agg:=false,kind:=.other }
def bez:TRow:= { size:=1,bytes:=8,zero:= [.nilFunc],agg:=false,kind:=.other }
def be0:TRow:= { size:=1,bytes:=8,zero:= [.nilFunc],agg:=false,kind:=.other }
def be1:TRow:= { size:=1,bytes:=8,zero:= [.nilFunc],agg:=false,kind:=.other }
def be2:TRow:= { size:=1,bytes:=8,zero:= [.nilFunc],agg:=false,kind:=.other }
def be3:TRow:= { size:=1,bytes:=8,zero:= [.int .i64 0],agg:=true,kind:=(.struct [(0,3)]),flat:=some [(.int .i64)],key:=true }
def a6q:TRow:= { size:=1,bytes:=8,zero:= [.int .i64 0],agg:=true,kind:=(.struct [(0,3)]),flat:=some [(.int .i64)],key:=true }
def be4:TRow:= { size:=1,bytes:=16,zero:= [.string ⟨#[]⟩],agg:=true,kind:=(.struct [(0,9)]),flat:=some [.str],key:=true }
def be5:TRow:= { size:=1,bytes:=16,zero:= [.string ⟨#[]⟩],agg:=true,kind:=(.struct [(0,9)]),flat:=some [.str],key:=true }
def be6:TRow:= { size:=1,bytes:=8,zero:= [.nilFunc],agg:=false,kind:=.other }
def be7:TRow:= { size:=1,bytes:=8,zero:= [.nilFunc],agg:=false,kind:=.other }
def be8:TRow:= { size:=1,bytes:=16,zero:= [.nilIface],agg:=false,kind:=(.iface true) }
def be9:TRow:= { size:=1,bytes:=16,zero:= [.nilIface],agg:=false,kind:=(.iface true) }
def bfa:TRow:= { size:=1,bytes:=8,zero:= [.nilFunc],agg:=false,kind:=.other }
def bfb:TRow:= { size:=1,bytes:=8,zero:= [.nilFunc],agg:=false,kind:=.other }
def bfc:TRow:= { size:=1,bytes:=8,zero:= [.nilFunc],agg:=false,kind:=.other }
def bfd:TRow:= { size:=1,bytes:=8,zero:= [.nilFunc],agg:=false,kind:=.other }
def bfe:TRow:= { size:=1,bytes:=8,zero:= [.nilFunc],agg:=false,kind:=.other }
def bff:TRow:= { size:=1,bytes:=8,zero:= [.nilFunc],agg:=false,kind:=.other }
def bfg:TRow:= { size:=1,bytes:=8,zero:= [.nilFunc],agg:=false,kind:=.other }
def a6r:TRow:= { size:=1,bytes:=8,zero:= [.nilFunc],agg:=false,kind:=.other }
def bfh:TRow:= { size:=1,bytes:=8,zero:= [.nilFunc],agg:=false,kind:=.other }
def bfi:TRow:= { size:=1,bytes:=8,zero:= [.nilFunc],agg:=false,kind:=.other }
def bfj:TRow:= { size:=1,bytes:=8,zero:= [.nilFunc],agg:=false,kind:=.other }
def bfk:TRow:= { size:=1,bytes:=8,zero:= [.nilFunc],agg:=false,kind:=.other }
def bfl:TRow:= { size:=1,bytes:=8,zero:= [.nilFunc],agg:=false,kind:=.other }
def bfm:TRow:= { size:=1,bytes:=8,zero:= [.nilFunc],agg:=false,kind:=.other }
def bfn:TRow:= { size:=1,bytes:=8,zero:= [.nilFunc],agg:=false,kind:=.other }
def a6s:TRow:= { size:=1,bytes:=8,zero:= [.nilFunc],agg:=false,kind:=.other }
def bfo:TRow:= { size:=1,bytes:=8,zero:= [.nilFunc],agg:=false,kind:=.other }
def bfp:TRow:= { size:=1,bytes:=8,zero:= [.nilFunc],agg:=false,kind:=.other }
def bfq:TRow:= { size:=1,bytes:=24,zero:= [.slice none 0 0],agg:=false,kind:=(.slice 203) }
def bfr:TRow:= { size:=1,bytes:=8,zero:= [.nilFunc],agg:=false,kind:=.other }
def bfs:TRow:= { size:=1,bytes:=8,zero:= [.pointer none],agg:=false,kind:=(.ptr 57) }
def bft:TRow:= { size:=1,bytes:=8,zero:= [.pointer none],agg:=false,kind:=(.ptr 3) }
def bfu:TRow:= { size:=9,bytes:=144,zero:= [.string ⟨#[]⟩,.string ⟨#[]⟩,.string ⟨#[]⟩,.string ⟨#[]⟩,.string ⟨#[]⟩,.string ⟨#[]⟩,.string ⟨#[]⟩,.string ⟨#[]⟩,.string ⟨#[]⟩],agg:=true,kind:=(.arr 9 9) }
def bfv:TRow:= { size:=1,bytes:=8,zero:= [.nilFunc],agg:=false,kind:=.other }
def bfw:TRow:= { size:=1,bytes:=8,zero:= [.nilFunc],agg:=false,kind:=.other }
def bfx:TRow:= { size:=1,bytes:=8,zero:= [.nilFunc],agg:=false,kind:=.other }
def bfy:TRow:= { size:=1,bytes:=8,zero:= [.nilFunc],agg:=false,kind:=.other }
def bfz:TRow:= { size:=1,bytes:=8,zero:= [.nilFunc],agg:=false,kind:=.other }
def bf0:TRow:= { size:=1,bytes:=8,zero:= [.nilFunc],agg:=false,kind:=.other }
def bf1:TRow:= { size:=1,bytes:=8,zero:= [.nilFunc],agg:=false,kind:=.other }
def bf2:TRow:= { size:=1,bytes:=8,zero:= [.nilFunc],agg:=false,kind:=.other }
def bf3:TRow:= { size:=1,bytes:=8,zero:= [.nilFunc],agg:=false,kind:=.other }
def bf4:TRow:= { size:=1,bytes:=8,zero:= [.nilFunc],agg:=false,kind:=.other }
def bf5:TRow:= { size:=8,bytes:=64,zero:= [.int .i64 0,.int .i64 0,.int .i64 0,.int .i64 0,.int .i64 0,.int .i64 0,.int .i64 0,.int .i64 0],agg:=true,kind:=(.struct [(0,57)]) }
def a6t:TRow:= { size:=8,bytes:=64,zero:= [.int .i64 0,.int .i64 0,.int .i64 0,.int .i64 0,.int .i64 0,.int .i64 0,.int .i64 0,.int .i64 0],agg:=true,kind:=(.struct [(0,57)]),meths:= [("quinaria/grant.do",245),("quinaria/grant.goes",246)] }
def a6u:TRow:= { size:=8,bytes:=64,zero:= [.int .i64 0,.int .i64 0,.int .i64 0,.int .i64 0,.int .i64 0,.int .i64 0,.int .i64 0,.int .i64 0],agg:=true,kind:=(.struct [(0,57)]),meths:= [("quinaria/grant.do",248),("quinaria/grant.goes",249)] }
def a6v:TRow:= { size:=8,bytes:=64,zero:= [.int .i64 0,.int .i64 0,.int .i64 0,.int .i64 0,.int .i64 0,.int .i64 0,.int .i64 0,.int .i64 0],agg:=true,kind:=(.struct [(0,57)]),meths:= [("quinaria/grant.do",251),("quinaria/grant.goes",252)] }
def a6w:TRow:= { size:=8,bytes:=64,zero:= [.int .i64 0,.int .i64 0,.int .i64 0,.int .i64 0,.int .i64 0,.int .i64 0,.int .i64 0,.int .i64 0],agg:=true,kind:=(.struct [(0,57)]),meths:= [("quinaria/grant.do",254),("quinaria/grant.goes",255)] }
def a6x:TRow:= { size:=8,bytes:=64,zero:= [.int .i64 0,.int .i64 0,.int .i64 0,.int .i64 0,.int .i64 0,.int .i64 0,.int .i64 0,.int .i64 0],agg:=true,kind:=(.struct [(0,57)]),meths:= [("quinaria/grant.do",256),("quinaria/grant.goes",257)] }
def a6y:TRow:= { size:=8,bytes:=64,zero:= [.int .i64 0,.int .i64 0,.int .i64 0,.int .i64 0,.int .i64 0,.int .i64 0,.int .i64 0,.int .i64 0],agg:=true,kind:=(.struct [(0,57)]),meths:= [("quinaria/grant.do",258),("quinaria/grant.goes",259)] }
def a6z:TRow:= { size:=8,bytes:=64,zero:= [.int .i64 0,.int .i64 0,.int .i64 0,.int .i64 0,.int .i64 0,.int .i64 0,.int .i64 0,.int .i64 0],agg:=true,kind:=(.struct [(0,57)]),meths:= [("quinaria/grant.do",260),("quinaria/grant.goes",261)] }
def a60:TRow:= { size:=8,bytes:=64,zero:= [.int .i64 0,.int .i64 0,.int .i64 0,.int .i64 0,.int .i64 0,.int .i64 0,.int .i64 0,.int .i64 0],agg:=true,kind:=(.struct [(0,57)]),meths:= [("quinaria/grant.do",262),("quinaria/grant.goes",263)] }
def bf6:TRow:= { size:=1,bytes:=8,zero:= [.nilFunc],agg:=false,kind:=.other }
def bf7:TRow:= { size:=1,bytes:=8,zero:= [.nilFunc],agg:=false,kind:=.other }
def bf8:TRow:= { size:=1,bytes:=8,zero:= [.nilFunc],agg:=false,kind:=.other }
def bf9:TRow:= { size:=2,bytes:=16,zero:= [.int .i64 0,.int .i64 0],agg:=true,kind:=(.struct [(0,51),(1,3)]),flat:=some [(.int .i64),(.int .i64)],key:=true }
def a61:TRow:= { size:=2,bytes:=16,zero:= [.int .i64 0,.int .i64 0],agg:=true,kind:=(.struct [(0,51),(1,3)]),flat:=some [(.int .i64),(.int .i64)],key:=true }
def bga:TRow:= { size:=1,bytes:=8,zero:= [.nilFunc],agg:=false,kind:=.other }
def a62:TRow:= { size:=1,bytes:=8,zero:= [.nilFunc],agg:=false,kind:=.other }
def bgb:TRow:= { size:=1,bytes:=8,zero:= [.nilFunc],agg:=false,kind:=.other }
def bgc:TRow:= { size:=1,bytes:=8,zero:= [.nilFunc],agg:=false,kind:=.other }
def bgd:TRow:= { size:=1,bytes:=8,zero:= [.nilFunc],agg:=false,kind:=.other }
def a63:TRow:= { size:=1,bytes:=8,zero:= [.nilFunc],agg:=false,kind:=.other }
def bge:TRow:= { size:=3,bytes:=24,zero:= [.int .i64 0,.int .i64 0,.int .i64 0],agg:=true,kind:=(.struct [(0,157)]) }
def a64:TRow:= { size:=3,bytes:=24,zero:= [.int .i64 0,.int .i64 0,.int .i64 0],agg:=true,kind:=(.struct [(0,157)]),meths:= [("quinaria/nozzle.first",197),("quinaria/nozzle.second",198)] }
def a65:TRow:= { size:=2,bytes:=16,zero:= [.nilFunc,.nilFunc],agg:=true,kind:=(.arr 2 236) }
def bgf:TRow:= { size:=1,bytes:=8,zero:= [.pointer none],agg:=false,kind:=(.ptr 51) }
def bgg:TRow:= { size:=1,bytes:=8,zero:= [.nilFunc],agg:=false,kind:=.other }
def bgh:TRow:= { size:=1,bytes:=8,zero:= [.nilFunc],agg:=false,kind:=.other }
def bgi:TRow:= { size:=1,bytes:=8,zero:= [.nilFunc],agg:=false,kind:=.other }
def bgj:TRow:= { size:=1,bytes:=8,zero:= [.nilFunc],agg:=false,kind:=.other }
def bgk:TRow:= { size:=24,bytes:=24,zero:= [.int .u8 0,.int .u8 0,.int .u8 0,.int .u8 0,.int .u8 0,.int .u8 0,.int .u8 0,.int .u8 0,.int .u8 0,.int .u8 0,.int .u8 0,.int .u8 0,.int .u8 0,.int .u8 0,.int .u8 0,.int .u8 0,.int .u8 0,.int .u8 0,.int .u8 0,.int .u8 0,.int .u8 0,.int .u8 0,.int .u8 0,.int .u8 0],agg:=true,kind:=(.arr 24 5) }
def bgl:TRow:= { size:=1,bytes:=8,zero:= [.int .u64 0],agg:=false,kind:=(.int .u64) }
def bgm:TRow:= { size:=1,bytes:=8,zero:= [.nilFunc],agg:=false,kind:=.other }
def bgn:TRow:= { size:=1,bytes:=8,zero:= [.nilFunc],agg:=false,kind:=.other }
def bgo:TRow:= { size:=1,bytes:=8,zero:= [.nilFunc],agg:=false,kind:=.other }
def bgp:TRow:= { size:=1,bytes:=8,zero:= [.nilFunc],agg:=false,kind:=.other }
def bgq:TRow:= { size:=1,bytes:=8,zero:= [.nilFunc],agg:=false,kind:=.other }
def bgr:TRow:= { size:=1,bytes:=8,zero:= [.nilFunc],agg:=false,kind:=.other }
def bgs:TRow:= { size:=1,bytes:=8,zero:= [.nilFunc],agg:=false,kind:=.other }
def bgt:TRow:= { size:=1,bytes:=8,zero:= [.nilFunc],agg:=false,kind:=.other }
def bgu:TRow:= { size:=20,bytes:=160,zero:= [.int .u64 0,.int .u64 0,.int .u64 0,.int .u64 0,.int .u64 0,.int .u64 0,.int .u64 0,.int .u64 0,.int .u64 0,.int .u64 0,.int .u64 0,.int .u64 0,.int .u64 0,.int .u64 0,.int .u64 0,.int .u64 0,.int .u64 0,.int .u64 0,.int .u64 0,.int .u64 0],agg:=true,kind:=(.arr 20 246) }
def bgv:TRow:= { size:=1,bytes:=4,zero:= [.int .u32 0],agg:=false,kind:=(.int .u32) }
def bgw:TRow:= { size:=1,bytes:=8,zero:= [.int .u64 0],agg:=false,kind:=(.int .u64) }
def bgx:TRow:= { size:=1,bytes:=8,zero:= [.nilFunc],agg:=false,kind:=.other }
def bgy:TRow:= { size:=1,bytes:=8,zero:= [.nilFunc],agg:=false,kind:=.other }
def bgz:TRow:= { size:=2,bytes:=2,zero:= [.int .u8 0,.int .u8 0],agg:=true,kind:=(.struct [(0,5),(1,5)]),flat:=some [(.int .u8),(.int .u8)],key:=true }
def bg0:TRow:= { size:=2,bytes:=2,zero:= [.int .u8 0,.int .u8 0],agg:=true,kind:=(.struct [(0,5),(1,5)]),flat:=some [(.int .u8),(.int .u8)],key:=true }
def bg1:TRow:= { size:=32,bytes:=32,zero:= [.int .u8 0,.int .u8 0,.int .u8 0,.int .u8 0,.int .u8 0,.int .u8 0,.int .u8 0,.int .u8 0,.int .u8 0,.int .u8 0,.int .u8 0,.int .u8 0,.int .u8 0,.int .u8 0,.int .u8 0,.int .u8 0,.int .u8 0,.int .u8 0,.int .u8 0,.int .u8 0,.int .u8 0,.int .u8 0,.int .u8 0,.int .u8 0,.int .u8 0,.int .u8 0,.int .u8 0,.int .u8 0,.int .u8 0,.int .u8 0,.int .u8 0,.int .u8 0],agg:=true,kind:=(.arr 16 265) }
def bg2:TRow:= { size:=1,bytes:=8,zero:= [.nilFunc],agg:=false,kind:=.other }
def bg3:TRow:= { size:=32,bytes:=32,zero:= [.int .u8 0,.int .u8 0,.int .u8 0,.int .u8 0,.int .u8 0,.int .u8 0,.int .u8 0,.int .u8 0,.int .u8 0,.int .u8 0,.int .u8 0,.int .u8 0,.int .u8 0,.int .u8 0,.int .u8 0,.int .u8 0,.int .u8 0,.int .u8 0,.int .u8 0,.int .u8 0,.int .u8 0,.int .u8 0,.int .u8 0,.int .u8 0,.int .u8 0,.int .u8 0,.int .u8 0,.int .u8 0,.int .u8 0,.int .u8 0,.int .u8 0,.int .u8 0],agg:=true,kind:=(.arr 32 5) }
def bg4:TRow:= { size:=1,bytes:=8,zero:= [.nilFunc],agg:=false,kind:=.other }
def bg5:TRow:= { size:=4,bytes:=40,zero:= [.pointer none,.pointer none,.pointer none,.string ⟨#[]⟩],agg:=true,kind:=(.struct [(0,17),(1,17),(2,17),(3,9)]) }
def bg6:TRow:= { size:=4,bytes:=40,zero:= [.pointer none,.pointer none,.pointer none,.string ⟨#[]⟩],agg:=true,kind:=(.struct [(0,17),(1,17),(2,17),(3,9)]) }
def bg7:TRow:= { size:=0,bytes:=0,zero:= [],agg:=true,kind:=(.arr 0 16) }
def bg8:TRow:= { size:=1,bytes:=1,zero:= [.int .u8 0],agg:=false,kind:=(.int .u8) }
def bg9:TRow:= { size:=1,bytes:=1,zero:= [.int .u8 0],agg:=false,kind:=(.int .u8),meths:= [("String",264)] }
def bha:TRow:= { size:=1,bytes:=8,zero:= [.nilFunc],agg:=false,kind:=.other }
def bhb:TRow:= { size:=1,bytes:=8,zero:= [.pointer none],agg:=false,kind:=(.ptr 5) }
def bhc:TRow:= { size:=1,bytes:=4,zero:= [.int .i32 0],agg:=false,kind:=(.int .i32) }
def bhd:TRow:= { size:=1,bytes:=4,zero:= [.int .i32 0],agg:=false,kind:=(.int .i32) }
def bhe:TRow:= { size:=11,bytes:=48,zero:= [.int .u64 0,.int .u64 0,.int .u32 0,.int .u8 0,.int .u8 0,.int .u8 0,.int .u8 0,.nilFunc,.pointer none,.int .i32 0,.int .i32 0],agg:=true,kind:=(.struct [(0,12),(1,12),(2,258),(3,277),(4,5),(5,5),(6,278),(7,279),(8,280),(9,281),(10,282)]) }
def bhf:TRow:= { size:=11,bytes:=48,zero:= [.int .u64 0,.int .u64 0,.int .u32 0,.int .u8 0,.int .u8 0,.int .u8 0,.int .u8 0,.nilFunc,.pointer none,.int .i32 0,.int .i32 0],agg:=true,kind:=(.struct [(0,12),(1,12),(2,258),(3,277),(4,5),(5,5),(6,278),(7,279),(8,280),(9,281),(10,282)]) }
def bhg:TRow:= { size:=1,bytes:=8,zero:= [.pointer none],agg:=false,kind:=(.ptr 53) }
def bhh:TRow:= { size:=1,bytes:=8,zero:= [.pointer none],agg:=false,kind:=.other }
def T:Tab:=(.node (.node (.node (.node (.node (.node (.node (.node (.node .nil (some bgs) .nil) (some bd5) .nil) (some r63) (.node .nil (some bfi) .nil)) (some r31) (.node (.node .nil (some ber) .nil) (some r95) (.node .nil (some a6y) .nil))) (some r15) (.node (.node (.node (.node .nil (some bg4) .nil) (some beg) .nil) none (.node .nil (some bfx) .nil)) (some r47) (.node (.node .nil (some a6q) .nil) (some bdv) (.node .nil (some a65) .nil)))) (some r7) (.node (.node (.node (.node .nil (some beb) .nil) (some r71) (.node .nil (some bfp) .nil)) none (.node (.node .nil (some bex) .nil) (some bdo) (.node .nil (some bga) .nil))) (some r23) (.node (.node (.node (.node .nil (some bha) .nil) (some a6n) .nil) (some r87) (.node .nil (some bf3) .nil)) (some r55) (.node (.node .nil (some bfb) .nil) (some bd1) (.node .nil (some bgm) .nil))))) (some r3) (.node (.node (.node (.node (.node .nil (some bd8) .nil) none (.node .nil (some bfm) .nil)) (some r35) (.node (.node .nil (some beu) .nil) none (.node .nil (some bf7) .nil))) (some r19) (.node (.node (.node .nil (some a6l) .nil) (some r83) (.node .nil (some bf0) .nil)) (some r51) (.node (.node .nil (some be7) .nil) (some bdz) (.node .nil (some bgi) .nil)))) (some r11) (.node (.node (.node (.node .nil (some bec) .nil) (some r75) (.node .nil (some bft) .nil)) (some r43) (.node (.node .nil (some be0) .nil) (some bdr) (.node .nil (some bgd) .nil))) (some r27) (.node (.node (.node (.node .nil (some bhe) .nil) (some ben) .nil) (some r91) (.node .nil (some a6u) .nil)) (some r59) (.node (.node .nil (some bff) .nil) (some a6e) (.node .nil (some bgp) .nil)))))) (some r1) (.node (.node (.node (.node (.node (.node (.node .nil (some bgu) .nil) (some bd6) .nil) (some r65) (.node .nil (some bfk) .nil)) (some r33) (.node (.node .nil (some bes) .nil) (some r97) (.node .nil (some a60) .nil))) (some r17) (.node (.node (.node (.node .nil (some bg6) .nil) (some a6j) .nil) (some r81) .nil) (some r49) (.node (.node .nil (some be5) .nil) (some bdx) (.node .nil (some bgg) .nil)))) (some r9) (.node (.node (.node (.node (.node .nil (some bg0) .nil) (some a6i) .nil) (some r73) (.node .nil (some bfr) .nil)) (some r41) (.node (.node .nil (some bey) .nil) none (.node .nil (some bgb) .nil))) (some r25) (.node (.node (.node (.node .nil (some bhc) .nil) (some bel) .nil) (some r89) (.node .nil (some bf5) .nil)) (some r57) (.node (.node .nil (some bfd) .nil) (some a6d) .nil)))) (some r5) (.node (.node (.node (.node (.node (.node .nil (some bgx) .nil) (some a6g) .nil) (some r69) (.node .nil (some a6s) .nil)) none (.node (.node .nil (some bew) .nil) none (.node .nil (some bf9) .nil))) (some r21) (.node (.node (.node (.node .nil (some bg8) .nil) (some bei) .nil) (some r85) (.node .nil (some bf1) .nil)) (some r53) (.node (.node .nil (some be9) .nil) (some bd0) (.node .nil (some bgk) .nil)))) (some r13) (.node (.node (.node (.node (.node .nil (some bg3) .nil) (some bee) .nil) (some r77) (.node .nil (some bfv) .nil)) (some r45) (.node (.node .nil (some be2) .nil) (some bdt) (.node .nil (some bge) .nil))) (some r29) (.node (.node (.node (.node .nil (some bhg) .nil) (some a6o) .nil) (some r93) (.node .nil (some a6w) .nil)) (some r61) (.node (.node .nil (some a6r) .nil) (some bd3) (.node .nil (some bgq) .nil))))))) none (.node (.node (.node (.node (.node (.node (.node (.node .nil (some bgt) .nil) (some a6f) .nil) (some r64) (.node .nil (some bfj) .nil)) none (.node (.node .nil (some a6p) .nil) (some r96) (.node .nil (some a6z) .nil))) (some r16) (.node (.node (.node (.node .nil (some bg5) .nil) (some beh) .nil) (some r80) (.node .nil (some bfy) .nil)) (some r48) (.node (.node .nil (some be4) .nil) (some bdw) (.node .nil (some bgf) .nil)))) (some r8) (.node (.node (.node (.node (.node .nil (some bgz) .nil) (some a6h) .nil) (some r72) (.node .nil (some bfq) .nil)) (some r40) (.node .nil (some bdp) (.node .nil (some a62) .nil))) (some r24) (.node (.node (.node (.node .nil (some bhb) .nil) (some bek) .nil) (some r88) (.node .nil (some bf4) .nil)) (some r56) (.node (.node .nil (some bfc) .nil) (some a6c) (.node .nil (some bgn) .nil))))) (some r4) (.node (.node (.node (.node (.node (.node .nil (some bgw) .nil) (some bd9) .nil) (some r68) (.node .nil (some bfn) .nil)) (some r36) (.node (.node .nil (some bev) .nil) (some bdm) (.node .nil (some bf8) .nil))) (some r20) (.node (.node (.node .nil (some a6m) .nil) (some r84) .nil) (some r52) (.node (.node .nil (some be8) .nil) (some a6b) (.node .nil (some bgj) .nil)))) (some r12) (.node (.node (.node (.node (.node .nil (some bg2) .nil) (some bed) .nil) (some r76) (.node .nil (some bfu) .nil)) (some r44) (.node (.node .nil (some be1) .nil) (some bds) (.node .nil (some a63) .nil))) (some r28) (.node (.node (.node (.node .nil (some bhf) .nil) (some beo) .nil) (some r92) (.node .nil (some a6v) .nil)) (some r60) (.node (.node .nil (some bfg) .nil) none .nil))))) (some r2) (.node (.node (.node (.node (.node (.node (.node .nil (some bgv) .nil) (some bd7) .nil) (some r66) (.node .nil (some bfl) .nil)) (some r34) (.node (.node .nil (some bet) .nil) (some r98) (.node .nil (some bf6) .nil))) (some r18) (.node (.node (.node (.node .nil (some bg7) .nil) (some a6k) .nil) (some r82) (.node .nil (some bfz) .nil)) (some r50) (.node (.node .nil (some be6) .nil) (some bdy) (.node .nil (some bgh) .nil)))) (some r10) (.node (.node (.node (.node (.node .nil (some bg1) .nil) none .nil) (some r74) (.node .nil (some bfs) .nil)) (some r42) (.node (.node .nil (some bez) .nil) (some bdq) (.node .nil (some bgc) .nil))) (some r26) (.node (.node (.node (.node .nil (some bhd) .nil) (some bem) .nil) (some r90) (.node .nil (some a6t) .nil)) none (.node (.node .nil (some bfe) .nil) (some bd2) (.node .nil (some bgo) .nil))))) (some r6) (.node (.node (.node (.node (.node (.node .nil (some bgy) .nil) (some bea) .nil) (some r70) (.node .nil (some bfo) .nil)) (some r38) (.node .nil (some bdn) (.node .nil (some a61) .nil))) (some r22) (.node (.node (.node (.node .nil (some bg9) .nil) (some bej) .nil) (some r86) (.node .nil (some bf2) .nil)) (some r54) (.node (.node .nil (some bfa) .nil) none (.node .nil (some bgl) .nil)))) (some r14) (.node (.node (.node (.node .nil (some bef) .nil) (some r78) (.node .nil (some bfw) .nil)) (some r46) (.node (.node .nil (some be3) .nil) (some bdu) (.node .nil (some a64) .nil))) (some r30) (.node (.node (.node (.node .nil (some bhh) .nil) (some bep) .nil) (some r94) (.node .nil (some a6x) .nil)) (some r62) (.node (.node .nil (some bfh) .nil) (some bd4) (.node .nil (some bgr) .nil))))))))
noncomputable def g2:GF:=⟨Tryz.f2,[]⟩
noncomputable def g3:GF:=⟨Tryz.f3,[]⟩
noncomputable def g4:GF:=⟨Tryz.f4,[]⟩
noncomputable def g5:GF:=⟨Tryz.f5,[(10,[(0,[]),(1,[]),(2,[]),(3,[]),(4,[]),(5,[]),(6,[]),(7,[]),(8,[]),(9,[]),(10,[]),(11,[]),(12,[]),(13,[]),(14,[]),(15,[]),(16,[]),(17,[]),(18,[]),(19,[]),(20,[]),(21,[]),(22,[])]),(21,[(0,[]),(1,[]),(2,[]),(3,[]),(4,[]),(5,[]),(6,[]),(7,[]),(8,[]),(9,[]),(10,[]),(11,[]),(12,[]),(13,[]),(14,[]),(15,[]),(16,[]),(17,[]),(18,[]),(19,[]),(20,[]),(21,[]),(22,[]),(23,[]),(24,[]),(25,[]),(26,[]),(27,[]),(28,[]),(29,[])])]⟩
noncomputable def g6:GF:=⟨Tryz.f6,[]⟩
noncomputable def g7:GF:=⟨Tryz.f7,[]⟩
noncomputable def g8:GF:=⟨Tryz.f8,[]⟩
noncomputable def g9:GF:=⟨Tryz.f9,[(13,[(0,[]),(1,[]),(2,[]),(3,[]),(4,[]),(5,[]),(6,[]),(7,[]),(8,[]),(9,[]),(10,[]),(11,[]),(12,[]),(13,[]),(14,[]),(15,[]),(16,[]),(17,[])]),(22,[(0,[]),(1,[]),(2,[]),(3,[]),(4,[]),(5,[]),(6,[]),(7,[]),(8,[]),(9,[]),(10,[]),(11,[]),(12,[]),(13,[]),(14,[]),(15,[]),(16,[]),(17,[]),(18,[]),(19,[]),(20,[]),(21,[]),(22,[]),(23,[])]),(24,[(0,[]),(1,[]),(2,[]),(3,[]),(4,[]),(5,[]),(6,[]),(7,[]),(8,[])])]⟩
noncomputable def g10:GF:=⟨Tryz.f10,[]⟩
noncomputable def g11:GF:=⟨Tryz.f11,[]⟩
noncomputable def g12:GF:=⟨Tryz.f12,[(11,[(0,[]),(1,[]),(2,[]),(3,[]),(4,[]),(5,[]),(6,[]),(7,[]),(8,[3]),(9,[]),(10,[]),(11,[]),(12,[]),(13,[]),(14,[])])]⟩
noncomputable def g13:GF:=⟨Tryz.f13,[]⟩
noncomputable def g14:GF:=⟨Tryz.f14,[]⟩
noncomputable def g15:GF:=⟨Tryz.f15,[]⟩
noncomputable def g16:GF:=⟨Tryz.f16,[]⟩
noncomputable def g17:GF:=⟨Tryz.f17,[(5,[(0,[]),(1,[]),(2,[]),(3,[]),(4,[]),(5,[]),(6,[]),(7,[]),(8,[]),(9,[]),(10,[]),(11,[]),(12,[]),(13,[]),(14,[]),(15,[]),(16,[6]),(17,[]),(18,[]),(19,[])])]⟩
noncomputable def g18:GF:=⟨Tryz.f18,[]⟩
noncomputable def g19:GF:=⟨Tryz.f19,[(13,[(0,[]),(1,[]),(2,[]),(3,[]),(4,[]),(5,[]),(6,[]),(7,[]),(8,[]),(9,[]),(10,[]),(11,[]),(12,[]),(13,[]),(14,[]),(15,[]),(16,[]),(17,[]),(18,[]),(19,[]),(20,[]),(21,[]),(22,[]),(23,[]),(24,[]),(25,[]),(27,[]),(28,[]),(29,[]),(30,[]),(31,[]),(26,[31]),(32,[]),(33,[])]),(15,[(0,[]),(1,[]),(2,[]),(3,[]),(4,[]),(5,[]),(6,[]),(7,[]),(8,[]),(9,[]),(10,[]),(11,[]),(12,[])]),(18,[(0,[]),(1,[]),(2,[]),(3,[]),(4,[]),(5,[]),(6,[]),(7,[]),(8,[]),(9,[]),(10,[]),(11,[]),(12,[]),(13,[]),(14,[]),(15,[]),(16,[]),(17,[]),(18,[])])]⟩
noncomputable def g20:GF:=⟨Tryz.f20,[]⟩
noncomputable def g21:GF:=⟨Tryz.f21,[]⟩
noncomputable def g22:GF:=⟨Tryz.f22,[]⟩
noncomputable def g23:GF:=⟨Tryz.f23,[]⟩
noncomputable def g24:GF:=⟨Tryz.f24,[]⟩
noncomputable def g25:GF:=⟨Tryz.f25,[(6,[(0,[]),(1,[]),(2,[]),(3,[]),(4,[]),(5,[]),(6,[]),(7,[])]),(11,[(0,[]),(1,[]),(2,[]),(3,[]),(4,[]),(5,[]),(6,[]),(7,[]),(8,[]),(9,[]),(10,[]),(11,[]),(12,[]),(13,[]),(14,[]),(15,[]),(16,[]),(17,[]),(18,[]),(19,[]),(20,[]),(21,[]),(22,[]),(23,[]),(24,[]),(25,[]),(26,[]),(27,[])])]⟩
noncomputable def g26:GF:=⟨Tryz.f26,[(11,[(1,[]),(0,[1]),(2,[1]),(3,[]),(4,[]),(5,[]),(6,[]),(7,[]),(8,[]),(9,[]),(10,[]),(11,[])])]⟩
noncomputable def g27:GF:=⟨Tryz.f27,[]⟩
noncomputable def g28:GF:=⟨Tryz.f28,[]⟩
noncomputable def g29:GF:=⟨Tryz.f29,[]⟩
noncomputable def g30:GF:=⟨Tryz.f30,[]⟩
noncomputable def g31:GF:=⟨Tryz.f31,[]⟩
noncomputable def g32:GF:=⟨Tryz.f32,[]⟩
noncomputable def g33:GF:=⟨Tryz.f33,[]⟩
noncomputable def g34:GF:=⟨Tryz.f34,[(6,[(0,[]),(1,[]),(2,[]),(3,[]),(4,[]),(5,[]),(6,[]),(7,[]),(8,[])])]⟩
noncomputable def g35:GF:=⟨Tryz.f35,[]⟩
noncomputable def g36:GF:=⟨Tryz.f36,[]⟩
noncomputable def g37:GF:=⟨Tryz.f37,[]⟩
noncomputable def g38:GF:=⟨Tryz.f38,[]⟩
noncomputable def g39:GF:=⟨Tryz.f39,[]⟩
noncomputable def g40:GF:=⟨Tryz.f40,[]⟩
noncomputable def g41:GF:=⟨Tryz.f41,[]⟩
noncomputable def g42:GF:=⟨Tryz.f42,[(1,[(0,[]),(1,[]),(2,[]),(3,[]),(4,[0]),(5,[]),(6,[]),(7,[]),(8,[]),(9,[]),(10,[])])]⟩
noncomputable def g43:GF:=⟨Tryz.f43,[(6,[(0,[]),(1,[]),(2,[]),(3,[]),(4,[]),(5,[]),(6,[]),(7,[]),(8,[]),(9,[]),(10,[]),(11,[]),(12,[]),(13,[]),(14,[]),(15,[]),(16,[]),(17,[]),(18,[]),(19,[]),(20,[])])]⟩
noncomputable def g44:GF:=⟨Tryz.f44,[(1,[(0,[]),(1,[]),(2,[]),(3,[]),(4,[]),(5,[]),(6,[4]),(7,[]),(8,[])])]⟩
noncomputable def g45:GF:=⟨Tryz.f45,[]⟩
noncomputable def g46:GF:=⟨Tryz.f46,[]⟩
noncomputable def g47:GF:=⟨Tryz.f47,[]⟩
noncomputable def g48:GF:=⟨Tryz.f48,[(1,[(0,[]),(1,[]),(2,[]),(3,[]),(4,[0]),(5,[]),(6,[]),(7,[0]),(8,[]),(9,[]),(10,[]),(11,[]),(12,[]),(13,[]),(14,[])]),(13,[(0,[]),(1,[]),(2,[]),(3,[]),(4,[]),(5,[]),(6,[]),(8,[]),(7,[]),(9,[])])]⟩
noncomputable def g49:GF:=⟨Tryz.f49,[]⟩
noncomputable def g50:GF:=⟨Tryz.f50,[]⟩
noncomputable def g51:GF:=⟨Tryz.f51,[]⟩
noncomputable def g52:GF:=⟨Tryz.f52,[]⟩
noncomputable def g53:GF:=⟨Tryz.f53,[(4,[(0,[]),(1,[]),(2,[]),(3,[]),(4,[]),(5,[]),(6,[]),(7,[]),(8,[]),(9,[]),(10,[]),(11,[]),(12,[]),(13,[]),(14,[]),(15,[]),(16,[]),(17,[]),(18,[]),(19,[]),(20,[]),(21,[]),(22,[]),(23,[]),(24,[]),(25,[]),(26,[]),(27,[]),(28,[]),(29,[]),(30,[]),(31,[]),(32,[]),(33,[]),(34,[]),(35,[]),(36,[]),(37,[]),(38,[])]),(9,[(0,[]),(1,[]),(2,[]),(3,[]),(4,[]),(5,[]),(6,[]),(7,[]),(8,[]),(9,[]),(10,[])])]⟩
noncomputable def g54:GF:=⟨Tryz.f54,[(6,[(0,[]),(1,[]),(2,[]),(3,[]),(4,[]),(5,[]),(6,[]),(7,[])])]⟩
noncomputable def g55:GF:=⟨Tryz.f55,[(8,[(0,[]),(1,[]),(2,[]),(3,[]),(4,[]),(5,[]),(6,[]),(7,[]),(8,[]),(9,[]),(10,[]),(11,[]),(12,[]),(13,[]),(14,[]),(15,[]),(16,[]),(17,[]),(18,[]),(19,[]),(20,[]),(21,[]),(22,[]),(23,[]),(24,[]),(25,[]),(26,[]),(27,[]),(28,[]),(29,[])])]⟩
noncomputable def g56:GF:=⟨Tryz.f56,[]⟩
noncomputable def g57:GF:=⟨Tryz.f57,[(6,[(0,[]),(1,[]),(2,[]),(3,[]),(4,[]),(5,[]),(7,[]),(8,[]),(9,[]),(6,[]),(10,[])])]⟩
noncomputable def g58:GF:=⟨Tryz.f58,[(11,[(0,[]),(1,[]),(2,[]),(3,[]),(4,[]),(5,[]),(6,[]),(7,[]),(8,[]),(9,[])]),(24,[(0,[]),(1,[]),(2,[]),(3,[]),(4,[3]),(5,[]),(6,[])])]⟩
noncomputable def g59:GF:=⟨Tryz.f59,[]⟩
noncomputable def g60:GF:=⟨Tryz.f60,[]⟩
noncomputable def g61:GF:=⟨Tryz.f61,[(5,[(0,[]),(1,[]),(2,[]),(3,[]),(4,[0]),(5,[]),(6,[]),(7,[]),(8,[]),(9,[]),(10,[])])]⟩
noncomputable def g62:GF:=⟨Tryz.f62,[]⟩
noncomputable def g63:GF:=⟨Tryz.f63,[]⟩
noncomputable def g64:GF:=⟨Tryz.f64,[(4,[(0,[]),(1,[]),(2,[]),(3,[]),(4,[]),(5,[]),(6,[]),(7,[]),(8,[]),(9,[]),(10,[]),(11,[]),(12,[]),(13,[]),(14,[]),(15,[]),(16,[]),(17,[]),(18,[]),(19,[]),(20,[]),(21,[]),(22,[]),(23,[]),(24,[]),(25,[])])]⟩
noncomputable def g65:GF:=⟨Tryz.f65,[(5,[(0,[]),(1,[]),(2,[]),(3,[]),(4,[]),(5,[]),(6,[]),(7,[]),(8,[]),(9,[]),(10,[]),(11,[]),(12,[])])]⟩
noncomputable def g66:GF:=⟨Tryz.f66,[]⟩
noncomputable def g67:GF:=⟨Tryz.f67,[]⟩
noncomputable def g68:GF:=⟨Tryz.f68,[(4,[(0,[]),(1,[]),(2,[]),(3,[]),(4,[]),(5,[]),(6,[]),(7,[]),(8,[]),(9,[]),(10,[]),(11,[]),(12,[])])]⟩
noncomputable def g69:GF:=⟨Tryz.f69,[(5,[(0,[]),(1,[]),(2,[]),(3,[]),(4,[]),(5,[]),(6,[]),(7,[]),(8,[]),(9,[]),(10,[]),(11,[]),(12,[]),(13,[]),(14,[]),(15,[]),(16,[]),(17,[]),(18,[]),(19,[])])]⟩
noncomputable def g70:GF:=⟨Tryz.f70,[]⟩
noncomputable def g71:GF:=⟨Tryz.f71,[]⟩
noncomputable def g72:GF:=⟨Tryz.f72,[(5,[(0,[]),(2,[]),(3,[]),(4,[]),(5,[]),(6,[]),(7,[]),(10,[]),(11,[]),(12,[]),(13,[]),(14,[]),(1,[3,7,11,14]),(8,[]),(9,[]),(15,[3,7,9]),(16,[]),(17,[]),(18,[]),(19,[])])]⟩
noncomputable def g73:GF:=⟨Tryz.f73,[(6,[(0,[]),(1,[]),(2,[]),(3,[]),(4,[]),(5,[]),(6,[]),(7,[]),(8,[]),(9,[]),(10,[])])]⟩
noncomputable def g74:GF:=⟨Tryz.f74,[(15,[(0,[]),(1,[]),(2,[]),(3,[]),(4,[]),(5,[]),(6,[]),(7,[]),(8,[]),(9,[]),(10,[5,8]),(11,[]),(12,[8]),(13,[]),(14,[])]),(16,[(0,[]),(1,[]),(2,[]),(3,[]),(4,[]),(5,[]),(6,[])])]⟩
noncomputable def g75:GF:=⟨Tryz.f75,[]⟩
noncomputable def g76:GF:=⟨Tryz.f76,[]⟩
noncomputable def g77:GF:=⟨Tryz.f77,[]⟩
noncomputable def g78:GF:=⟨Tryz.f78,[]⟩
noncomputable def g79:GF:=⟨Tryz.f79,[]⟩
noncomputable def g80:GF:=⟨Tryz.f80,[]⟩
noncomputable def g81:GF:=⟨Tryz.f81,[]⟩
noncomputable def g82:GF:=⟨Tryz.f82,[(6,[(0,[]),(1,[]),(2,[]),(3,[]),(4,[]),(5,[]),(6,[]),(7,[]),(8,[]),(9,[]),(10,[]),(11,[]),(12,[]),(13,[]),(14,[]),(15,[]),(16,[]),(17,[]),(18,[]),(19,[])])]⟩
noncomputable def g84:GF:=⟨Tryz.f84,[]⟩
noncomputable def g85:GF:=⟨Tryz.f85,[]⟩
noncomputable def g86:GF:=⟨Tryz.f86,[]⟩
noncomputable def g87:GF:=⟨Tryz.f87,[]⟩
noncomputable def g88:GF:=⟨Tryz.f88,[(6,[(0,[]),(1,[]),(2,[]),(3,[]),(4,[]),(5,[]),(6,[]),(7,[]),(8,[])])]⟩
noncomputable def g89:GF:=⟨Tryz.f89,[]⟩
noncomputable def g90:GF:=⟨Tryz.f90,[]⟩
noncomputable def g91:GF:=⟨Tryz.f91,[]⟩
noncomputable def g92:GF:=⟨Tryz.f92,[]⟩
noncomputable def g93:GF:=⟨Tryz.f93,[]⟩
noncomputable def g94:GF:=⟨Tryz.f94,[]⟩
noncomputable def g95:GF:=⟨Tryz.f95,[]⟩
noncomputable def g96:GF:=⟨Tryz.f96,[]⟩
noncomputable def g97:GF:=⟨Tryz.f97,[]⟩
noncomputable def g98:GF:=⟨Tryz.f98,[]⟩
noncomputable def g99:GF:=⟨Tryz.f99,[]⟩
noncomputable def a3p:GF:=⟨Tryz.f100,[]⟩
noncomputable def a3q:GF:=⟨Tryz.f101,[]⟩
noncomputable def a3r:GF:=⟨Tryz.f102,[]⟩
noncomputable def axb:GF:=⟨Tryz.f103,[(7,[(0,[]),(1,[]),(2,[]),(3,[]),(4,[]),(5,[]),(7,[]),(6,[]),(8,[])]),(8,[(0,[]),(1,[]),(3,[]),(4,[]),(5,[]),(6,[]),(2,[0,6]),(7,[]),(8,[])])]⟩
noncomputable def axc:GF:=⟨Tryz.f104,[(4,[(0,[]),(1,[]),(2,[]),(3,[]),(4,[]),(5,[]),(6,[]),(7,[]),(8,[]),(9,[]),(10,[]),(11,[]),(12,[]),(13,[]),(14,[]),(15,[]),(16,[]),(17,[]),(18,[]),(19,[]),(20,[]),(21,[]),(22,[]),(23,[]),(24,[]),(25,[]),(26,[]),(27,[]),(28,[]),(29,[])])]⟩
noncomputable def a3s:GF:=⟨Tryz.f105,[]⟩
noncomputable def bak:GF:=⟨Tryz.f106,[]⟩
noncomputable def a3t:GF:=⟨Tryz.f107,[]⟩
noncomputable def a3u:GF:=⟨Tryz.f108,[]⟩
noncomputable def bal:GF:=⟨Tryz.f109,[]⟩
noncomputable def a3v:GF:=⟨Tryz.f110,[]⟩
noncomputable def a3w:GF:=⟨Tryz.f111,[]⟩
noncomputable def a3x:GF:=⟨Tryz.f112,[]⟩
noncomputable def a3y:GF:=⟨Tryz.f113,[(2,[(0,[]),(1,[]),(2,[]),(3,[]),(4,[]),(5,[]),(6,[]),(7,[]),(8,[]),(9,[]),(10,[]),(11,[]),(12,[]),(13,[]),(14,[]),(15,[]),(16,[]),(17,[]),(18,[])])]⟩
noncomputable def a3z:GF:=⟨Tryz.f114,[]⟩
noncomputable def a30:GF:=⟨Tryz.f115,[]⟩
noncomputable def a32:GF:=⟨Tryz.f116,[]⟩
noncomputable def a33:GF:=⟨Tryz.f117,[(11,[(0,[]),(2,[]),(3,[]),(5,[]),(1,[3]),(4,[]),(6,[]),(7,[]),(8,[]),(9,[])])]⟩
noncomputable def bam:GF:=⟨Tryz.f118,[]⟩
noncomputable def a34:GF:=⟨Tryz.f119,[(6,[(0,[]),(1,[]),(2,[]),(3,[]),(4,[]),(5,[]),(6,[]),(7,[]),(8,[]),(9,[]),(10,[]),(11,[]),(12,[]),(13,[]),(14,[])])]⟩
noncomputable def ban:GF:=⟨Tryz.f120,[]⟩
noncomputable def bao:GF:=⟨Tryz.f121,[]⟩
noncomputable def bap:GF:=⟨Tryz.f122,[]⟩
noncomputable def baq:GF:=⟨Tryz.f123,[]⟩
noncomputable def axd:GF:=⟨Tryz.f124,[(6,[(0,[]),(1,[]),(2,[]),(3,[]),(4,[]),(5,[]),(6,[]),(7,[]),(8,[]),(9,[]),(10,[])])]⟩
noncomputable def bar:GF:=⟨Tryz.f125,[]⟩
noncomputable def bas:GF:=⟨Tryz.f126,[]⟩
noncomputable def agh:GF:=⟨Tryz.f127,[(13,[(0,[]),(1,[]),(2,[]),(3,[]),(4,[]),(5,[]),(6,[]),(7,[]),(8,[]),(9,[]),(10,[5,8]),(11,[]),(12,[8]),(13,[]),(14,[])]),(15,[(0,[]),(1,[]),(2,[]),(3,[]),(4,[]),(5,[]),(6,[]),(7,[5]),(8,[]),(9,[])]),(17,[(0,[]),(1,[]),(2,[]),(3,[]),(4,[]),(5,[]),(6,[]),(7,[5]),(8,[]),(9,[])]),(19,[(0,[]),(1,[]),(2,[]),(3,[]),(4,[]),(5,[]),(6,[]),(7,[]),(8,[]),(9,[]),(10,[5,8]),(11,[]),(12,[8]),(13,[]),(14,[])]),(21,[(0,[]),(1,[]),(2,[]),(3,[]),(4,[]),(5,[]),(6,[]),(7,[5]),(8,[]),(9,[])]),(23,[(0,[]),(1,[]),(2,[]),(3,[]),(4,[]),(5,[]),(6,[]),(7,[5]),(8,[]),(9,[])]),(11,[(0,[]),(1,[]),(2,[]),(3,[]),(4,[]),(5,[]),(6,[]),(7,[]),(8,[]),(9,[]),(10,[5,8]),(11,[]),(12,[8]),(13,[]),(14,[])])]⟩
noncomputable def a35:GF:=⟨Tryz.f128,[]⟩
noncomputable def a38:GF:=⟨Tryz.f129,[]⟩
noncomputable def a4a:GF:=⟨Tryz.f130,[]⟩
noncomputable def a4b:GF:=⟨Tryz.f131,[]⟩
noncomputable def a4c:GF:=⟨Tryz.f132,[]⟩
noncomputable def axe:GF:=⟨Tryz.f133,[(3,[(0,[]),(1,[]),(2,[]),(4,[]),(5,[]),(6,[]),(8,[]),(9,[]),(3,[4,6,9]),(7,[9]),(10,[]),(11,[]),(12,[]),(13,[]),(14,[]),(15,[]),(16,[]),(17,[]),(18,[])])]⟩
noncomputable def a4d:GF:=⟨Tryz.f134,[]⟩
noncomputable def a4e:GF:=⟨Tryz.f135,[]⟩
noncomputable def za:GF:=⟨Tryz.f136,[]⟩
noncomputable def axf:GF:=⟨Tryz.f137,[(1,[(0,[]),(1,[]),(2,[]),(3,[]),(4,[0]),(5,[]),(6,[]),(7,[])])]⟩
noncomputable def axg:GF:=⟨Tryz.f138,[(5,[(0,[]),(1,[]),(2,[]),(3,[]),(4,[]),(5,[]),(6,[]),(7,[]),(8,[]),(9,[]),(10,[]),(11,[]),(12,[]),(13,[]),(14,[]),(15,[]),(16,[]),(17,[]),(18,[])])]⟩
noncomputable def a4f:GF:=⟨Tryz.f139,[]⟩
noncomputable def axh:GF:=⟨Tryz.f140,[(1,[(0,[]),(1,[]),(2,[]),(3,[]),(4,[]),(5,[]),(6,[]),(7,[]),(8,[]),(9,[]),(10,[]),(11,[]),(12,[]),(13,[]),(14,[])])]⟩
noncomputable def a4g:GF:=⟨Tryz.f141,[]⟩
noncomputable def atv:GF:=⟨Tryz.f142,[(1,[(0,[]),(1,[]),(2,[]),(4,[]),(5,[]),(3,[0,5]),(6,[0]),(7,[]),(8,[]),(9,[])]),(6,[(0,[]),(1,[]),(2,[]),(3,[]),(4,[]),(5,[]),(6,[]),(7,[]),(8,[]),(9,[]),(10,[])])]⟩
noncomputable def axi:GF:=⟨Tryz.f143,[(4,[(0,[]),(1,[]),(2,[]),(3,[]),(4,[]),(5,[]),(6,[]),(7,[]),(8,[]),(9,[]),(10,[]),(11,[]),(12,[]),(13,[]),(14,[]),(15,[]),(16,[]),(17,[]),(18,[]),(19,[]),(20,[]),(21,[]),(22,[]),(23,[]),(24,[]),(25,[]),(26,[]),(27,[]),(28,[]),(29,[]),(30,[]),(31,[]),(32,[]),(33,[]),(34,[]),(35,[]),(36,[]),(37,[]),(38,[]),(39,[]),(40,[])])]⟩
noncomputable def qh:GF:=⟨Tryz.f144,[(3,[(0,[]),(1,[]),(2,[]),(3,[]),(4,[]),(5,[]),(6,[]),(7,[]),(8,[]),(9,[]),(10,[]),(11,[]),(12,[]),(13,[])]),(7,[(0,[]),(1,[]),(2,[]),(3,[]),(4,[]),(5,[]),(6,[]),(7,[]),(8,[]),(9,[]),(10,[]),(11,[]),(12,[]),(13,[]),(14,[]),(15,[]),(16,[]),(17,[]),(18,[]),(19,[]),(20,[]),(21,[]),(22,[]),(23,[]),(24,[]),(25,[])]),(9,[(0,[]),(1,[]),(2,[]),(3,[]),(4,[]),(5,[]),(6,[]),(7,[]),(8,[]),(9,[]),(10,[]),(11,[]),(12,[]),(13,[]),(14,[]),(15,[]),(16,[]),(17,[]),(18,[]),(19,[]),(20,[]),(21,[]),(22,[]),(23,[]),(24,[]),(25,[]),(26,[]),(27,[])]),(11,[(0,[]),(1,[]),(2,[]),(3,[]),(4,[]),(5,[]),(6,[]),(7,[]),(8,[]),(9,[]),(10,[]),(11,[]),(12,[]),(13,[]),(14,[]),(15,[]),(16,[]),(17,[]),(18,[]),(19,[]),(20,[]),(21,[]),(22,[]),(23,[]),(24,[]),(25,[]),(26,[]),(27,[]),(28,[]),(29,[]),(30,[]),(31,[]),(32,[]),(33,[]),(34,[]),(35,[]),(36,[]),(37,[]),(38,[]),(39,[]),(40,[]),(41,[]),(42,[]),(43,[]),(44,[])]),(13,[(0,[]),(1,[]),(2,[]),(3,[]),(4,[]),(5,[]),(6,[]),(7,[]),(8,[]),(9,[])]),(14,[(0,[]),(1,[]),(2,[]),(3,[]),(4,[]),(6,[]),(7,[]),(8,[]),(9,[]),(10,[]),(11,[]),(12,[]),(13,[]),(5,[8,10,12]),(14,[]),(15,[]),(16,[])]),(17,[(0,[]),(1,[]),(2,[]),(3,[]),(4,[]),(5,[]),(6,[]),(7,[]),(8,[]),(9,[]),(10,[]),(11,[]),(12,[]),(13,[]),(14,[]),(15,[]),(16,[]),(17,[]),(18,[]),(19,[]),(20,[]),(21,[]),(22,[]),(23,[]),(24,[]),(25,[]),(26,[]),(27,[]),(28,[]),(29,[]),(30,[]),(31,[]),(32,[]),(33,[]),(34,[]),(35,[]),(36,[])]),(19,[(0,[]),(1,[]),(2,[]),(3,[]),(4,[]),(5,[]),(6,[]),(7,[]),(8,[]),(9,[]),(10,[]),(11,[]),(12,[]),(13,[]),(14,[]),(15,[]),(16,[]),(17,[]),(18,[]),(19,[]),(20,[]),(21,[]),(22,[]),(23,[]),(24,[]),(25,[]),(26,[]),(27,[]),(28,[]),(29,[]),(30,[]),(31,[]),(32,[]),(33,[]),(34,[])]),(20,[(0,[]),(1,[]),(2,[]),(3,[]),(4,[]),(5,[]),(6,[]),(7,[]),(8,[]),(9,[]),(10,[]),(11,[]),(12,[]),(13,[]),(14,[]),(15,[]),(16,[]),(17,[])])]⟩
noncomputable def qi:GF:=⟨Tryz.f145,[(5,[(0,[]),(1,[]),(2,[]),(3,[]),(4,[]),(5,[]),(6,[]),(7,[]),(8,[]),(9,[]),(10,[]),(11,[]),(12,[]),(13,[]),(14,[]),(15,[])]),(11,[(0,[]),(1,[]),(2,[]),(3,[]),(4,[]),(5,[]),(6,[]),(7,[]),(8,[]),(9,[]),(10,[]),(11,[])]),(12,[(0,[]),(1,[]),(2,[]),(3,[]),(4,[]),(5,[]),(6,[]),(7,[]),(8,[]),(9,[])]),(13,[(0,[]),(1,[]),(2,[]),(3,[]),(4,[]),(5,[]),(6,[]),(7,[]),(8,[]),(9,[]),(10,[]),(11,[]),(12,[]),(13,[])]),(14,[(0,[]),(1,[]),(2,[]),(3,[]),(4,[]),(5,[]),(6,[]),(7,[]),(8,[]),(9,[]),(10,[]),(11,[]),(12,[]),(13,[])]),(16,[(0,[]),(1,[]),(2,[]),(3,[]),(4,[]),(5,[]),(6,[]),(7,[])]),(20,[(0,[]),(1,[]),(2,[]),(3,[]),(4,[]),(5,[]),(6,[]),(7,[]),(8,[]),(9,[]),(10,[])]),(21,[(0,[]),(1,[]),(2,[]),(3,[]),(4,[]),(5,[]),(6,[]),(7,[]),(8,[]),(9,[])]),(23,[(0,[]),(1,[]),(2,[]),(3,[]),(4,[]),(5,[]),(6,[]),(7,[]),(8,[])])]⟩
noncomputable def atw:GF:=⟨Tryz.f146,[(2,[(0,[]),(1,[]),(2,[]),(3,[]),(4,[]),(5,[]),(6,[]),(7,[]),(8,[]),(9,[]),(10,[])]),(9,[(0,[]),(1,[]),(2,[]),(3,[]),(4,[]),(5,[]),(6,[])])]⟩
noncomputable def a4h:GF:=⟨Tryz.f147,[]⟩
noncomputable def a4i:GF:=⟨Tryz.f148,[]⟩
noncomputable def a4j:GF:=⟨Tryz.f149,[]⟩
noncomputable def axj:GF:=⟨Tryz.f150,[(3,[(0,[]),(1,[]),(2,[]),(4,[]),(3,[4]),(5,[]),(6,[]),(7,[]),(8,[]),(9,[]),(10,[]),(11,[])])]⟩
noncomputable def a4k:GF:=⟨Tryz.f151,[]⟩
noncomputable def axk:GF:=⟨Tryz.f152,[(4,[(0,[]),(1,[]),(2,[]),(3,[]),(4,[]),(5,[]),(6,[]),(7,[]),(8,[]),(9,[])])]⟩
noncomputable def a4l:GF:=⟨Tryz.f153,[]⟩
noncomputable def a4m:GF:=⟨Tryz.f154,[]⟩
noncomputable def a4n:GF:=⟨Tryz.f155,[]⟩
noncomputable def axl:GF:=⟨Tryz.f156,[(7,[(0,[]),(1,[]),(3,[]),(2,[0]),(4,[]),(5,[])])]⟩
noncomputable def a4o:GF:=⟨Tryz.f157,[]⟩
noncomputable def bat:GF:=⟨Tryz.f158,[]⟩
noncomputable def a4p:GF:=⟨Tryz.f159,[]⟩
noncomputable def a4q:GF:=⟨Tryz.f160,[]⟩
noncomputable def a4r:GF:=⟨Tryz.f161,[]⟩
noncomputable def a4s:GF:=⟨Tryz.f162,[]⟩
noncomputable def atx:GF:=⟨Tryz.f163,[(9,[(0,[]),(1,[]),(3,[]),(2,[0,3]),(4,[]),(5,[]),(6,[])])]⟩
noncomputable def a4t:GF:=⟨Tryz.f164,[]⟩
noncomputable def axm:GF:=⟨Tryz.f165,[(2,[(0,[]),(1,[]),(2,[]),(3,[]),(4,[]),(5,[]),(6,[]),(7,[])])]⟩
noncomputable def bau:GF:=⟨Tryz.f166,[]⟩
noncomputable def agi:GF:=⟨Tryz.f167,[(4,[(0,[]),(1,[]),(2,[]),(3,[]),(4,[]),(5,[]),(6,[]),(7,[]),(8,[]),(9,[]),(10,[]),(11,[])]),(6,[(0,[]),(1,[]),(2,[]),(3,[]),(4,[]),(5,[]),(6,[]),(7,[]),(8,[]),(9,[]),(10,[])]),(8,[(0,[]),(1,[]),(2,[]),(3,[]),(4,[]),(5,[]),(6,[]),(7,[]),(8,[]),(9,[]),(10,[])]),(10,[(0,[]),(1,[]),(2,[]),(3,[]),(4,[]),(5,[]),(6,[]),(7,[]),(8,[]),(9,[]),(10,[]),(11,[]),(12,[]),(13,[])]),(12,[(0,[]),(1,[]),(2,[]),(3,[]),(4,[]),(5,[]),(6,[]),(7,[]),(8,[]),(9,[]),(10,[])]),(14,[(0,[]),(1,[]),(2,[]),(3,[]),(4,[]),(5,[]),(6,[]),(7,[]),(8,[]),(9,[]),(10,[])]),(15,[(0,[]),(1,[]),(2,[]),(3,[]),(4,[]),(5,[]),(6,[]),(7,[]),(8,[]),(9,[]),(10,[]),(11,[])])]⟩
noncomputable def bav:GF:=⟨Tryz.f168,[]⟩
noncomputable def baw:GF:=⟨Tryz.f169,[]⟩
noncomputable def bax:GF:=⟨Tryz.f170,[]⟩
noncomputable def bay:GF:=⟨Tryz.f171,[]⟩
noncomputable def baz:GF:=⟨Tryz.f172,[]⟩
noncomputable def ba0:GF:=⟨Tryz.f173,[]⟩
noncomputable def axn:GF:=⟨Tryz.f174,[(4,[(0,[]),(1,[]),(3,[]),(4,[]),(5,[]),(6,[]),(7,[]),(8,[]),(2,[8]),(9,[]),(10,[])]),(7,[(0,[]),(1,[]),(3,[]),(4,[]),(5,[]),(6,[]),(7,[]),(8,[]),(2,[8]),(9,[]),(10,[])])]⟩
noncomputable def ba1:GF:=⟨Tryz.f175,[]⟩
noncomputable def a4u:GF:=⟨Tryz.f176,[]⟩
noncomputable def a4v:GF:=⟨Tryz.f177,[]⟩
noncomputable def a4w:GF:=⟨Tryz.f178,[]⟩
noncomputable def a4x:GF:=⟨Tryz.f179,[]⟩
noncomputable def axo:GF:=⟨Tryz.f180,[(0,[(0,[]),(1,[]),(2,[]),(3,[]),(4,[]),(5,[]),(6,[]),(7,[]),(8,[]),(9,[]),(10,[]),(11,[]),(12,[]),(13,[]),(14,[]),(15,[])])]⟩
noncomputable def a4y:GF:=⟨Tryz.f181,[]⟩
noncomputable def aty:GF:=⟨Tryz.f182,[(10,[(0,[]),(1,[]),(2,[]),(3,[]),(4,[]),(5,[]),(6,[]),(7,[])]),(12,[(0,[]),(1,[]),(2,[]),(3,[]),(4,[]),(5,[]),(6,[]),(7,[]),(8,[]),(9,[])])]⟩
noncomputable def a4z:GF:=⟨Tryz.f183,[]⟩
noncomputable def a40:GF:=⟨Tryz.f184,[]⟩
noncomputable def a41:GF:=⟨Tryz.f185,[]⟩
noncomputable def a42:GF:=⟨Tryz.f186,[]⟩
noncomputable def ad2:GF:=⟨Tryz.f187,[(1,[(0,[]),(1,[]),(2,[]),(3,[]),(4,[]),(5,[]),(6,[]),(7,[])]),(5,[(0,[]),(1,[]),(2,[]),(3,[]),(4,[]),(5,[]),(6,[]),(7,[]),(8,[]),(9,[])]),(11,[(0,[]),(1,[]),(2,[]),(3,[]),(4,[]),(5,[]),(6,[]),(7,[]),(8,[]),(9,[]),(10,[]),(11,[]),(12,[]),(13,[]),(14,[]),(15,[]),(16,[]),(17,[])]),(18,[(0,[]),(1,[]),(2,[]),(3,[]),(4,[]),(5,[]),(6,[]),(7,[]),(8,[]),(9,[]),(10,[]),(11,[]),(12,[]),(13,[]),(14,[]),(15,[]),(16,[]),(17,[]),(18,[]),(19,[]),(20,[]),(21,[])]),(23,[(0,[]),(1,[]),(2,[]),(3,[]),(4,[]),(5,[]),(6,[]),(7,[]),(8,[]),(9,[]),(10,[]),(11,[]),(12,[]),(13,[]),(14,[]),(15,[]),(16,[]),(17,[]),(18,[]),(19,[]),(20,[]),(21,[]),(22,[]),(23,[]),(24,[]),(25,[]),(26,[]),(27,[]),(28,[]),(29,[]),(30,[]),(31,[]),(32,[])]),(25,[(0,[]),(1,[]),(2,[]),(3,[]),(4,[]),(5,[]),(6,[]),(7,[]),(8,[]),(9,[])]),(26,[(0,[]),(1,[]),(2,[]),(3,[]),(4,[]),(5,[]),(6,[]),(7,[]),(8,[]),(9,[]),(10,[]),(11,[]),(12,[]),(13,[]),(14,[])])]⟩
noncomputable def a43:GF:=⟨Tryz.f188,[]⟩
noncomputable def axp:GF:=⟨Tryz.f189,[(1,[(0,[]),(1,[]),(2,[]),(3,[]),(4,[]),(5,[]),(6,[]),(7,[]),(8,[]),(9,[]),(10,[]),(11,[]),(12,[]),(13,[]),(14,[])])]⟩
noncomputable def a44:GF:=⟨Tryz.f190,[]⟩
noncomputable def a45:GF:=⟨Tryz.f191,[]⟩
noncomputable def atz:GF:=⟨Tryz.f192,[(9,[(0,[]),(1,[]),(3,[]),(4,[]),(6,[]),(7,[]),(2,[0]),(5,[0]),(8,[]),(9,[])])]⟩
noncomputable def a47:GF:=⟨Tryz.f193,[]⟩
noncomputable def a48:GF:=⟨Tryz.f194,[]⟩
noncomputable def at0:GF:=⟨Tryz.f195,[(10,[(0,[]),(1,[]),(2,[]),(4,[]),(5,[]),(7,[]),(3,[1]),(6,[1]),(8,[]),(9,[]),(10,[])])]⟩
noncomputable def a49:GF:=⟨Tryz.f196,[]⟩
noncomputable def a5a:GF:=⟨Tryz.f197,[]⟩
noncomputable def a5b:GF:=⟨Tryz.f198,[]⟩
noncomputable def ba2:GF:=⟨Tryz.f199,[]⟩
noncomputable def ba3:GF:=⟨Tryz.f200,[]⟩
noncomputable def a5c:GF:=⟨Tryz.f201,[]⟩
noncomputable def axq:GF:=⟨Tryz.f202,[(5,[(0,[]),(1,[]),(2,[]),(3,[]),(4,[]),(5,[]),(6,[]),(7,[]),(8,[]),(9,[]),(10,[]),(11,[])])]⟩
noncomputable def a5d:GF:=⟨Tryz.f203,[]⟩
noncomputable def ba4:GF:=⟨Tryz.f204,[]⟩
noncomputable def ba5:GF:=⟨Tryz.f205,[]⟩
noncomputable def ba6:GF:=⟨Tryz.f206,[]⟩
noncomputable def ba7:GF:=⟨Tryz.f207,[]⟩
noncomputable def ba8:GF:=⟨Tryz.f208,[]⟩
noncomputable def agj:GF:=⟨Tryz.f210,[(7,[(0,[]),(1,[]),(2,[]),(3,[]),(4,[]),(5,[]),(6,[]),(7,[]),(8,[]),(9,[]),(10,[]),(11,[]),(12,[]),(13,[]),(14,[])]),(8,[(0,[]),(1,[]),(2,[]),(3,[]),(4,[]),(5,[]),(6,[]),(7,[]),(8,[]),(9,[]),(10,[]),(11,[]),(12,[]),(13,[]),(14,[])]),(9,[(0,[]),(1,[]),(2,[]),(3,[]),(4,[]),(5,[]),(6,[]),(7,[]),(8,[]),(9,[]),(10,[]),(11,[]),(12,[]),(13,[]),(14,[])]),(10,[(0,[]),(1,[]),(2,[]),(3,[]),(4,[]),(5,[]),(6,[]),(7,[]),(8,[]),(9,[]),(10,[]),(11,[]),(12,[]),(13,[]),(14,[])]),(17,[(0,[]),(1,[]),(2,[]),(3,[]),(4,[]),(5,[]),(6,[]),(7,[]),(8,[]),(9,[]),(10,[]),(11,[]),(12,[]),(13,[]),(14,[])]),(18,[(0,[]),(1,[]),(2,[]),(3,[]),(4,[]),(5,[]),(6,[]),(7,[]),(8,[]),(9,[]),(10,[]),(11,[]),(12,[]),(13,[]),(14,[])]),(23,[(0,[]),(1,[]),(2,[]),(3,[]),(4,[]),(5,[]),(6,[]),(7,[]),(8,[]),(9,[]),(10,[]),(11,[]),(12,[]),(13,[]),(14,[])])]⟩
noncomputable def ba9:GF:=⟨Tryz.f211,[]⟩
noncomputable def bba:GF:=⟨Tryz.f212,[]⟩
noncomputable def bbb:GF:=⟨Tryz.f213,[]⟩
noncomputable def bbc:GF:=⟨Tryz.f216,[]⟩
noncomputable def bbd:GF:=⟨Tryz.f217,[]⟩
noncomputable def bbe:GF:=⟨Tryz.f218,[]⟩
noncomputable def bbf:GF:=⟨Tryz.f219,[]⟩
noncomputable def bbg:GF:=⟨Tryz.f220,[]⟩
noncomputable def bbh:GF:=⟨Tryz.f222,[]⟩
noncomputable def bbi:GF:=⟨Tryz.f224,[]⟩
noncomputable def bbj:GF:=⟨Tryz.f225,[]⟩
noncomputable def bbk:GF:=⟨Tryz.f229,[]⟩
noncomputable def a5e:GF:=⟨Tryz.f245,[]⟩
noncomputable def axr:GF:=⟨Tryz.f246,[(1,[(0,[]),(1,[]),(2,[]),(3,[]),(4,[]),(5,[]),(6,[]),(7,[]),(8,[]),(9,[]),(10,[]),(11,[]),(12,[]),(13,[]),(14,[]),(15,[])])]⟩
noncomputable def a5f:GF:=⟨Tryz.f247,[]⟩
noncomputable def axs:GF:=⟨Tryz.f248,[(1,[(0,[]),(1,[]),(2,[]),(3,[]),(4,[]),(5,[]),(6,[]),(7,[]),(8,[]),(9,[]),(10,[]),(11,[]),(12,[]),(13,[]),(14,[]),(15,[]),(16,[]),(17,[]),(18,[]),(19,[])])]⟩
noncomputable def a5g:GF:=⟨Tryz.f249,[]⟩
noncomputable def a5h:GF:=⟨Tryz.f250,[]⟩
noncomputable def ala:GF:=⟨Tryz.f251,[(1,[(0,[]),(1,[]),(2,[]),(3,[]),(4,[]),(5,[]),(6,[]),(7,[]),(8,[])]),(12,[(0,[]),(1,[]),(2,[]),(3,[]),(4,[]),(5,[]),(6,[]),(7,[]),(8,[]),(9,[]),(10,[]),(11,[]),(12,[])]),(27,[(0,[]),(1,[]),(2,[]),(3,[]),(4,[]),(5,[]),(6,[]),(7,[]),(8,[]),(9,[]),(10,[]),(11,[]),(12,[]),(13,[]),(14,[]),(15,[12]),(16,[]),(17,[]),(18,[])]),(28,[(0,[]),(1,[]),(2,[]),(3,[]),(4,[]),(5,[]),(6,[]),(7,[]),(8,[]),(9,[]),(10,[]),(11,[]),(12,[]),(13,[]),(14,[]),(15,[])])]⟩
noncomputable def axt:GF:=⟨Tryz.f252,[(1,[(0,[]),(1,[]),(2,[]),(3,[]),(4,[]),(5,[]),(6,[]),(7,[]),(8,[]),(9,[]),(10,[]),(11,[]),(12,[]),(13,[]),(14,[]),(15,[]),(16,[]),(17,[]),(18,[]),(19,[]),(20,[]),(21,[]),(22,[]),(23,[]),(24,[]),(25,[]),(26,[]),(27,[]),(28,[]),(29,[])])]⟩
noncomputable def axu:GF:=⟨Tryz.f253,[]⟩
noncomputable def a5i:GF:=⟨Tryz.f254,[]⟩
noncomputable def axv:GF:=⟨Tryz.f255,[(1,[(0,[]),(1,[]),(2,[]),(3,[]),(4,[]),(5,[]),(6,[]),(7,[]),(8,[]),(9,[]),(10,[]),(11,[]),(12,[]),(13,[]),(14,[]),(15,[]),(16,[]),(17,[]),(18,[]),(19,[]),(20,[]),(21,[]),(22,[]),(23,[]),(24,[]),(25,[]),(26,[]),(27,[]),(28,[]),(29,[]),(30,[]),(31,[])])]⟩
noncomputable def alb:GF:=⟨Tryz.f256,[(1,[(0,[]),(1,[]),(2,[]),(3,[]),(4,[]),(5,[]),(6,[]),(7,[]),(8,[])]),(2,[(0,[]),(1,[]),(2,[]),(3,[]),(4,[]),(5,[]),(6,[]),(7,[]),(8,[]),(9,[]),(10,[])]),(4,[(0,[]),(1,[]),(2,[]),(3,[]),(4,[]),(5,[]),(6,[]),(7,[]),(8,[]),(9,[]),(10,[]),(11,[]),(12,[])]),(5,[(0,[]),(1,[]),(2,[]),(3,[]),(4,[]),(5,[]),(6,[]),(7,[]),(8,[]),(9,[]),(10,[]),(11,[]),(12,[]),(13,[]),(14,[])])]⟩
noncomputable def aow:GF:=⟨Tryz.f257,[(1,[(0,[]),(1,[]),(2,[]),(3,[]),(4,[]),(5,[]),(6,[]),(7,[]),(8,[]),(9,[]),(10,[]),(11,[]),(12,[]),(13,[]),(14,[]),(15,[]),(16,[]),(17,[]),(18,[]),(19,[]),(20,[]),(21,[]),(22,[]),(23,[]),(24,[]),(25,[]),(26,[]),(27,[]),(28,[]),(29,[]),(30,[]),(31,[]),(32,[]),(33,[]),(34,[]),(35,[]),(36,[]),(37,[]),(38,[]),(39,[]),(40,[]),(41,[]),(42,[]),(43,[]),(44,[]),(45,[]),(46,[]),(47,[]),(48,[]),(49,[])]),(3,[(0,[]),(1,[]),(2,[]),(3,[]),(4,[]),(5,[]),(6,[]),(7,[]),(8,[]),(9,[]),(10,[])]),(4,[(0,[]),(1,[]),(2,[]),(3,[]),(4,[]),(5,[]),(7,[]),(8,[]),(9,[]),(10,[]),(11,[]),(12,[]),(13,[]),(14,[]),(15,[]),(6,[9,11,14]),(16,[]),(17,[]),(18,[])])]⟩
noncomputable def at1:GF:=⟨Tryz.f258,[(1,[(0,[]),(1,[]),(2,[]),(3,[]),(4,[]),(5,[]),(6,[]),(7,[]),(8,[])]),(6,[(0,[]),(1,[]),(2,[]),(3,[]),(4,[]),(5,[]),(6,[]),(7,[]),(8,[]),(9,[]),(10,[])])]⟩
noncomputable def axw:GF:=⟨Tryz.f259,[(1,[(0,[]),(1,[]),(2,[]),(3,[]),(4,[]),(5,[]),(6,[]),(7,[]),(8,[]),(9,[]),(10,[]),(11,[]),(12,[]),(13,[]),(14,[]),(15,[]),(16,[]),(17,[]),(18,[]),(19,[]),(20,[]),(21,[]),(22,[]),(23,[]),(24,[]),(25,[]),(26,[]),(27,[]),(28,[]),(29,[]),(30,[]),(31,[]),(32,[]),(33,[]),(34,[]),(35,[]),(36,[]),(37,[]),(38,[]),(39,[]),(40,[]),(41,[]),(42,[])])]⟩
noncomputable def axx:GF:=⟨Tryz.f260,[(1,[(0,[]),(1,[]),(2,[]),(3,[]),(4,[]),(5,[]),(6,[]),(7,[]),(8,[]),(9,[])])]⟩
noncomputable def axy:GF:=⟨Tryz.f261,[(1,[(0,[]),(1,[]),(2,[]),(3,[]),(4,[]),(5,[]),(6,[]),(7,[]),(8,[]),(9,[]),(10,[]),(11,[]),(12,[]),(13,[]),(14,[]),(15,[]),(16,[]),(17,[]),(18,[]),(19,[]),(20,[]),(21,[]),(22,[]),(23,[]),(24,[]),(25,[]),(26,[]),(27,[]),(28,[]),(29,[]),(30,[]),(31,[]),(32,[]),(33,[]),(34,[]),(35,[]),(36,[]),(37,[]),(38,[])])]⟩
noncomputable def a5j:GF:=⟨Tryz.f262,[]⟩
noncomputable def axz:GF:=⟨Tryz.f263,[(1,[(0,[]),(1,[]),(2,[]),(3,[]),(4,[]),(5,[]),(6,[]),(7,[]),(8,[]),(9,[]),(10,[]),(11,[]),(12,[]),(13,[]),(14,[]),(15,[]),(16,[]),(17,[]),(18,[]),(19,[]),(20,[])])]⟩
noncomputable def F:Tr GF:=(.node (.node (.node (.node (.node (.node (.node (.node (.node .nil (some axv) .nil) (some agh) .nil) (some g63) (.node .nil (some a45) .nil)) (some g31) (.node (.node .nil (some a4p) .nil) (some g95) .nil)) (some g15) (.node (.node (.node .nil (some axi) .nil) (some g79) (.node .nil (some ba7) .nil)) (some g47) (.node (.node .nil (some ba1) .nil) (some a3w) .nil))) (some g7) (.node (.node (.node (.node (.node .nil (some axz) .nil) (some a4e) .nil) (some g71) (.node .nil (some ba2) .nil)) (some g39) (.node (.node .nil (some agi) .nil) (some axb) .nil)) (some g23) (.node (.node (.node .nil (some a4k) .nil) (some g87) .nil) (some g55) (.node (.node .nil (some a4z) .nil) (some a34) (.node .nil (some a5f) .nil))))) (some g3) (.node (.node (.node (.node (.node (.node .nil (some axw) .nil) (some a4b) .nil) (some g67) (.node .nil (some at0) .nil)) (some g35) (.node (.node .nil (some atx) .nil) (some g99) .nil)) (some g19) (.node (.node (.node .nil (some a4h) .nil) none (.node .nil (some ba9) .nil)) (some g51) (.node (.node .nil (some a4x) .nil) (some a30) .nil))) (some g11) (.node (.node (.node (.node .nil (some a4f) .nil) (some g75) (.node .nil (some a5d) .nil)) (some g43) (.node (.node .nil (some bay) .nil) (some a3t) .nil)) (some g27) (.node (.node (.node .nil (some a4n) .nil) (some g91) (.node .nil (some bbf) .nil)) (some g59) (.node (.node .nil (some ad2) .nil) (some baq) (.node .nil (some ala) .nil)))))) none (.node (.node (.node (.node (.node (.node (.node .nil (some aow) .nil) (some a38) .nil) (some g65) (.node .nil (some a47) .nil)) (some g33) (.node (.node .nil (some a4r) .nil) (some g97) (.node .nil (some bbj) .nil))) (some g17) (.node (.node (.node .nil (some qi) .nil) (some g81) .nil) (some g49) (.node (.node .nil (some a4v) .nil) (some a3y) .nil))) (some g9) (.node (.node (.node (.node .nil (some axf) .nil) (some g73) (.node .nil (some a5c) .nil)) (some g41) (.node (.node .nil (some baw) .nil) (some a3s) .nil)) (some g25) (.node (.node (.node .nil (some a4l) .nil) (some g89) (.node .nil (some bbd) .nil)) (some g57) (.node (.node .nil (some a41) .nil) (some bao) (.node .nil (some a5g) .nil))))) (some g5) (.node (.node (.node (.node (.node (.node .nil (some axy) .nil) (some axe) .nil) (some g69) (.node .nil (some a5a) .nil)) (some g37) (.node (.node .nil (some axm) .nil) (some a3q) (.node .nil (some bbk) .nil))) (some g21) (.node (.node (.node .nil (some a4j) .nil) (some g85) (.node .nil (some bbb) .nil)) (some g53) (.node (.node .nil (some a4y) .nil) (some a33) (.node .nil (some a5e) .nil)))) (some g13) (.node (.node (.node (.node .nil (some a4g) .nil) (some g77) (.node .nil (some ba5) .nil)) (some g45) (.node (.node .nil (some ba0) .nil) (some bal) .nil)) (some g29) (.node (.node (.node .nil (some a4o) .nil) (some g93) .nil) (some g61) (.node (.node .nil (some axp) .nil) (some bar) (.node .nil (some axu) .nil))))))) none (.node (.node (.node (.node (.node (.node (.node (.node .nil (some alb) .nil) (some a35) .nil) (some g64) (.node .nil (some atz) .nil)) (some g32) (.node (.node .nil (some a4q) .nil) (some g96) (.node .nil (some bbi) .nil))) (some g16) (.node (.node (.node .nil (some qh) .nil) (some g80) (.node .nil (some ba8) .nil)) (some g48) (.node (.node .nil (some a4u) .nil) (some a3x) .nil))) (some g8) (.node (.node (.node (.node .nil (some za) .nil) (some g72) (.node .nil (some ba3) .nil)) (some g40) (.node (.node .nil (some bav) .nil) (some axc) .nil)) (some g24) (.node (.node (.node .nil (some axk) .nil) (some g88) (.node .nil (some bbc) .nil)) (some g56) (.node (.node .nil (some a40) .nil) (some ban) (.node .nil (some axs) .nil))))) (some g4) (.node (.node (.node (.node (.node (.node .nil (some axx) .nil) (some a4c) .nil) (some g68) (.node .nil (some a49) .nil)) (some g36) (.node (.node .nil (some a4t) .nil) (some a3p) .nil)) (some g20) (.node (.node (.node .nil (some a4i) .nil) (some g84) (.node .nil (some bba) .nil)) (some g52) (.node (.node .nil (some axo) .nil) (some a32) .nil))) (some g12) (.node (.node (.node (.node .nil (some axh) .nil) (some g76) (.node .nil (some ba4) .nil)) (some g44) (.node (.node .nil (some baz) .nil) (some a3u) .nil)) (some g28) (.node (.node (.node .nil (some axl) .nil) (some g92) (.node .nil (some bbg) .nil)) (some g60) (.node (.node .nil (some a43) .nil) (some axd) (.node .nil (some axt) .nil)))))) (some g2) (.node (.node (.node (.node (.node (.node (.node .nil (some at1) .nil) (some a4a) .nil) (some g66) (.node .nil (some a48) .nil)) (some g34) (.node (.node .nil (some a4s) .nil) (some g98) .nil)) (some g18) (.node (.node (.node .nil (some atw) .nil) (some g82) (.node .nil (some agj) .nil)) (some g50) (.node (.node .nil (some a4w) .nil) (some a3z) .nil))) (some g10) (.node (.node (.node (.node .nil (some axg) .nil) (some g74) (.node .nil (some axq) .nil)) (some g42) (.node (.node .nil (some bax) .nil) (some bak) .nil)) (some g26) (.node (.node (.node .nil (some a4m) .nil) (some g90) (.node .nil (some bbe) .nil)) (some g58) (.node (.node .nil (some a42) .nil) (some bap) (.node .nil (some a5h) .nil))))) (some g6) (.node (.node (.node (.node (.node (.node .nil (some a5j) .nil) (some a4d) .nil) (some g70) (.node .nil (some a5b) .nil)) (some g38) (.node (.node .nil (some bau) .nil) (some a3r) .nil)) (some g22) (.node (.node (.node .nil (some axj) .nil) (some g86) .nil) (some g54) (.node (.node .nil (some aty) .nil) (some bam) (.node .nil (some axr) .nil)))) (some g14) (.node (.node (.node (.node .nil (some atv) .nil) (some g78) (.node .nil (some ba6) .nil)) (some g46) (.node (.node .nil (some axn) .nil) (some a3v) .nil)) (some g30) (.node (.node (.node .nil (some bat) .nil) (some g94) (.node .nil (some bbh) .nil)) (some g62) (.node (.node .nil (some a44) .nil) (some bas) (.node .nil (some a5i) .nil))))))))
end Go.Gm.Tryz
end
section
namespace Go.Gm.Tryz
open Go.Proofs
theorem tok:TabOk Tryz.prog T:=bh4 (by kernel_rfl)
theorem mix:Tryz.prog.follows .mixedOrders=true:=by kernel_rfl
theorem bkw:FnOk Tryz.prog T 2 g2:=.of Tryz.func2 (by kernel_rfl) (by kernel_rfl)
theorem bkx:FnOk Tryz.prog T 3 g3:=.of Tryz.func3 (by kernel_rfl) (by kernel_rfl)
theorem a92:FnOk Tryz.prog T 4 g4:=.of Tryz.func4 (by kernel_rfl) (by kernel_rfl)
theorem bky:FnOk Tryz.prog T 5 g5:=.of Tryz.func5 (by kernel_rfl) (by kernel_rfl)
theorem bkz:FnOk Tryz.prog T 6 g6:=.of Tryz.func6 (by kernel_rfl) (by kernel_rfl)
theorem bk0:FnOk Tryz.prog T 7 g7:=.of Tryz.func7 (by kernel_rfl) (by kernel_rfl)
theorem baj:FnOk Tryz.prog T 8 g8:=.of Tryz.func8 (by kernel_rfl) (by kernel_rfl)
theorem bk2:FnOk Tryz.prog T 9 g9:=.of Tryz.func9 (by kernel_rfl) (by kernel_rfl)
theorem azf:FnOk Tryz.prog T 10 g10:=.of Tryz.func10 (by kernel_rfl) (by kernel_rfl)
theorem a9m:FnOk Tryz.prog T 11 g11:=.of Tryz.func11 (by kernel_rfl) (by kernel_rfl)
theorem a9n:FnOk Tryz.prog T 12 g12:=.of Tryz.func12 (by kernel_rfl) (by kernel_rfl)
theorem a9o:FnOk Tryz.prog T 13 g13:=.of Tryz.func13 (by kernel_rfl) (by kernel_rfl)
theorem a9p:FnOk Tryz.prog T 14 g14:=.of Tryz.func14 (by kernel_rfl) (by kernel_rfl)
theorem a9q:FnOk Tryz.prog T 15 g15:=.of Tryz.func15 (by kernel_rfl) (by kernel_rfl)
theorem a9r:FnOk Tryz.prog T 16 g16:=.of Tryz.func16 (by kernel_rfl) (by kernel_rfl)
theorem a9s:FnOk Tryz.prog T 17 g17:=.of Tryz.func17 (by kernel_rfl) (by kernel_rfl)
theorem azg:FnOk Tryz.prog T 18 g18:=.of Tryz.func18 (by kernel_rfl) (by kernel_rfl)
theorem a9t:FnOk Tryz.prog T 19 g19:=.of Tryz.func19 (by kernel_rfl) (by kernel_rfl)
theorem a9u:FnOk Tryz.prog T 20 g20:=.of Tryz.func20 (by kernel_rfl) (by kernel_rfl)
theorem a9v:FnOk Tryz.prog T 21 g21:=.of Tryz.func21 (by kernel_rfl) (by kernel_rfl)
theorem a9w:FnOk Tryz.prog T 22 g22:=.of Tryz.func22 (by kernel_rfl) (by kernel_rfl)
theorem a9x:FnOk Tryz.prog T 23 g23:=.of Tryz.func23 (by kernel_rfl) (by kernel_rfl)
theorem azh:FnOk Tryz.prog T 24 g24:=.of Tryz.func24 (by kernel_rfl) (by kernel_rfl)
theorem azi:FnOk Tryz.prog T 25 g25:=.of Tryz.func25 (by kernel_rfl) (by kernel_rfl)
theorem azj:FnOk Tryz.prog T 26 g26:=.of Tryz.func26 (by kernel_rfl) (by kernel_rfl)
theorem azk:FnOk Tryz.prog T 27 g27:=.of Tryz.func27 (by kernel_rfl) (by kernel_rfl)
theorem a9y:FnOk Tryz.prog T 28 g28:=.of Tryz.func28 (by kernel_rfl) (by kernel_rfl)
theorem azl:FnOk Tryz.prog T 29 g29:=.of Tryz.func29 (by kernel_rfl) (by kernel_rfl)
theorem azm:FnOk Tryz.prog T 30 g30:=.of Tryz.func30 (by kernel_rfl) (by kernel_rfl)
theorem azn:FnOk Tryz.prog T 31 g31:=.of Tryz.func31 (by kernel_rfl) (by kernel_rfl)
theorem azo:FnOk Tryz.prog T 32 g32:=.of Tryz.func32 (by kernel_rfl) (by kernel_rfl)
theorem azp:FnOk Tryz.prog T 33 g33:=.of Tryz.func33 (by kernel_rfl) (by kernel_rfl)
theorem azq:FnOk Tryz.prog T 34 g34:=.of Tryz.func34 (by kernel_rfl) (by kernel_rfl)
theorem azr:FnOk Tryz.prog T 35 g35:=.of Tryz.func35 (by kernel_rfl) (by kernel_rfl)
theorem azs:FnOk Tryz.prog T 36 g36:=.of Tryz.func36 (by kernel_rfl) (by kernel_rfl)
theorem a9z:FnOk Tryz.prog T 37 g37:=.of Tryz.func37 (by kernel_rfl) (by kernel_rfl)
theorem a90:FnOk Tryz.prog T 38 g38:=.of Tryz.func38 (by kernel_rfl) (by kernel_rfl)
theorem a91:FnOk Tryz.prog T 39 g39:=.of Tryz.func39 (by kernel_rfl) (by kernel_rfl)
theorem azt:FnOk Tryz.prog T 40 g40:=.of Tryz.func40 (by kernel_rfl) (by kernel_rfl)
theorem azu:FnOk Tryz.prog T 41 g41:=.of Tryz.func41 (by kernel_rfl) (by kernel_rfl)
theorem azv:FnOk Tryz.prog T 42 g42:=.of Tryz.func42 (by kernel_rfl) (by kernel_rfl)
theorem azw:FnOk Tryz.prog T 43 g43:=.of Tryz.func43 (by kernel_rfl) (by kernel_rfl)
theorem azx:FnOk Tryz.prog T 44 g44:=.of Tryz.func44 (by kernel_rfl) (by kernel_rfl)
theorem azy:FnOk Tryz.prog T 45 g45:=.of Tryz.func45 (by kernel_rfl) (by kernel_rfl)
theorem azz:FnOk Tryz.prog T 46 g46:=.of Tryz.func46 (by kernel_rfl) (by kernel_rfl)
theorem az0:FnOk Tryz.prog T 47 g47:=.of Tryz.func47 (by kernel_rfl) (by kernel_rfl)
theorem az1:FnOk Tryz.prog T 48 g48:=.of Tryz.func48 (by kernel_rfl) (by kernel_rfl)
theorem az2:FnOk Tryz.prog T 49 g49:=.of Tryz.func49 (by kernel_rfl) (by kernel_rfl)
theorem a93:FnOk Tryz.prog T 50 g50:=.of Tryz.func50 (by kernel_rfl) (by kernel_rfl)
theorem a94:FnOk Tryz.prog T 51 g51:=.of Tryz.func51 (by kernel_rfl) (by kernel_rfl)
theorem az3:FnOk Tryz.prog T 52 g52:=.of Tryz.func52 (by kernel_rfl) (by kernel_rfl)
theorem a95:FnOk Tryz.prog T 53 g53:=.of Tryz.func53 (by kernel_rfl) (by kernel_rfl)
theorem a96:FnOk Tryz.prog T 54 g54:=.of Tryz.func54 (by kernel_rfl) (by kernel_rfl)
theorem az4:FnOk Tryz.prog T 55 g55:=.of Tryz.func55 (by kernel_rfl) (by kernel_rfl)
theorem az5:FnOk Tryz.prog T 56 g56:=.of Tryz.func56 (by kernel_rfl) (by kernel_rfl)
theorem a97:FnOk Tryz.prog T 57 g57:=.of Tryz.func57 (by kernel_rfl) (by kernel_rfl)
theorem az6:FnOk Tryz.prog T 58 g58:=.of Tryz.func58 (by kernel_rfl) (by kernel_rfl)
theorem a98:FnOk Tryz.prog T 59 g59:=.of Tryz.func59 (by kernel_rfl) (by kernel_rfl)
theorem a99:FnOk Tryz.prog T 60 g60:=.of Tryz.func60 (by kernel_rfl) (by kernel_rfl)
theorem baa:FnOk Tryz.prog T 61 g61:=.of Tryz.func61 (by kernel_rfl) (by kernel_rfl)
theorem az7:FnOk Tryz.prog T 62 g62:=.of Tryz.func62 (by kernel_rfl) (by kernel_rfl)
theorem az8:FnOk Tryz.prog T 63 g63:=.of Tryz.func63 (by kernel_rfl) (by kernel_rfl)
theorem bab:FnOk Tryz.prog T 64 g64:=.of Tryz.func64 (by kernel_rfl) (by kernel_rfl)
theorem az9:FnOk Tryz.prog T 65 g65:=.of Tryz.func65 (by kernel_rfl) (by kernel_rfl)
theorem bac:FnOk Tryz.prog T 66 g66:=.of Tryz.func66 (by kernel_rfl) (by kernel_rfl)
theorem a0a:FnOk Tryz.prog T 67 g67:=.of Tryz.func67 (by kernel_rfl) (by kernel_rfl)
theorem bae:FnOk Tryz.prog T 68 g68:=.of Tryz.func68 (by kernel_rfl) (by kernel_rfl)
theorem baf:FnOk Tryz.prog T 69 g69:=.of Tryz.func69 (by kernel_rfl) (by kernel_rfl)
theorem bag:FnOk Tryz.prog T 70 g70:=.of Tryz.func70 (by kernel_rfl) (by kernel_rfl)
theorem a0b:FnOk Tryz.prog T 71 g71:=.of Tryz.func71 (by kernel_rfl) (by kernel_rfl)
theorem bah:FnOk Tryz.prog T 72 g72:=.of Tryz.func72 (by kernel_rfl) (by kernel_rfl)
theorem a0c:FnOk Tryz.prog T 73 g73:=.of Tryz.func73 (by kernel_rfl) (by kernel_rfl)
theorem bai:FnOk Tryz.prog T 74 g74:=.of Tryz.func74 (by kernel_rfl) (by kernel_rfl)
theorem a0d:FnOk Tryz.prog T 75 g75:=.of Tryz.func75 (by kernel_rfl) (by kernel_rfl)
theorem a0e:FnOk Tryz.prog T 76 g76:=.of Tryz.func76 (by kernel_rfl) (by kernel_rfl)
theorem a0f:FnOk Tryz.prog T 77 g77:=.of Tryz.func77 (by kernel_rfl) (by kernel_rfl)
theorem a0g:FnOk Tryz.prog T 78 g78:=.of Tryz.func78 (by kernel_rfl) (by kernel_rfl)
theorem a0h:FnOk Tryz.prog T 79 g79:=.of Tryz.func79 (by kernel_rfl) (by kernel_rfl)
theorem a0i:FnOk Tryz.prog T 80 g80:=.of Tryz.func80 (by kernel_rfl) (by kernel_rfl)
theorem a0j:FnOk Tryz.prog T 81 g81:=.of Tryz.func81 (by kernel_rfl) (by kernel_rfl)
theorem a0k:FnOk Tryz.prog T 82 g82:=.of Tryz.func82 (by kernel_rfl) (by kernel_rfl)
theorem a0l:FnOk Tryz.prog T 84 g84:=.of Tryz.func84 (by kernel_rfl) (by kernel_rfl)
theorem a0m:FnOk Tryz.prog T 85 g85:=.of Tryz.func85 (by kernel_rfl) (by kernel_rfl)
theorem a0n:FnOk Tryz.prog T 86 g86:=.of Tryz.func86 (by kernel_rfl) (by kernel_rfl)
theorem a0o:FnOk Tryz.prog T 87 g87:=.of Tryz.func87 (by kernel_rfl) (by kernel_rfl)
theorem a0p:FnOk Tryz.prog T 88 g88:=.of Tryz.func88 (by kernel_rfl) (by kernel_rfl)
theorem a0q:FnOk Tryz.prog T 89 g89:=.of Tryz.func89 (by kernel_rfl) (by kernel_rfl)
theorem a0r:FnOk Tryz.prog T 90 g90:=.of Tryz.func90 (by kernel_rfl) (by kernel_rfl)
theorem a0s:FnOk Tryz.prog T 91 g91:=.of Tryz.func91 (by kernel_rfl) (by kernel_rfl)
theorem a0t:FnOk Tryz.prog T 92 g92:=.of Tryz.func92 (by kernel_rfl) (by kernel_rfl)
theorem a0u:FnOk Tryz.prog T 93 g93:=.of Tryz.func93 (by kernel_rfl) (by kernel_rfl)
theorem a0v:FnOk Tryz.prog T 94 g94:=.of Tryz.func94 (by kernel_rfl) (by kernel_rfl)
theorem a0w:FnOk Tryz.prog T 95 g95:=.of Tryz.func95 (by kernel_rfl) (by kernel_rfl)
theorem a0x:FnOk Tryz.prog T 96 g96:=.of Tryz.func96 (by kernel_rfl) (by kernel_rfl)
theorem a0y:FnOk Tryz.prog T 97 g97:=.of Tryz.func97 (by kernel_rfl) (by kernel_rfl)
theorem a0z:FnOk Tryz.prog T 98 g98:=.of Tryz.func98 (by kernel_rfl) (by kernel_rfl)
theorem a00:FnOk Tryz.prog T 99 g99:=.of Tryz.func99 (by kernel_rfl) (by kernel_rfl)
theorem aq9:FnOk Tryz.prog T 100 a3p:=.of Tryz.func100 (by kernel_rfl) (by kernel_rfl)
theorem ara:FnOk Tryz.prog T 101 a3q:=.of Tryz.func101 (by kernel_rfl) (by kernel_rfl)
theorem arb:FnOk Tryz.prog T 102 a3r:=.of Tryz.func102 (by kernel_rfl) (by kernel_rfl)
theorem a2e:FnOk Tryz.prog T 103 axb:=.of Tryz.func103 (by kernel_rfl) (by kernel_rfl)
theorem arc:FnOk Tryz.prog T 104 axc:=.of Tryz.func104 (by kernel_rfl) (by kernel_rfl)
theorem ard:FnOk Tryz.prog T 105 a3s:=.of Tryz.func105 (by kernel_rfl) (by kernel_rfl)
theorem a2f:FnOk Tryz.prog T 106 bak:=.of Tryz.func106 (by kernel_rfl) (by kernel_rfl)
theorem are:FnOk Tryz.prog T 107 a3t:=.of Tryz.func107 (by kernel_rfl) (by kernel_rfl)
theorem arf:FnOk Tryz.prog T 108 a3u:=.of Tryz.func108 (by kernel_rfl) (by kernel_rfl)
theorem a2g:FnOk Tryz.prog T 109 bal:=.of Tryz.func109 (by kernel_rfl) (by kernel_rfl)
theorem arg:FnOk Tryz.prog T 110 a3v:=.of Tryz.func110 (by kernel_rfl) (by kernel_rfl)
theorem arh:FnOk Tryz.prog T 111 a3w:=.of Tryz.func111 (by kernel_rfl) (by kernel_rfl)
theorem ari:FnOk Tryz.prog T 112 a3x:=.of Tryz.func112 (by kernel_rfl) (by kernel_rfl)
theorem a2h:FnOk Tryz.prog T 113 a3y:=.of Tryz.func113 (by kernel_rfl) (by kernel_rfl)
theorem arj:FnOk Tryz.prog T 114 a3z:=.of Tryz.func114 (by kernel_rfl) (by kernel_rfl)
theorem ark:FnOk Tryz.prog T 115 a30:=.of Tryz.func115 (by kernel_rfl) (by kernel_rfl)
theorem arl:FnOk Tryz.prog T 116 a32:=.of Tryz.func116 (by kernel_rfl) (by kernel_rfl)
theorem a2i:FnOk Tryz.prog T 117 a33:=.of Tryz.func117 (by kernel_rfl) (by kernel_rfl)
theorem a2j:FnOk Tryz.prog T 118 bam:=.of Tryz.func118 (by kernel_rfl) (by kernel_rfl)
theorem a2k:FnOk Tryz.prog T 119 a34:=.of Tryz.func119 (by kernel_rfl) (by kernel_rfl)
theorem a2l:FnOk Tryz.prog T 120 ban:=.of Tryz.func120 (by kernel_rfl) (by kernel_rfl)
theorem a2m:FnOk Tryz.prog T 121 bao:=.of Tryz.func121 (by kernel_rfl) (by kernel_rfl)
theorem a2n:FnOk Tryz.prog T 122 bap:=.of Tryz.func122 (by kernel_rfl) (by kernel_rfl)
theorem a2o:FnOk Tryz.prog T 123 baq:=.of Tryz.func123 (by kernel_rfl) (by kernel_rfl)
theorem arm:FnOk Tryz.prog T 124 axd:=.of Tryz.func124 (by kernel_rfl) (by kernel_rfl)
theorem a2p:FnOk Tryz.prog T 125 bar:=.of Tryz.func125 (by kernel_rfl) (by kernel_rfl)
theorem a2q:FnOk Tryz.prog T 126 bas:=.of Tryz.func126 (by kernel_rfl) (by kernel_rfl)
theorem a2r:FnOk Tryz.prog T 127 agh:=.of Tryz.func127 (by kernel_rfl) (by kernel_rfl)
theorem arn:FnOk Tryz.prog T 128 a35:=.of Tryz.func128 (by kernel_rfl) (by kernel_rfl)
theorem aro:FnOk Tryz.prog T 129 a38:=.of Tryz.func129 (by kernel_rfl) (by kernel_rfl)
theorem arp:FnOk Tryz.prog T 130 a4a:=.of Tryz.func130 (by kernel_rfl) (by kernel_rfl)
theorem arq:FnOk Tryz.prog T 131 a4b:=.of Tryz.func131 (by kernel_rfl) (by kernel_rfl)
theorem ars:FnOk Tryz.prog T 132 a4c:=.of Tryz.func132 (by kernel_rfl) (by kernel_rfl)
theorem art:FnOk Tryz.prog T 133 axe:=.of Tryz.func133 (by kernel_rfl) (by kernel_rfl)
theorem aru:FnOk Tryz.prog T 134 a4d:=.of Tryz.func134 (by kernel_rfl) (by kernel_rfl)
theorem arv:FnOk Tryz.prog T 135 a4e:=.of Tryz.func135 (by kernel_rfl) (by kernel_rfl)
theorem ak5:FnOk Tryz.prog T 136 za:=.of Tryz.func136 (by kernel_rfl) (by kernel_rfl)
theorem arw:FnOk Tryz.prog T 137 axf:=.of Tryz.func137 (by kernel_rfl) (by kernel_rfl)
theorem arx:FnOk Tryz.prog T 138 axg:=.of Tryz.func138 (by kernel_rfl) (by kernel_rfl)
theorem ary:FnOk Tryz.prog T 139 a4f:=.of Tryz.func139 (by kernel_rfl) (by kernel_rfl)
theorem arz:FnOk Tryz.prog T 140 axh:=.of Tryz.func140 (by kernel_rfl) (by kernel_rfl)
theorem ar0:FnOk Tryz.prog T 141 a4g:=.of Tryz.func141 (by kernel_rfl) (by kernel_rfl)
theorem ar1:FnOk Tryz.prog T 142 atv:=.of Tryz.func142 (by kernel_rfl) (by kernel_rfl)
theorem ar2:FnOk Tryz.prog T 143 axi:=.of Tryz.func143 (by kernel_rfl) (by kernel_rfl)
theorem qf:FnOk Tryz.prog T 144 qh:=.of Tryz.func144 (by kernel_rfl) (by kernel_rfl)
theorem qg:FnOk Tryz.prog T 145 qi:=.of Tryz.func145 (by kernel_rfl) (by kernel_rfl)
theorem ar3:FnOk Tryz.prog T 146 atw:=.of Tryz.func146 (by kernel_rfl) (by kernel_rfl)
theorem ar4:FnOk Tryz.prog T 147 a4h:=.of Tryz.func147 (by kernel_rfl) (by kernel_rfl)
theorem ar5:FnOk Tryz.prog T 148 a4i:=.of Tryz.func148 (by kernel_rfl) (by kernel_rfl)
theorem ar6:FnOk Tryz.prog T 149 a4j:=.of Tryz.func149 (by kernel_rfl) (by kernel_rfl)
theorem ar7:FnOk Tryz.prog T 150 axj:=.of Tryz.func150 (by kernel_rfl) (by kernel_rfl)
theorem ar8:FnOk Tryz.prog T 151 a4k:=.of Tryz.func151 (by kernel_rfl) (by kernel_rfl)
theorem ar9:FnOk Tryz.prog T 152 axk:=.of Tryz.func152 (by kernel_rfl) (by kernel_rfl)
theorem asa:FnOk Tryz.prog T 153 a4l:=.of Tryz.func153 (by kernel_rfl) (by kernel_rfl)
theorem asb:FnOk Tryz.prog T 154 a4m:=.of Tryz.func154 (by kernel_rfl) (by kernel_rfl)
theorem asc:FnOk Tryz.prog T 155 a4n:=.of Tryz.func155 (by kernel_rfl) (by kernel_rfl)
theorem asd:FnOk Tryz.prog T 156 axl:=.of Tryz.func156 (by kernel_rfl) (by kernel_rfl)
theorem ase:FnOk Tryz.prog T 157 a4o:=.of Tryz.func157 (by kernel_rfl) (by kernel_rfl)
theorem a2s:FnOk Tryz.prog T 158 bat:=.of Tryz.func158 (by kernel_rfl) (by kernel_rfl)
theorem asf:FnOk Tryz.prog T 159 a4p:=.of Tryz.func159 (by kernel_rfl) (by kernel_rfl)
theorem asg:FnOk Tryz.prog T 160 a4q:=.of Tryz.func160 (by kernel_rfl) (by kernel_rfl)
theorem ash:FnOk Tryz.prog T 161 a4r:=.of Tryz.func161 (by kernel_rfl) (by kernel_rfl)
theorem asi:FnOk Tryz.prog T 162 a4s:=.of Tryz.func162 (by kernel_rfl) (by kernel_rfl)
theorem ak6:FnOk Tryz.prog T 163 atx:=.of Tryz.func163 (by kernel_rfl) (by kernel_rfl)
theorem asj:FnOk Tryz.prog T 164 a4t:=.of Tryz.func164 (by kernel_rfl) (by kernel_rfl)
theorem ask:FnOk Tryz.prog T 165 axm:=.of Tryz.func165 (by kernel_rfl) (by kernel_rfl)
theorem a2t:FnOk Tryz.prog T 166 bau:=.of Tryz.func166 (by kernel_rfl) (by kernel_rfl)
theorem a2u:FnOk Tryz.prog T 167 agi:=.of Tryz.func167 (by kernel_rfl) (by kernel_rfl)
theorem a2v:FnOk Tryz.prog T 168 bav:=.of Tryz.func168 (by kernel_rfl) (by kernel_rfl)
theorem asl:FnOk Tryz.prog T 169 baw:=.of Tryz.func169 (by kernel_rfl) (by kernel_rfl)
theorem asm:FnOk Tryz.prog T 170 bax:=.of Tryz.func170 (by kernel_rfl) (by kernel_rfl)
theorem a2w:FnOk Tryz.prog T 171 bay:=.of Tryz.func171 (by kernel_rfl) (by kernel_rfl)
theorem a2x:FnOk Tryz.prog T 172 baz:=.of Tryz.func172 (by kernel_rfl) (by kernel_rfl)
theorem a2y:FnOk Tryz.prog T 173 ba0:=.of Tryz.func173 (by kernel_rfl) (by kernel_rfl)
theorem a2z:FnOk Tryz.prog T 174 axn:=.of Tryz.func174 (by kernel_rfl) (by kernel_rfl)
theorem a23:FnOk Tryz.prog T 175 ba1:=.of Tryz.func175 (by kernel_rfl) (by kernel_rfl)
theorem asn:FnOk Tryz.prog T 176 a4u:=.of Tryz.func176 (by kernel_rfl) (by kernel_rfl)
theorem aso:FnOk Tryz.prog T 177 a4v:=.of Tryz.func177 (by kernel_rfl) (by kernel_rfl)
theorem asq:FnOk Tryz.prog T 178 a4w:=.of Tryz.func178 (by kernel_rfl) (by kernel_rfl)
theorem asr:FnOk Tryz.prog T 179 a4x:=.of Tryz.func179 (by kernel_rfl) (by kernel_rfl)
theorem ass:FnOk Tryz.prog T 180 axo:=.of Tryz.func180 (by kernel_rfl) (by kernel_rfl)
theorem ast:FnOk Tryz.prog T 181 a4y:=.of Tryz.func181 (by kernel_rfl) (by kernel_rfl)
theorem asu:FnOk Tryz.prog T 182 aty:=.of Tryz.func182 (by kernel_rfl) (by kernel_rfl)
theorem asv:FnOk Tryz.prog T 183 a4z:=.of Tryz.func183 (by kernel_rfl) (by kernel_rfl)
theorem asw:FnOk Tryz.prog T 184 a40:=.of Tryz.func184 (by kernel_rfl) (by kernel_rfl)
theorem asx:FnOk Tryz.prog T 185 a41:=.of Tryz.func185 (by kernel_rfl) (by kernel_rfl)
theorem asy:FnOk Tryz.prog T 186 a42:=.of Tryz.func186 (by kernel_rfl) (by kernel_rfl)
theorem asz:FnOk Tryz.prog T 187 ad2:=.of Tryz.func187 (by kernel_rfl) (by kernel_rfl)
theorem as0:FnOk Tryz.prog T 188 a43:=.of Tryz.func188 (by kernel_rfl) (by kernel_rfl)
theorem as1:FnOk Tryz.prog T 189 axp:=.of Tryz.func189 (by kernel_rfl) (by kernel_rfl)
theorem as2:FnOk Tryz.prog T 190 a44:=.of Tryz.func190 (by kernel_rfl) (by kernel_rfl)
theorem as3:FnOk Tryz.prog T 191 a45:=.of Tryz.func191 (by kernel_rfl) (by kernel_rfl)
theorem ak7:FnOk Tryz.prog T 192 atz:=.of Tryz.func192 (by kernel_rfl) (by kernel_rfl)
theorem as4:FnOk Tryz.prog T 193 a47:=.of Tryz.func193 (by kernel_rfl) (by kernel_rfl)
theorem as5:FnOk Tryz.prog T 194 a48:=.of Tryz.func194 (by kernel_rfl) (by kernel_rfl)
theorem ak8:FnOk Tryz.prog T 195 at0:=.of Tryz.func195 (by kernel_rfl) (by kernel_rfl)
theorem as6:FnOk Tryz.prog T 196 a49:=.of Tryz.func196 (by kernel_rfl) (by kernel_rfl)
theorem as7:FnOk Tryz.prog T 197 a5a:=.of Tryz.func197 (by kernel_rfl) (by kernel_rfl)
theorem as8:FnOk Tryz.prog T 198 a5b:=.of Tryz.func198 (by kernel_rfl) (by kernel_rfl)
theorem a25:FnOk Tryz.prog T 199 ba2:=.of Tryz.func199 (by kernel_rfl) (by kernel_rfl)
theorem a26:FnOk Tryz.prog T 200 ba3:=.of Tryz.func200 (by kernel_rfl) (by kernel_rfl)
theorem as9:FnOk Tryz.prog T 201 a5c:=.of Tryz.func201 (by kernel_rfl) (by kernel_rfl)
theorem ata:FnOk Tryz.prog T 202 axq:=.of Tryz.func202 (by kernel_rfl) (by kernel_rfl)
theorem atb:FnOk Tryz.prog T 203 a5d:=.of Tryz.func203 (by kernel_rfl) (by kernel_rfl)
theorem a27:FnOk Tryz.prog T 204 ba4:=.of Tryz.func204 (by kernel_rfl) (by kernel_rfl)
theorem a28:FnOk Tryz.prog T 205 ba5:=.of Tryz.func205 (by kernel_rfl) (by kernel_rfl)
theorem a29:FnOk Tryz.prog T 206 ba6:=.of Tryz.func206 (by kernel_rfl) (by kernel_rfl)
theorem a3a:FnOk Tryz.prog T 207 ba7:=.of Tryz.func207 (by kernel_rfl) (by kernel_rfl)
theorem a3b:FnOk Tryz.prog T 208 ba8:=.of Tryz.func208 (by kernel_rfl) (by kernel_rfl)
theorem a3c:FnOk Tryz.prog T 210 agj:=.of Tryz.func210 (by kernel_rfl) (by kernel_rfl)
theorem a3d:FnOk Tryz.prog T 211 ba9:=.of Tryz.func211 (by kernel_rfl) (by kernel_rfl)
theorem a3e:FnOk Tryz.prog T 212 bba:=.of Tryz.func212 (by kernel_rfl) (by kernel_rfl)
theorem a3f:FnOk Tryz.prog T 213 bbb:=.of Tryz.func213 (by kernel_rfl) (by kernel_rfl)
theorem a3g:FnOk Tryz.prog T 216 bbc:=.of Tryz.func216 (by kernel_rfl) (by kernel_rfl)
theorem a3h:FnOk Tryz.prog T 217 bbd:=.of Tryz.func217 (by kernel_rfl) (by kernel_rfl)
theorem a3i:FnOk Tryz.prog T 218 bbe:=.of Tryz.func218 (by kernel_rfl) (by kernel_rfl)
theorem a3j:FnOk Tryz.prog T 219 bbf:=.of Tryz.func219 (by kernel_rfl) (by kernel_rfl)
theorem a3k:FnOk Tryz.prog T 220 bbg:=.of Tryz.func220 (by kernel_rfl) (by kernel_rfl)
theorem a3l:FnOk Tryz.prog T 222 bbh:=.of Tryz.func222 (by kernel_rfl) (by kernel_rfl)
theorem a3m:FnOk Tryz.prog T 224 bbi:=.of Tryz.func224 (by kernel_rfl) (by kernel_rfl)
theorem a3n:FnOk Tryz.prog T 225 bbj:=.of Tryz.func225 (by kernel_rfl) (by kernel_rfl)
theorem a3o:FnOk Tryz.prog T 229 bbk:=.of Tryz.func229 (by kernel_rfl) (by kernel_rfl)
theorem atc:FnOk Tryz.prog T 245 a5e:=.of Tryz.func245 (by kernel_rfl) (by kernel_rfl)
theorem atd:FnOk Tryz.prog T 246 axr:=.of Tryz.func246 (by kernel_rfl) (by kernel_rfl)
theorem ate:FnOk Tryz.prog T 247 a5f:=.of Tryz.func247 (by kernel_rfl) (by kernel_rfl)
theorem atf:FnOk Tryz.prog T 248 axs:=.of Tryz.func248 (by kernel_rfl) (by kernel_rfl)
theorem atg:FnOk Tryz.prog T 249 a5g:=.of Tryz.func249 (by kernel_rfl) (by kernel_rfl)
theorem ath:FnOk Tryz.prog T 250 a5h:=.of Tryz.func250 (by kernel_rfl) (by kernel_rfl)
theorem ati:FnOk Tryz.prog T 251 ala:=.of Tryz.func251 (by kernel_rfl) (by kernel_rfl)
theorem atj:FnOk Tryz.prog T 252 axt:=.of Tryz.func252 (by kernel_rfl) (by kernel_rfl)
theorem ak9:FnOk Tryz.prog T 253 axu:=.of Tryz.func253 (by kernel_rfl) (by kernel_rfl)
theorem atk:FnOk Tryz.prog T 254 a5i:=.of Tryz.func254 (by kernel_rfl) (by kernel_rfl)
theorem atl:FnOk Tryz.prog T 255 axv:=.of Tryz.func255 (by kernel_rfl) (by kernel_rfl)
theorem atm:FnOk Tryz.prog T 256 alb:=.of Tryz.func256 (by kernel_rfl) (by kernel_rfl)
theorem atn:FnOk Tryz.prog T 257 aow:=.of Tryz.func257 (by kernel_rfl) (by kernel_rfl)
theorem ato:FnOk Tryz.prog T 258 at1:=.of Tryz.func258 (by kernel_rfl) (by kernel_rfl)
theorem atp:FnOk Tryz.prog T 259 axw:=.of Tryz.func259 (by kernel_rfl) (by kernel_rfl)
theorem atq:FnOk Tryz.prog T 260 axx:=.of Tryz.func260 (by kernel_rfl) (by kernel_rfl)
theorem atr:FnOk Tryz.prog T 261 axy:=.of Tryz.func261 (by kernel_rfl) (by kernel_rfl)
theorem att:FnOk Tryz.prog T 262 a5j:=.of Tryz.func262 (by kernel_rfl) (by kernel_rfl)
theorem atu:FnOk Tryz.prog T 263 axz:=.of Tryz.func263 (by kernel_rfl) (by kernel_rfl)
theorem t3:T.get 3=some r3:=by kernel_rfl
theorem t4:T.get 4=some r4:=by kernel_rfl
theorem t9:T.get 9=some r9:=by kernel_rfl
theorem t22:T.get 22=some r22:=by kernel_rfl
theorem t24:T.get 24=some r24:=by kernel_rfl
theorem t25:T.get 25=some r25:=by kernel_rfl
theorem t26:T.get 26=some r26:=by kernel_rfl
theorem t28:T.get 28=some r28:=by kernel_rfl
theorem t30:T.get 30=some r30:=by kernel_rfl
theorem t31:T.get 31=some r31:=by kernel_rfl
theorem t36:T.get 36=some r36:=by kernel_rfl
theorem t45:T.get 45=some r45:=by kernel_rfl
theorem t47:T.get 47=some r47:=by kernel_rfl
theorem t50:T.get 50=some r50:=by kernel_rfl
theorem t51:T.get 51=some r51:=by kernel_rfl
theorem t53:T.get 53=some r53:=by kernel_rfl
theorem t55:T.get 55=some r55:=by kernel_rfl
theorem t57:T.get 57=some r57:=by kernel_rfl
theorem t66:T.get 66=some r66:=by kernel_rfl
theorem t72:T.get 72=some r72:=by kernel_rfl
theorem t76:T.get 76=some r76:=by kernel_rfl
theorem t88:T.get 88=some r88:=by kernel_rfl
theorem bmh:T.get 116=some a6b:=by kernel_rfl
theorem bmi:T.get 120=some a6c:=by kernel_rfl
theorem bmj:T.get 121=some a6d:=by kernel_rfl
theorem bmk:T.get 123=some a6e:=by kernel_rfl
theorem bml:T.get 128=some a6f:=by kernel_rfl
theorem bmm:T.get 133=some a6g:=by kernel_rfl
theorem bmn:T.get 136=some a6h:=by kernel_rfl
theorem bmo:T.get 137=some a6i:=by kernel_rfl
theorem bmp:T.get 145=some a6j:=by kernel_rfl
theorem bh2:T.get 146=some a6k:=by kernel_rfl
theorem bmq:T.get 147=some a6l:=by kernel_rfl
theorem bmr:T.get 148=some a6m:=by kernel_rfl
theorem bms:T.get 151=some a6n:=by kernel_rfl
theorem bmt:T.get 157=some a6o:=by kernel_rfl
theorem bmu:T.get 160=some a6p:=by kernel_rfl
theorem bmv:T.get 175=some a6q:=by kernel_rfl
theorem bmw:T.get 189=some a6r:=by kernel_rfl
theorem bmx:T.get 197=some a6s:=by kernel_rfl
theorem bmy:T.get 218=some a6t:=by kernel_rfl
theorem bmz:T.get 219=some a6u:=by kernel_rfl
theorem bm0:T.get 220=some a6v:=by kernel_rfl
theorem bm1:T.get 221=some a6w:=by kernel_rfl
theorem bm2:T.get 222=some a6x:=by kernel_rfl
theorem bm3:T.get 223=some a6y:=by kernel_rfl
theorem bm4:T.get 224=some a6z:=by kernel_rfl
theorem bm5:T.get 225=some a60:=by kernel_rfl
theorem bm6:T.get 230=some a61:=by kernel_rfl
theorem bh3:T.get 232=some a62:=by kernel_rfl
theorem bm7:T.get 236=some a63:=by kernel_rfl
theorem bm8:T.get 238=some a64:=by kernel_rfl
theorem bm9:T.get 239=some a65:=by kernel_rfl
@[simp] theorem blb:ah 6 g25.plans=some [(0,[]),(1,[]),(2,[]),(3,[]),(4,[]),(5,[]),(6,[]),(7,[])]:=ai rfl
@[simp] theorem bj8:ah 11 g25.plans=some [(0,[]),(1,[]),(2,[]),(3,[]),(4,[]),(5,[]),(6,[]),(7,[]),(8,[]),(9,[]),(10,[]),(11,[]),(12,[]),(13,[]),(14,[]),(15,[]),(16,[]),(17,[]),(18,[]),(19,[]),(20,[]),(21,[]),(22,[]),(23,[]),(24,[]),(25,[]),(26,[]),(27,[])]:=ai rfl
@[simp] theorem bkc:ah 11 g26.plans=some [(1,[]),(0,[1]),(2,[1]),(3,[]),(4,[]),(5,[]),(6,[]),(7,[]),(8,[]),(9,[]),(10,[]),(11,[])]:=ai rfl
@[simp] theorem blc:ah 6 g34.plans=some [(0,[]),(1,[]),(2,[]),(3,[]),(4,[]),(5,[]),(6,[]),(7,[]),(8,[])]:=ai rfl
@[simp] theorem bld:ah 1 g42.plans=some [(0,[]),(1,[]),(2,[]),(3,[]),(4,[0]),(5,[]),(6,[]),(7,[]),(8,[]),(9,[]),(10,[])]:=ai rfl
@[simp] theorem blf:ah 6 g43.plans=some [(0,[]),(1,[]),(2,[]),(3,[]),(4,[]),(5,[]),(6,[]),(7,[]),(8,[]),(9,[]),(10,[]),(11,[]),(12,[]),(13,[]),(14,[]),(15,[]),(16,[]),(17,[]),(18,[]),(19,[]),(20,[])]:=ai rfl
@[simp] theorem blg:ah 1 g44.plans=some [(0,[]),(1,[]),(2,[]),(3,[]),(4,[]),(5,[]),(6,[4]),(7,[]),(8,[])]:=ai rfl
@[simp] theorem blh:ah 1 g48.plans=some [(0,[]),(1,[]),(2,[]),(3,[]),(4,[0]),(5,[]),(6,[]),(7,[0]),(8,[]),(9,[]),(10,[]),(11,[]),(12,[]),(13,[]),(14,[])]:=ai rfl
@[simp] theorem bkd:ah 13 g48.plans=some [(0,[]),(1,[]),(2,[]),(3,[]),(4,[]),(5,[]),(6,[]),(8,[]),(7,[]),(9,[])]:=ai rfl
@[simp] theorem blm:ah 8 g55.plans=some [(0,[]),(1,[]),(2,[]),(3,[]),(4,[]),(5,[]),(6,[]),(7,[]),(8,[]),(9,[]),(10,[]),(11,[]),(12,[]),(13,[]),(14,[]),(15,[]),(16,[]),(17,[]),(18,[]),(19,[]),(20,[]),(21,[]),(22,[]),(23,[]),(24,[]),(25,[]),(26,[]),(27,[]),(28,[]),(29,[])]:=ai rfl
@[simp] theorem bke:ah 11 g58.plans=some [(0,[]),(1,[]),(2,[]),(3,[]),(4,[]),(5,[]),(6,[]),(7,[]),(8,[]),(9,[])]:=ai rfl
@[simp] theorem bkf:ah 24 g58.plans=some [(0,[]),(1,[]),(2,[]),(3,[]),(4,[3]),(5,[]),(6,[])]:=ai rfl
@[simp] theorem bls:ah 5 g65.plans=some [(0,[]),(1,[]),(2,[]),(3,[]),(4,[]),(5,[]),(6,[]),(7,[]),(8,[]),(9,[]),(10,[]),(11,[]),(12,[])]:=ai rfl
@[simp] theorem blw:ah 6 g73.plans=some [(0,[]),(1,[]),(2,[]),(3,[]),(4,[]),(5,[]),(6,[]),(7,[]),(8,[]),(9,[]),(10,[])]:=ai rfl
@[simp] theorem blx:ah 6 g82.plans=some [(0,[]),(1,[]),(2,[]),(3,[]),(4,[]),(5,[]),(6,[]),(7,[]),(8,[]),(9,[]),(10,[]),(11,[]),(12,[]),(13,[]),(14,[]),(15,[]),(16,[]),(17,[]),(18,[]),(19,[])]:=ai rfl
@[simp] theorem bly:ah 6 g88.plans=some [(0,[]),(1,[]),(2,[]),(3,[]),(4,[]),(5,[]),(6,[]),(7,[]),(8,[])]:=ai rfl
@[simp] theorem bip:ah 4 axc.plans=some [(0,[]),(1,[]),(2,[]),(3,[]),(4,[]),(5,[]),(6,[]),(7,[]),(8,[]),(9,[]),(10,[]),(11,[]),(12,[]),(13,[]),(14,[]),(15,[]),(16,[]),(17,[]),(18,[]),(19,[]),(20,[]),(21,[]),(22,[]),(23,[]),(24,[]),(25,[]),(26,[]),(27,[]),(28,[]),(29,[])]:=ai rfl
@[simp] theorem bis:ah 6 axd.plans=some [(0,[]),(1,[]),(2,[]),(3,[]),(4,[]),(5,[]),(6,[]),(7,[]),(8,[]),(9,[]),(10,[])]:=ai rfl
@[simp] theorem biu:ah 3 axe.plans=some [(0,[]),(1,[]),(2,[]),(4,[]),(5,[]),(6,[]),(8,[]),(9,[]),(3,[4,6,9]),(7,[9]),(10,[]),(11,[]),(12,[]),(13,[]),(14,[]),(15,[]),(16,[]),(17,[]),(18,[])]:=ai rfl
@[simp] theorem biv:ah 1 axf.plans=some [(0,[]),(1,[]),(2,[]),(3,[]),(4,[0]),(5,[]),(6,[]),(7,[])]:=ai rfl
@[simp] theorem biw:ah 5 axg.plans=some [(0,[]),(1,[]),(2,[]),(3,[]),(4,[]),(5,[]),(6,[]),(7,[]),(8,[]),(9,[]),(10,[]),(11,[]),(12,[]),(13,[]),(14,[]),(15,[]),(16,[]),(17,[]),(18,[])]:=ai rfl
@[simp] theorem bix:ah 1 axh.plans=some [(0,[]),(1,[]),(2,[]),(3,[]),(4,[]),(5,[]),(6,[]),(7,[]),(8,[]),(9,[]),(10,[]),(11,[]),(12,[]),(13,[]),(14,[])]:=ai rfl
@[simp] theorem biy:ah 1 atv.plans=some [(0,[]),(1,[]),(2,[]),(4,[]),(5,[]),(3,[0,5]),(6,[0]),(7,[]),(8,[]),(9,[])]:=ai rfl
@[simp] theorem biz:ah 6 atv.plans=some [(0,[]),(1,[]),(2,[]),(3,[]),(4,[]),(5,[]),(6,[]),(7,[]),(8,[]),(9,[]),(10,[])]:=ai rfl
@[simp] theorem bi0:ah 4 axi.plans=some [(0,[]),(1,[]),(2,[]),(3,[]),(4,[]),(5,[]),(6,[]),(7,[]),(8,[]),(9,[]),(10,[]),(11,[]),(12,[]),(13,[]),(14,[]),(15,[]),(16,[]),(17,[]),(18,[]),(19,[]),(20,[]),(21,[]),(22,[]),(23,[]),(24,[]),(25,[]),(26,[]),(27,[]),(28,[]),(29,[]),(30,[]),(31,[]),(32,[]),(33,[]),(34,[]),(35,[]),(36,[]),(37,[]),(38,[]),(39,[]),(40,[])]:=ai rfl
@[simp] theorem bi1:ah 3 qh.plans=some [(0,[]),(1,[]),(2,[]),(3,[]),(4,[]),(5,[]),(6,[]),(7,[]),(8,[]),(9,[]),(10,[]),(11,[]),(12,[]),(13,[])]:=ai rfl
@[simp] theorem bi2:ah 7 qh.plans=some [(0,[]),(1,[]),(2,[]),(3,[]),(4,[]),(5,[]),(6,[]),(7,[]),(8,[]),(9,[]),(10,[]),(11,[]),(12,[]),(13,[]),(14,[]),(15,[]),(16,[]),(17,[]),(18,[]),(19,[]),(20,[]),(21,[]),(22,[]),(23,[]),(24,[]),(25,[])]:=ai rfl
@[simp] theorem bi3:ah 9 qh.plans=some [(0,[]),(1,[]),(2,[]),(3,[]),(4,[]),(5,[]),(6,[]),(7,[]),(8,[]),(9,[]),(10,[]),(11,[]),(12,[]),(13,[]),(14,[]),(15,[]),(16,[]),(17,[]),(18,[]),(19,[]),(20,[]),(21,[]),(22,[]),(23,[]),(24,[]),(25,[]),(26,[]),(27,[])]:=ai rfl
@[simp] theorem bcn:ah 11 qh.plans=some [(0,[]),(1,[]),(2,[]),(3,[]),(4,[]),(5,[]),(6,[]),(7,[]),(8,[]),(9,[]),(10,[]),(11,[]),(12,[]),(13,[]),(14,[]),(15,[]),(16,[]),(17,[]),(18,[]),(19,[]),(20,[]),(21,[]),(22,[]),(23,[]),(24,[]),(25,[]),(26,[]),(27,[]),(28,[]),(29,[]),(30,[]),(31,[]),(32,[]),(33,[]),(34,[]),(35,[]),(36,[]),(37,[]),(38,[]),(39,[]),(40,[]),(41,[]),(42,[]),(43,[]),(44,[])]:=ai rfl
@[simp] theorem bco:ah 13 qh.plans=some [(0,[]),(1,[]),(2,[]),(3,[]),(4,[]),(5,[]),(6,[]),(7,[]),(8,[]),(9,[])]:=ai rfl
@[simp] theorem bcp:ah 14 qh.plans=some [(0,[]),(1,[]),(2,[]),(3,[]),(4,[]),(6,[]),(7,[]),(8,[]),(9,[]),(10,[]),(11,[]),(12,[]),(13,[]),(5,[8,10,12]),(14,[]),(15,[]),(16,[])]:=ai rfl
@[simp] theorem bcq:ah 17 qh.plans=some [(0,[]),(1,[]),(2,[]),(3,[]),(4,[]),(5,[]),(6,[]),(7,[]),(8,[]),(9,[]),(10,[]),(11,[]),(12,[]),(13,[]),(14,[]),(15,[]),(16,[]),(17,[]),(18,[]),(19,[]),(20,[]),(21,[]),(22,[]),(23,[]),(24,[]),(25,[]),(26,[]),(27,[]),(28,[]),(29,[]),(30,[]),(31,[]),(32,[]),(33,[]),(34,[]),(35,[]),(36,[])]:=ai rfl
@[simp] theorem bcr:ah 19 qh.plans=some [(0,[]),(1,[]),(2,[]),(3,[]),(4,[]),(5,[]),(6,[]),(7,[]),(8,[]),(9,[]),(10,[]),(11,[]),(12,[]),(13,[]),(14,[]),(15,[]),(16,[]),(17,[]),(18,[]),(19,[]),(20,[]),(21,[]),(22,[]),(23,[]),(24,[]),(25,[]),(26,[]),(27,[]),(28,[]),(29,[]),(30,[]),(31,[]),(32,[]),(33,[]),(34,[])]:=ai rfl
@[simp] theorem bcs:ah 20 qh.plans=some [(0,[]),(1,[]),(2,[]),(3,[]),(4,[]),(5,[]),(6,[]),(7,[]),(8,[]),(9,[]),(10,[]),(11,[]),(12,[]),(13,[]),(14,[]),(15,[]),(16,[]),(17,[])]:=ai rfl
@[simp] theorem bi4:ah 5 qi.plans=some [(0,[]),(1,[]),(2,[]),(3,[]),(4,[]),(5,[]),(6,[]),(7,[]),(8,[]),(9,[]),(10,[]),(11,[]),(12,[]),(13,[]),(14,[]),(15,[])]:=ai rfl
@[simp] theorem bct:ah 11 qi.plans=some [(0,[]),(1,[]),(2,[]),(3,[]),(4,[]),(5,[]),(6,[]),(7,[]),(8,[]),(9,[]),(10,[]),(11,[])]:=ai rfl
@[simp] theorem bcu:ah 12 qi.plans=some [(0,[]),(1,[]),(2,[]),(3,[]),(4,[]),(5,[]),(6,[]),(7,[]),(8,[]),(9,[])]:=ai rfl
@[simp] theorem bcv:ah 13 qi.plans=some [(0,[]),(1,[]),(2,[]),(3,[]),(4,[]),(5,[]),(6,[]),(7,[]),(8,[]),(9,[]),(10,[]),(11,[]),(12,[]),(13,[])]:=ai rfl
@[simp] theorem bcw:ah 14 qi.plans=some [(0,[]),(1,[]),(2,[]),(3,[]),(4,[]),(5,[]),(6,[]),(7,[]),(8,[]),(9,[]),(10,[]),(11,[]),(12,[]),(13,[])]:=ai rfl
@[simp] theorem bcx:ah 16 qi.plans=some [(0,[]),(1,[]),(2,[]),(3,[]),(4,[]),(5,[]),(6,[]),(7,[])]:=ai rfl
@[simp] theorem bcy:ah 20 qi.plans=some [(0,[]),(1,[]),(2,[]),(3,[]),(4,[]),(5,[]),(6,[]),(7,[]),(8,[]),(9,[]),(10,[])]:=ai rfl
@[simp] theorem bcz:ah 21 qi.plans=some [(0,[]),(1,[]),(2,[]),(3,[]),(4,[]),(5,[]),(6,[]),(7,[]),(8,[]),(9,[])]:=ai rfl
@[simp] theorem bc0:ah 23 qi.plans=some [(0,[]),(1,[]),(2,[]),(3,[]),(4,[]),(5,[]),(6,[]),(7,[]),(8,[])]:=ai rfl
@[simp] theorem bi5:ah 2 atw.plans=some [(0,[]),(1,[]),(2,[]),(3,[]),(4,[]),(5,[]),(6,[]),(7,[]),(8,[]),(9,[]),(10,[])]:=ai rfl
@[simp] theorem bi6:ah 9 atw.plans=some [(0,[]),(1,[]),(2,[]),(3,[]),(4,[]),(5,[]),(6,[])]:=ai rfl
@[simp] theorem bi7:ah 3 axj.plans=some [(0,[]),(1,[]),(2,[]),(4,[]),(3,[4]),(5,[]),(6,[]),(7,[]),(8,[]),(9,[]),(10,[]),(11,[])]:=ai rfl
@[simp] theorem bi8:ah 4 axk.plans=some [(0,[]),(1,[]),(2,[]),(3,[]),(4,[]),(5,[]),(6,[]),(7,[]),(8,[]),(9,[])]:=ai rfl
@[simp] theorem bi9:ah 7 axl.plans=some [(0,[]),(1,[]),(3,[]),(2,[0]),(4,[]),(5,[])]:=ai rfl
@[simp] theorem bja:ah 9 atx.plans=some [(0,[]),(1,[]),(3,[]),(2,[0,3]),(4,[]),(5,[]),(6,[])]:=ai rfl
@[simp] theorem bjb:ah 2 axm.plans=some [(0,[]),(1,[]),(2,[]),(3,[]),(4,[]),(5,[]),(6,[]),(7,[])]:=ai rfl
@[simp] theorem bjh:ah 0 axo.plans=some [(0,[]),(1,[]),(2,[]),(3,[]),(4,[]),(5,[]),(6,[]),(7,[]),(8,[]),(9,[]),(10,[]),(11,[]),(12,[]),(13,[]),(14,[]),(15,[])]:=ai rfl
@[simp] theorem bc5:ah 10 aty.plans=some [(0,[]),(1,[]),(2,[]),(3,[]),(4,[]),(5,[]),(6,[]),(7,[])]:=ai rfl
@[simp] theorem bc6:ah 12 aty.plans=some [(0,[]),(1,[]),(2,[]),(3,[]),(4,[]),(5,[]),(6,[]),(7,[]),(8,[]),(9,[])]:=ai rfl
@[simp] theorem bji:ah 1 ad2.plans=some [(0,[]),(1,[]),(2,[]),(3,[]),(4,[]),(5,[]),(6,[]),(7,[])]:=ai rfl
@[simp] theorem bjj:ah 5 ad2.plans=some [(0,[]),(1,[]),(2,[]),(3,[]),(4,[]),(5,[]),(6,[]),(7,[]),(8,[]),(9,[])]:=ai rfl
@[simp] theorem bc7:ah 11 ad2.plans=some [(0,[]),(1,[]),(2,[]),(3,[]),(4,[]),(5,[]),(6,[]),(7,[]),(8,[]),(9,[]),(10,[]),(11,[]),(12,[]),(13,[]),(14,[]),(15,[]),(16,[]),(17,[])]:=ai rfl
@[simp] theorem bc8:ah 18 ad2.plans=some [(0,[]),(1,[]),(2,[]),(3,[]),(4,[]),(5,[]),(6,[]),(7,[]),(8,[]),(9,[]),(10,[]),(11,[]),(12,[]),(13,[]),(14,[]),(15,[]),(16,[]),(17,[]),(18,[]),(19,[]),(20,[]),(21,[])]:=ai rfl
@[simp] theorem bc9:ah 23 ad2.plans=some [(0,[]),(1,[]),(2,[]),(3,[]),(4,[]),(5,[]),(6,[]),(7,[]),(8,[]),(9,[]),(10,[]),(11,[]),(12,[]),(13,[]),(14,[]),(15,[]),(16,[]),(17,[]),(18,[]),(19,[]),(20,[]),(21,[]),(22,[]),(23,[]),(24,[]),(25,[]),(26,[]),(27,[]),(28,[]),(29,[]),(30,[]),(31,[]),(32,[])]:=ai rfl
@[simp] theorem bda:ah 25 ad2.plans=some [(0,[]),(1,[]),(2,[]),(3,[]),(4,[]),(5,[]),(6,[]),(7,[]),(8,[]),(9,[])]:=ai rfl
@[simp] theorem bdb:ah 26 ad2.plans=some [(0,[]),(1,[]),(2,[]),(3,[]),(4,[]),(5,[]),(6,[]),(7,[]),(8,[]),(9,[]),(10,[]),(11,[]),(12,[]),(13,[]),(14,[])]:=ai rfl
@[simp] theorem bjk:ah 1 axp.plans=some [(0,[]),(1,[]),(2,[]),(3,[]),(4,[]),(5,[]),(6,[]),(7,[]),(8,[]),(9,[]),(10,[]),(11,[]),(12,[]),(13,[]),(14,[])]:=ai rfl
@[simp] theorem bjl:ah 9 atz.plans=some [(0,[]),(1,[]),(3,[]),(4,[]),(6,[]),(7,[]),(2,[0]),(5,[0]),(8,[]),(9,[])]:=ai rfl
@[simp] theorem bdc:ah 10 at0.plans=some [(0,[]),(1,[]),(2,[]),(4,[]),(5,[]),(7,[]),(3,[1]),(6,[1]),(8,[]),(9,[]),(10,[])]:=ai rfl
@[simp] theorem bjp:ah 5 axq.plans=some [(0,[]),(1,[]),(2,[]),(3,[]),(4,[]),(5,[]),(6,[]),(7,[]),(8,[]),(9,[]),(10,[]),(11,[])]:=ai rfl
@[simp] theorem bjt:ah 1 axr.plans=some [(0,[]),(1,[]),(2,[]),(3,[]),(4,[]),(5,[]),(6,[]),(7,[]),(8,[]),(9,[]),(10,[]),(11,[]),(12,[]),(13,[]),(14,[]),(15,[])]:=ai rfl
@[simp] theorem bju:ah 1 axs.plans=some [(0,[]),(1,[]),(2,[]),(3,[]),(4,[]),(5,[]),(6,[]),(7,[]),(8,[]),(9,[]),(10,[]),(11,[]),(12,[]),(13,[]),(14,[]),(15,[]),(16,[]),(17,[]),(18,[]),(19,[])]:=ai rfl
@[simp] theorem bjv:ah 1 ala.plans=some [(0,[]),(1,[]),(2,[]),(3,[]),(4,[]),(5,[]),(6,[]),(7,[]),(8,[])]:=ai rfl
@[simp] theorem bdh:ah 12 ala.plans=some [(0,[]),(1,[]),(2,[]),(3,[]),(4,[]),(5,[]),(6,[]),(7,[]),(8,[]),(9,[]),(10,[]),(11,[]),(12,[])]:=ai rfl
@[simp] theorem bdi:ah 27 ala.plans=some [(0,[]),(1,[]),(2,[]),(3,[]),(4,[]),(5,[]),(6,[]),(7,[]),(8,[]),(9,[]),(10,[]),(11,[]),(12,[]),(13,[]),(14,[]),(15,[12]),(16,[]),(17,[]),(18,[])]:=ai rfl
@[simp] theorem bdj:ah 28 ala.plans=some [(0,[]),(1,[]),(2,[]),(3,[]),(4,[]),(5,[]),(6,[]),(7,[]),(8,[]),(9,[]),(10,[]),(11,[]),(12,[]),(13,[]),(14,[]),(15,[])]:=ai rfl
@[simp] theorem bjw:ah 1 axt.plans=some [(0,[]),(1,[]),(2,[]),(3,[]),(4,[]),(5,[]),(6,[]),(7,[]),(8,[]),(9,[]),(10,[]),(11,[]),(12,[]),(13,[]),(14,[]),(15,[]),(16,[]),(17,[]),(18,[]),(19,[]),(20,[]),(21,[]),(22,[]),(23,[]),(24,[]),(25,[]),(26,[]),(27,[]),(28,[]),(29,[])]:=ai rfl
@[simp] theorem bjx:ah 1 axv.plans=some [(0,[]),(1,[]),(2,[]),(3,[]),(4,[]),(5,[]),(6,[]),(7,[]),(8,[]),(9,[]),(10,[]),(11,[]),(12,[]),(13,[]),(14,[]),(15,[]),(16,[]),(17,[]),(18,[]),(19,[]),(20,[]),(21,[]),(22,[]),(23,[]),(24,[]),(25,[]),(26,[]),(27,[]),(28,[]),(29,[]),(30,[]),(31,[])]:=ai rfl
@[simp] theorem bjy:ah 1 alb.plans=some [(0,[]),(1,[]),(2,[]),(3,[]),(4,[]),(5,[]),(6,[]),(7,[]),(8,[])]:=ai rfl
@[simp] theorem bjz:ah 2 alb.plans=some [(0,[]),(1,[]),(2,[]),(3,[]),(4,[]),(5,[]),(6,[]),(7,[]),(8,[]),(9,[]),(10,[])]:=ai rfl
@[simp] theorem bj0:ah 4 alb.plans=some [(0,[]),(1,[]),(2,[]),(3,[]),(4,[]),(5,[]),(6,[]),(7,[]),(8,[]),(9,[]),(10,[]),(11,[]),(12,[])]:=ai rfl
@[simp] theorem bj1:ah 5 alb.plans=some [(0,[]),(1,[]),(2,[]),(3,[]),(4,[]),(5,[]),(6,[]),(7,[]),(8,[]),(9,[]),(10,[]),(11,[]),(12,[]),(13,[]),(14,[])]:=ai rfl
@[simp] theorem bj2:ah 1 aow.plans=some [(0,[]),(1,[]),(2,[]),(3,[]),(4,[]),(5,[]),(6,[]),(7,[]),(8,[]),(9,[]),(10,[]),(11,[]),(12,[]),(13,[]),(14,[]),(15,[]),(16,[]),(17,[]),(18,[]),(19,[]),(20,[]),(21,[]),(22,[]),(23,[]),(24,[]),(25,[]),(26,[]),(27,[]),(28,[]),(29,[]),(30,[]),(31,[]),(32,[]),(33,[]),(34,[]),(35,[]),(36,[]),(37,[]),(38,[]),(39,[]),(40,[]),(41,[]),(42,[]),(43,[]),(44,[]),(45,[]),(46,[]),(47,[]),(48,[]),(49,[])]:=ai rfl
@[simp] theorem bj3:ah 3 aow.plans=some [(0,[]),(1,[]),(2,[]),(3,[]),(4,[]),(5,[]),(6,[]),(7,[]),(8,[]),(9,[]),(10,[])]:=ai rfl
@[simp] theorem bj4:ah 4 aow.plans=some [(0,[]),(1,[]),(2,[]),(3,[]),(4,[]),(5,[]),(7,[]),(8,[]),(9,[]),(10,[]),(11,[]),(12,[]),(13,[]),(14,[]),(15,[]),(6,[9,11,14]),(16,[]),(17,[]),(18,[])]:=ai rfl
@[simp] theorem bj5:ah 1 at1.plans=some [(0,[]),(1,[]),(2,[]),(3,[]),(4,[]),(5,[]),(6,[]),(7,[]),(8,[])]:=ai rfl
@[simp] theorem bj6:ah 6 at1.plans=some [(0,[]),(1,[]),(2,[]),(3,[]),(4,[]),(5,[]),(6,[]),(7,[]),(8,[]),(9,[]),(10,[])]:=ai rfl
@[simp] theorem bj7:ah 1 axw.plans=some [(0,[]),(1,[]),(2,[]),(3,[]),(4,[]),(5,[]),(6,[]),(7,[]),(8,[]),(9,[]),(10,[]),(11,[]),(12,[]),(13,[]),(14,[]),(15,[]),(16,[]),(17,[]),(18,[]),(19,[]),(20,[]),(21,[]),(22,[]),(23,[]),(24,[]),(25,[]),(26,[]),(27,[]),(28,[]),(29,[]),(30,[]),(31,[]),(32,[]),(33,[]),(34,[]),(35,[]),(36,[]),(37,[]),(38,[]),(39,[]),(40,[]),(41,[]),(42,[])]:=ai rfl
@[simp] theorem bj9:ah 1 axx.plans=some [(0,[]),(1,[]),(2,[]),(3,[]),(4,[]),(5,[]),(6,[]),(7,[]),(8,[]),(9,[])]:=ai rfl
@[simp] theorem bka:ah 1 axy.plans=some [(0,[]),(1,[]),(2,[]),(3,[]),(4,[]),(5,[]),(6,[]),(7,[]),(8,[]),(9,[]),(10,[]),(11,[]),(12,[]),(13,[]),(14,[]),(15,[]),(16,[]),(17,[]),(18,[]),(19,[]),(20,[]),(21,[]),(22,[]),(23,[]),(24,[]),(25,[]),(26,[]),(27,[]),(28,[]),(29,[]),(30,[]),(31,[]),(32,[]),(33,[]),(34,[]),(35,[]),(36,[]),(37,[]),(38,[])]:=ai rfl
@[simp] theorem bkb:ah 1 axz.plans=some [(0,[]),(1,[]),(2,[]),(3,[]),(4,[]),(5,[]),(6,[]),(7,[]),(8,[]),(9,[]),(10,[]),(11,[]),(12,[]),(13,[]),(14,[]),(15,[]),(16,[]),(17,[]),(18,[]),(19,[]),(20,[])]:=ai rfl
attribute [simp] r1 r2 t3 r3 t4 r4 r5 r6 r7 r8 t9 r9 r10 r11 r12 r13 r14 r15 r16 r17 r18 r19 r20
attribute [simp] r21 t22 r22 r23 t24 r24 t25 r25 t26 r26 r27 t28 r28 r29 t30 r30 t31 r31 r33 r34 r35 t36 r36 r38 r40 r41 r42 r43
attribute [simp] r44 t45 r45 r46 t47 r47 r48 r49 t50 r50 t51 r51 r52 t53 r53 r54 t55 r55 r56 t57 r57 r59 r60 r61 r62 r63 r64
attribute [simp] r65 t66 r66 r68 r69 r70 r71 t72 r72 r73 r74 r75 t76 r76 r77 r78 r80 r81 r82 r83 r84 r85 r86
attribute [simp] r87 t88 r88 r89 r90 r91 r92 r93 r94 r95 r96 r97 r98 bdm bdn bdo bdp bdq bdr bds bdt
attribute [simp] bdu bdv bdw bdx bdy bdz bmh a6b bd0 bd1 bmi a6c bmj a6d bd2 bmk a6e bd3 bd4 bd5 bml a6f bd6 bd7 bd8
attribute [simp] bd9 bmm a6g bea beb bmn a6h bmo a6i bec bed bee bef beg beh bmp a6j bh2 a6k bmq a6l bmr a6m bei bej bms a6n bek
attribute [simp] bel bem ben beo bmt a6o bep ber bmu a6p bes bet beu bev bew bex bey bez be0 be1 be2 be3
attribute [simp] bmv a6q be4 be5 be6 be7 be8 be9 bfa bfb bfc bfd bfe bff bfg bmw a6r bfh bfi bfj bfk bfl
attribute [simp] bfm bfn bmx a6s bfo bfp bfq bfr bfs bft bfu bfv bfw bfx bfy bfz bf0 bf1 bf2 bf3 bf4
attribute [simp] bf5 bmy a6t bmz a6u bm0 a6v bm1 a6w bm2 a6x bm3 a6y bm4 a6z bm5 a60 bf6 bf7 bf8 bf9 bm6 a61 bga bh3 a62 bgb bgc bgd bm7 a63
attribute [simp] bge bm8 a64 bm9 a65 bgf bgg bgh bgi bgj bgk bgl bgm bgn bgo bgp bgq bgr bgs bgt bgu bgv
attribute [simp] bgw bgx bgy bgz bg0 bg1 bg2 bg3 bg4 bg5 bg6 bg7 bg8 bg9 bha bhb bhc bhd bhe bhf
attribute [simp] bhg bhh
end Go.Gm.Tryz
end
section
namespace Go.Gm.Tryz
open Go.Proofs
abbrev C (f:FuncId) (args:List Value) (H:GH) (v:Value) (H':GH):Prop:=Con Tryz.prog f args H v H'
def inI (x lo hi:Int):Bool:=decide (lo≤x∧x≤hi)
theorem lp (x lo hi:Int) (H:GH):C 91 [vi x,vi lo,vi hi] H (.bool (inI x lo hi)) H:=by
 refine au tok mix a0s (F:=g91) (c:=_) rfl (n:=15) rfl (rs:= [.tmp 6]) rfl (ac rfl) ?_
 simp
 refine bh (fun h=>?_) (fun h=>?_)<;>(try simp only [decide_eq_true_eq,decide_eq_false_iff_not] at h)<;>simp [h,inI]
theorem qo (x lo hi:Int) (H:GH):C 147 [vi x,vi lo,vi hi] H (.bool (inI x lo hi)) H:=by
 refine au tok mix ar4 (F:=a4h) (c:=_) rfl (n:=15) rfl (rs:= [.tmp 6]) rfl (ac rfl) ?_
 simp
 refine bh (fun h=>?_) (fun h=>?_)<;>(try simp only [decide_eq_true_eq,decide_eq_false_iff_not] at h)<;>simp [h,inI]
def fu (n:Int):Bool:=inI n 0 36500
theorem zj (n:Int) (H:GH):C 108 [vi n] H (.bool (fu n)) H:=by
 refine au tok mix arf (F:=a3u) (c:=_) rfl (n:=5) rfl (rs:= [.tmp 2]) rfl (ac rfl) ?_
 simp
 refine (lp _ _ _ _).go ?_
 simp [fu]
def dv (n:Int):Bool:=inI n 0 12
theorem aao (n:Int) (H:GH):C 107 [vi n] H (.bool (dv n)) H:=by
 refine au tok mix are (F:=a3t) (c:=_) rfl (n:=5) rfl (rs:= [.tmp 2]) rfl (ac rfl) ?_
 simp
 refine (lp _ _ _ _).go ?_
 simp [dv]
def dn (n:Int):Bool:=inI n 1 360
theorem ai1 (n:Int) (H:GH):C 176 [vi n] H (.bool (dn n)) H:=by
 refine au tok mix asn (F:=a4u) (c:=_) rfl (n:=5) rfl (rs:= [.tmp 2]) rfl (ac rfl) ?_
 simp
 refine (lp _ _ _ _).go ?_
 simp [dn]
def bx (n:Int):Bool:=inI n 0 18
theorem agr (n:Int) (H:GH):C 178 [vi n] H (.bool (bx n)) H:=by
 refine au tok mix asq (F:=a4w) (c:=_) rfl (n:=5) rfl (rs:= [.tmp 2]) rfl (ac rfl) ?_
 simp
 refine (lp _ _ _ _).go ?_
 simp [bx]
def bj (n:Int):Bool:=decide (n=1∨n=2)
theorem ya (n:Int) (H:GH):C 100 [vi n] H (.bool (bj n)) H:=by
 refine au tok mix aq9 (F:=a3p) (c:=_) rfl (n:=9) rfl (rs:= [.tmp 2]) rfl (ac rfl) ?_
 simp
 refine bh (fun h=>?_) (fun h=>?_)<;>(try simp only [Bool.not_eq_true',Bool.not_eq_false',decide_eq_true_eq,decide_eq_false_iff_not] at h)<;>simp [h,bj]
theorem ux (n:Int) (H:GH):C 94 [vi n] H (.bool (bj n)) H:=by
 refine au tok mix a0v (F:=g94) (c:=_) rfl (n:=9) rfl (rs:= [.tmp 2]) rfl (ac rfl) ?_
 simp
 refine bh (fun h=>?_) (fun h=>?_)<;>(try simp only [Bool.not_eq_true',Bool.not_eq_false',decide_eq_true_eq,decide_eq_false_iff_not] at h)<;>simp [h,bj]
def gz (n:Int):Bool:=inI n 0 360
theorem yg (n:Int) (H:GH):C 95 [vi n] H (.bool (gz n)) H:=by
 refine au tok mix a0w (F:=g95) (c:=_) rfl (n:=5) rfl (rs:= [.tmp 2]) rfl (ac rfl) ?_
 simp
 refine (qo _ _ _ _).go ?_
 simp [gz]
def az (b:Book) (n:Int):Bool:=inI n 0 (IntKind.i64.wrap (b.persons - 1))
theorem mz (l:BLoc) (b:Book) (n:Int) (H:GH):C 99 [dl l b,vi n] H (.bool (az b n)) H:=by
 refine au tok mix a00 (F:=g99) (c:=_) rfl (n:=10) rfl (rs:= [.tmp 4]) rfl (ac rfl) ?_
 simp
 refine (lp _ _ _ _).go ?_
 simp [az]
end Go.Gm.Tryz
end
section
namespace Go.Gm.Tryz
open Go.Proofs
def x9 {α:Type} (p:α→Bool) (l:List α):Int:=match l.findIdx? p with|some i=>i|none=> -1
theorem acx {α:Type} {p:α→Bool} {l:List α} {i:Nat} (hi:i<l.length) (h:p l[i]=true) (hj:∀j (h:j<l.length),j<i→p l[j]=false):x9 p l=i:=by
 have:l.findIdx? p=some i:=by
  rw [List.findIdx?_eq_some_iff_getElem]
  exact ⟨hi,h,fun j hji=>by simpa using hj j (by omega) hji⟩
 simp [x9,this]
theorem v6 {α:Type} {p:α→Bool} {l:List α} (hj:∀j (h:j<l.length),p l[j]=false):x9 p l= -1:=by
 have:l.findIdx? p=none:=by
  rw [List.findIdx?_eq_none_iff]
  intro x hx
  obtain ⟨i,hi,rfl⟩:=List.mem_iff_getElem.1 hx
  exact hj i hi
 simp [x9,this]
theorem zi {α:Type} (p:α→Bool) (l:List α):decide (0≤x9 p l)=l.any p:=by
 unfold x9
 cases h:l.findIdx? p with
 |none=>
  rw [List.findIdx?_eq_none_iff] at h
  have:l.any p=false:=by rw [List.any_eq_false]; intro x hx; simp [h x hx]
  simp [this]
 |some i=>
  rw [List.findIdx?_eq_some_iff_getElem] at h
  obtain ⟨hi,hp,_⟩:=h
  have:l.any p=true:=List.any_eq_true.2 ⟨_,List.getElem_mem hi,hp⟩
  simp [this]
theorem agp (l:List Int) (hl:l.length<1000000) (a:Option Addr) (fl:Nat) (g:FuncId) (cap:Array Value) (p:Int→Bool) (H:GH) (hr:Elems H a 1 ca l)
  (hp:∀i (h:i<l.length),C g (vi l[i]::cap.toList) H (.bool (p l[i])) H):C 179 [.slice a l.length fl,.func (.func g) #[] cap] H (vi (x9 p l)) H:=by
 refine an tok mix asr (F:=a4x) (c:=_) rfl (n:=19) rfl (rs:= [.tmp 4]) rfl ?_
 simp
 refine cv tok mix (by kernel_rfl) l.length (fun i ρ m H'=>ρ 0=.slice a l.length fl∧ρ 1=.func (.func g) #[] cap∧ρ 7=vi l.length∧ρ 8=vi i∧m= []∧H'=H∧∀j (h:j<l.length),j<i→p l[j]=false) (i0:=0) (by omega) (by simp) ?_
 rintro i ρ m H' hi ⟨h0,h1,h7,h8,rfl,rfl,hj⟩
 simp [h7,h8]
 refine ba (fun hlt=>?_) (fun hge=>?_)
 ·obtain ⟨b,rfl,hb,hrd⟩:=hr.at i hlt
  simp (disch:=omega) [h0,h1,h8,hlt,hrd]
  refine (hp i hlt).go ?_
  simp
  refine ck (fun h=>?_) (fun h=>?_)
  ·simp [acx hlt h hj]
  ·simp (disch:=omega) [h0,h1,h7,h8,aj]
   intro j hjl hji
   by_cases hc:j=i
   ·subst hc; exact h
   ·exact hj j hjl (by omega)
 ·simp [v6 (fun j h=>hj j h (by omega))]
theorem agq (l:List Row) (hl:l.length<1000000) (a:Option Addr) (fl:Nat) (g:FuncId) (cap:Array Value) (p:Row→Bool) (H:GH) (hr:Elems H a 3 si l)
  (hp:∀i (h:i<l.length),C g (amc l[i]::cap.toList) H (.bool (p l[i])) H):C 190 [.slice a l.length fl,.func (.func g) #[] cap] H (vi (x9 p l)) H:=by
 refine an tok mix as2 (F:=a44) (c:=_) rfl (n:=19) rfl (rs:= [.tmp 4]) rfl ?_
 simp
 refine cv tok mix (by kernel_rfl) l.length (fun i ρ m H'=>ρ 0=.slice a l.length fl∧ρ 1=.func (.func g) #[] cap∧ρ 7=vi l.length∧ρ 8=vi i∧m= []∧H'=H∧∀j (h:j<l.length),j<i→p l[j]=false) (i0:=0) (by omega) (by simp) ?_
 rintro i ρ m H' hi ⟨h0,h1,h7,h8,rfl,rfl,hj⟩
 simp [h7,h8]
 refine ba (fun hlt=>?_) (fun hge=>?_)
 ·obtain ⟨b,rfl,hb,hrd⟩:=hr.at i hlt
  simp (disch:=omega) [h0,h1,h8,hlt,hrd]
  refine (hp i hlt).go ?_
  simp
  refine ck (fun h=>?_) (fun h=>?_)
  ·simp [acx hlt h hj]
  ·simp (disch:=omega) [h0,h1,h7,h8,aj]
   intro j hjl hji
   by_cases hc:j=i
   ·subst hc; exact h
   ·exact hj j hjl (by omega)
 ·simp [v6 (fun j h=>hj j h (by omega))]
theorem ai0 (l:List Ev) (hl:l.length<1000000) (a:Option Addr) (fl:Nat) (g:FuncId) (cap:Array Value) (p:Ev→Bool) (H:GH) (hr:Elems H a 8 jb l)
  (hp:∀i (h:i<l.length),C g (evV l[i]::cap.toList) H (.bool (p l[i])) H):C 196 [.slice a l.length fl,.func (.func g) #[] cap] H (vi (x9 p l)) H:=by
 refine an tok mix as6 (F:=a49) (c:=_) rfl (n:=19) rfl (rs:= [.tmp 4]) rfl ?_
 simp
 refine cv tok mix (by kernel_rfl) l.length (fun i ρ m H'=>ρ 0=.slice a l.length fl∧ρ 1=.func (.func g) #[] cap∧ρ 7=vi l.length∧ρ 8=vi i∧m= []∧H'=H∧∀j (h:j<l.length),j<i→p l[j]=false) (i0:=0) (by omega) (by simp) ?_
 rintro i ρ m H' hi ⟨h0,h1,h7,h8,rfl,rfl,hj⟩
 simp [h7,h8]
 refine ba (fun hlt=>?_) (fun hge=>?_)
 ·obtain ⟨b,rfl,hb,hrd⟩:=hr.at i hlt
  simp (disch:=omega) [h0,h1,h8,hlt,hrd]
  refine (hp i hlt).go ?_
  simp
  refine ck (fun h=>?_) (fun h=>?_)
  ·simp [acx hlt h hj]
  ·simp (disch:=omega) [h0,h1,h7,h8,aj]
   intro j hjl hji
   by_cases hc:j=i
   ·subst hc; exact h
   ·exact hj j hjl (by omega)
 ·simp [v6 (fun j h=>hj j h (by omega))]
theorem u6 (l:List Int) (hl:l.length<1000000) (a:Option Addr) (fl:Nat) (g:FuncId) (cap:Array Value) (p:Int→Bool) (H:GH) (hr:Elems H a 1 ca l)
  (hp:∀i (h:i<l.length),C g (vi l[i]::cap.toList) H (.bool (p l[i])) H):C 134 [.slice a l.length fl,.func (.func g) #[] cap] H (.bool (l.any p)) H:=by
 refine an tok mix aru (F:=a4d) (c:=_) rfl (n:=9) rfl (rs:= [.tmp 4]) rfl ?_
 simp
 refine (agp l hl a fl g cap p H hr hp).go ?_
 simp [←zi]
theorem ake (l:List Row) (hl:l.length<1000000) (a:Option Addr) (fl:Nat) (g:FuncId) (cap:Array Value) (p:Row→Bool) (H:GH) (hr:Elems H a 3 si l)
  (hp:∀i (h:i<l.length),C g (amc l[i]::cap.toList) H (.bool (p l[i])) H):C 148 [.slice a l.length fl,.func (.func g) #[] cap] H (.bool (l.any p)) H:=by
 refine an tok mix ar5 (F:=a4i) (c:=_) rfl (n:=9) rfl (rs:= [.tmp 4]) rfl ?_
 simp
 refine (agq l hl a fl g cap p H hr hp).go ?_
 simp [←zi]
theorem aeq (l:List Ev) (hl:l.length<1000000) (a:Option Addr) (fl:Nat) (g:FuncId) (cap:Array Value) (p:Ev→Bool) (H:GH) (hr:Elems H a 8 jb l)
  (hp:∀i (h:i<l.length),C g (evV l[i]::cap.toList) H (.bool (p l[i])) H):C 159 [.slice a l.length fl,.func (.func g) #[] cap] H (.bool (l.any p)) H:=by
 refine an tok mix asf (F:=a4p) (c:=_) rfl (n:=9) rfl (rs:= [.tmp 4]) rfl ?_
 simp
 refine (ai0 l hl a fl g cap p H hr hp).go ?_
 simp [←zi]
def kc (r:Row):Bool:= !inI r.first 1 60|| !inI r.second 1 60|| !inI r.gives 1 1000
theorem ama (r:Row) (H:GH):C 149 [amc r] H (.bool (kc r)) H:=by
 refine au tok mix ar6 (F:=a4j) (c:=_) rfl (n:=19) rfl (rs:= [.tmp 2]) rfl (ac rfl) ?_
 simp
 refine (qo _ _ _ _).go ?_
 simp
 refine bh (fun h=>?_) (fun h=>?_)<;>simp [h,kc]
 refine (qo _ _ _ _).go ?_
 simp
 refine bh (fun h2=>?_) (fun h2=>?_)<;>simp [h2]
 refine (qo _ _ _ _).go ?_
 simp
def ce (t:Tbl):Bool:=inI t.rows.length 1 12&&inI t.draw 0 100&& !t.rows.any kc
theorem ov (l:TLoc) (t:Tbl) (H:GH) (ht:gc H l t):C 93 [qx l t] H (.bool (ce t)) H:=by
 refine au tok mix a0u (F:=g93) (c:=_) rfl (n:=18) rfl (rs:= [.tmp 2]) rfl (ac rfl) ?_
 simp
 refine (qo _ _ _ _).go ?_
 simp
 refine bh (fun h=>?_) (fun h=>?_)<;>simp [h,ce]
 refine (qo _ _ _ _).go ?_
 simp
 refine bh (fun h2=>?_) (fun h2=>?_)<;>simp [h2]
 refine (ake t.rows (by simp [inI] at h; omega) _ _ _ _ kc _ (ht.push _) (fun i hi=>?_)).go ?_
 ·exact ama _ _
 simp
theorem alq (l:TLoc) (t:Tbl) (H:GH) (ht:gc H l t):C 132 [qx l t] H (vi (if ce t then 0 else 2)) H:=by
 refine au tok mix ars (F:=a4c) (c:=_) rfl (n:=6) rfl (rs:= [.tmp 2]) rfl (ac rfl) ?_
 simp
 refine (ov l t _ (ht.push _)).go ?_
 simp
 refine ck (fun h=>?_) (fun h=>?_)<;>simp at h<;>simp [h]
theorem alf (n:Int) (H:GH):C 201 [vi n] H (.bool (decide (¬n=0))) H:=by
 refine au tok mix as9 (F:=a5c) (c:=_) rfl (n:=5) rfl (rs:= [.tmp 2]) rfl (ac rfl) ?_
 simp
def ja (l:List Int):Bool:= !l.any (fun n=>decide (¬n=0))
theorem ae1 (l:List Int) (hl:l.length<1000000) (a:Option Addr) (fl:Nat) (H:GH) (hr:Elems H a 1 ca l):C 177 [.slice a l.length fl] H (.bool (ja l)) H:=by
 refine au tok mix aso (F:=a4v) (c:=_) rfl (n:=6) rfl (rs:= [.tmp 2]) rfl (ac rfl) ?_
 simp
 refine (u6 l hl a fl _ _ (fun n=>decide (¬n=0)) H hr (fun i hi=>alf _ _)).go ?_
 simp [ja]
end Go.Gm.Tryz
end
section
namespace Go.Gm.Tryz
open Go.Proofs
theorem acl {H:GH} (l:List Int) (ty:TypeId):Elems (H.push (.arr { cells:=l.map vi,ty:=ty })) (some (ga H.next 0 0)) 1 ca l:=by
 refine ⟨fun _=>rfl,fun b hb=>?_,fun h=>by cases h⟩
 cases hb
 have e:l.flatMap ca=l.map vi:=by induction l with
  |nil=>rfl
  |cons x l ih=>simp [ih]
 refine ⟨by simp,?_⟩
 simp [e]
 rw [List.take_of_length_le (by simp)]
def bv (b:Book) (x:Ev):Bool:=
 fu x.day&&(
  if x.kind=1∨x.kind=8 then az b x.person&&(bj x.system&&dn x.units)&&ja [x.other,x.estate,x.grant]
  else if x.kind=2 then bx x.estate&&(bj x.system&&dn x.units)&&ja [x.person,x.other,x.grant]
  else if x.kind=3 then az b x.person&&az b x.other&&ja [x.estate,x.grant,x.system,x.units]
  else if x.kind=4 then bx x.estate&&az b x.person&&ja [x.other,x.grant,x.system,x.units]
  else if x.kind=5 then dv x.grant&&dn x.units&&az b x.person&&ja [x.other,x.estate,x.system]
  else if x.kind=6 then bx x.estate&&bx x.other&&ja [x.person,x.grant,x.system,x.units]
  else if x.kind=7 then dv x.grant&&az b x.person&&ja [x.other,x.estate,x.system,x.units]
  else false)
theorem aan (l:BLoc) (b:Book) (x:Ev) (H:GH):C 133 [dl l b,evV x] H (.bool (bv b x)) H:=by
 refine au tok mix art (F:=axe) (c:=_) rfl (n:=168) rfl (rs:= [.tmp 4]) rfl (ac rfl) ?_
 simp
 with_reducible refine (zj _ _).go ?_
 simp
 repeat' (first
  |(with_reducible refine (mz l b _ _).go ?_; simp [*])
  |(with_reducible refine (ya _ _).go ?_; simp [*])
  |(with_reducible refine (ai1 _ _).go ?_; simp [*])
  |(with_reducible refine (agr _ _).go ?_; simp [*])
  |(with_reducible refine (aao _ _).go ?_; simp [*])
  |(with_reducible refine ck (fun h=>?_) (fun h=>?_)<;>(try simp only [Bool.not_eq_true',Bool.not_eq_false',decide_eq_true_eq,decide_eq_false_iff_not] at h)<;>simp [*])
  |(with_reducible refine bh (fun h=>?_) (fun h=>?_)<;>(try simp only [Bool.not_eq_true',Bool.not_eq_false',decide_eq_true_eq,decide_eq_false_iff_not] at h)<;>simp [*])
  |(with_reducible refine bi (fun h=>?_) (fun h=>?_)<;>(try simp only [Bool.not_eq_true',Bool.not_eq_false',decide_eq_true_eq,decide_eq_false_iff_not] at h)<;>simp [*]))
 all_goals first
  |(refine (ae1 [_,_,_] (by simp) _ _ _ (acl [_,_,_] 3)).go ?_; simp [*])
  |(refine (ae1 [_,_,_,_] (by simp) _ _ _ (acl [_,_,_,_] 3)).go ?_; simp [*])
  |skip
 all_goals simp (maxDischargeDepth:=9) [bv, *]
end Go.Gm.Tryz
end
section
namespace Go.Gm.Tryz
open Go.Proofs
theorem adz (l:BLoc) (b:Book) (n:Int) (g:Nat) (H:GH) (hg:H.get g=some (.arr { cells:=bq l b,ty:=28 })):C 135 [vi n,.pointer (some (ga g 0 0))] H (.bool (!az b n)) H:=by
 refine au tok mix arv (F:=a4e) (c:=_) rfl (n:=8) rfl (rs:= [.tmp 3]) rfl (ac rfl) ?_
 simp [hg]
 with_reducible refine (mz l b _ _).go ?_
 simp
def mc (b:Book) (i:Nat):Bool:= !bv b (b.events.getD i default)||(decide (0<i)&&decide ((b.events.getD i default).day<(b.events.getD (i - 1) default).day))
def aq (b:Book):Bool:=ce b.tbl&&inI b.supply 0 10000&&inI b.term 0 1000&&inI b.persons 1 8&&decide (b.owners.length≤6)&&decide (b.events.length≤12)&&
 (List.range b.events.length).all (fun i=> !mc b i)&& !b.owners.any (fun n=> !az b n)
theorem j7 (l:BLoc) (b:Book) (H:GH) (hb:BookIn H l b):C 82 [dl l b] H (.bool (aq b)) H:=by
 rcases l with ⟨⟨⟨ra,rf⟩⟩,⟨oa,of'⟩,⟨va,vf⟩⟩
 refine au tok mix a0k (F:=g82) (c:=_) rfl (n:=73) rfl (rs:= [.tmp 2]) rfl (ac rfl) ?_
 simp
 with_reducible refine (alq ⟨⟨_,_⟩⟩ b.tbl _ (hb.t.push _)).go ?_
 simp
 by_cases ht:ce b.tbl=true
 case neg=>simp [ht,aq]
 simp [ht]
 with_reducible refine (lp _ _ _ _).go ?_
 simp
 cases h1:inI b.supply 0 10000
 case false=>simp [h1,aq]
 simp
 with_reducible refine (lp _ _ _ _).go ?_
 simp
 cases h2:inI b.term 0 1000
 case false=>simp [h2,aq]
 simp
 with_reducible refine (lp _ _ _ _).go ?_
 simp
 cases h3:inI b.persons 1 8
 case false=>simp [h3,aq]
 simp
 refine bh (fun h4=>?_) (fun h4=>?_)<;>(try simp only [Bool.not_eq_true',Bool.not_eq_false',decide_eq_true_eq,decide_eq_false_iff_not] at h4)
 case refine_2=>
  have:¬b.owners.length≤6:=by omega
  simp [h4,aq,this]
 simp [h4]
 refine ck (fun h5=>?_) (fun h5=>?_)<;>(try simp only [decide_eq_true_eq,decide_eq_false_iff_not] at h5)
 ·have:¬b.events.length≤12:=by omega
  simp [h5,aq,this]
 simp [h5]
 generalize hH1:H.push _=H1
 have hs1:Sub H H1:=by subst hH1; simp
 have hg1:H1.get H.next=some (.arr { cells:=bq ⟨⟨⟨ra,rf⟩⟩,⟨oa,of'⟩,⟨va,vf⟩⟩ b,ty:=28 }):=by subst hH1; simp
 have hn1:H.next<H1.next:=by subst hH1; simp
 have hb1:=hb.mono hs1
 clear hH1
 refine cv tok mix (by kernel_rfl) b.events.length (fun i ρ m H'=>ρ 1=.pointer (some (ga H.next 0 0))∧ρ 40=.slice va b.events.length vf∧ρ 41=vi b.events.length∧ρ 42=vi i∧m= []∧Sub H1 H'∧∀j,j<i→mc b j=false) (i0:=0) (by omega) (by simp) ?_
 rintro i ρ m H' hi ⟨e1,e40,e41,e42,rfl,hs,hj⟩
 have hg:=hs.2 H.next hn1
 rw [hg1] at hg
 have hn:H.next<H'.next:=by have:=hs.1; omega
 simp [e41,e42]
 refine ba (fun hlt=>?_) (fun hge=>?_)
 case refine_2=>
  simp [e1,hg]
  refine (u6 b.owners (by omega) _ _ _ #[.pointer (some (ga H.next 0 0))] (fun n=> !az b n) H' (hb1.mono hs).owners (fun k hk=>?_)).go ?_
  ·exact adz _ b _ _ H' hg
  have h6:b.owners.length≤6:=by omega
  have h7:b.events.length≤12:=by omega
  have h8:(List.range b.events.length).all (fun i=> !mc b i)=true:=by
   rw [List.all_eq_true]
   intro j hjm
   rw [hj j (by have:=List.mem_range.1 hjm; omega)]; rfl
  simp [aq,ht,h1,h2,h3,h6,h7,h8]
  exact hs1.trans hs
 obtain ⟨a,rfl,hal,hrd⟩:=(hb1.mono hs).events.at i hlt
 simp (disch:=omega) [e1,e40,e42,hlt,hrd,hg]
 with_reducible refine (aan ⟨⟨⟨_,_⟩⟩,⟨_,_⟩,⟨_,_⟩⟩ b b.events[i] _).go ?_
 simp (disch:=omega)
 have hrd':∀j,j<i→∃d:Int,H'.read (ea a j 8 1) 1=some [vi d]∧d=(b.events.getD j default).day:=by
  intro j hji
  obtain ⟨a',ha',_,hr'⟩:=(hb1.mono hs).events.at j (by omega)
  cases ha'
  refine ⟨_,by simpa using hr' 1 1 (by omega),?_⟩
  rw [bc (by omega)]
 have hbad:mc b i=(!bv b b.events[i]||(decide (0<i)&&decide (b.events[i].day<(b.events.getD (i - 1) default).day))):=by
  unfold mc
  rw [bc hlt]
 cases hev:bv b b.events[i]
 ·have hF:aq b=false:=by
   have:(List.range b.events.length).all (fun i=> !mc b i)=false:=by
    rw [List.all_eq_false]
    exact ⟨i,List.mem_range.2 hlt,by simp [hbad,hev]⟩
   simp [aq,this]
  simp [hF]
  exact hs1.trans ((hs.push _).put hs.1 _)
 simp (disch:=omega)
 refine bi (fun h6=>?_) (fun h6=>?_)<;>(try simp only [decide_eq_true_eq,decide_eq_false_iff_not] at h6)
 ·have hi0:0<i:=by omega
  obtain ⟨d,hd1,hd2⟩:=hrd' (i - 1) (by omega)
  have e9:((i:Int) - 1).toNat=i - 1:=by omega
  simp (disch:=omega) [e1,hg,h6,aj,e9,hd1]
  refine ck (fun h7=>?_) (fun h7=>?_)<;>(try simp only [decide_eq_true_eq,decide_eq_false_iff_not] at h7)
  ·have hF:aq b=false:=by
    have:(List.range b.events.length).all (fun i=> !mc b i)=false:=by
     rw [List.all_eq_false]
     exact ⟨i,List.mem_range.2 hlt,by rw [hbad,hev,←hd2]; simp [hi0,h7]⟩
    simp [aq,this]
   simp [hF]
   exact hs1.trans ((hs.push _).put hs.1 _)
  ·simp (disch:=omega) [e1,e40,e41,e42,aj]
   refine ⟨(hs.push _).put hs.1 _,fun j hji=>?_⟩
   by_cases hc:j=i
   ·subst hc; rw [hbad,hev,←hd2]; simp [h7]
   ·exact hj j (by omega)
 ·simp (disch:=omega) [e1,e40,e41,e42,h6,aj]
  refine ⟨(hs.push _).put hs.1 _,fun j hji=>?_⟩
  by_cases hc:j=i
  ·subst hc; rw [hbad,hev]; simp; omega
  ·exact hj j (by omega)
end Go.Gm.Tryz
end
section
namespace Go.Gm
def ak:Value→Option Nat
 | .slice (some a) _ fl=>if fl=0 then none else some a.block
 |_=>none
@[simp] theorem a1t (a:Addr) (n c:Nat):ak (.slice (some a) n c)=if c=0 then none else some a.block:=rfl
@[simp] theorem a1s (n c:Nat):ak (.slice none n c)=none:=rfl
def bg {α:Type} (H:GH) (N:Nat) (v:Value) (ty:TypeId) (sz:Nat) (enc:α→List Value) (l:List α):Prop:=
 (l= []∧v=.slice none 0 0)∨∃g ver szs pre,sz≠0∧N≤g∧g<H.next∧v=.slice (some (ga g pre.length ver)) l.length sz∧H.get g=some (.arr ⟨pre++l.flatMap enc,ty,ver,szs,false⟩)
section
variable {α:Type} {H:GH} {N:Nat} {v:Value} {ty:TypeId} {sz:Nat} {enc:α→List Value} {l:List α}
theorem bg.nil:bg H N (.slice none 0 0) ty sz enc []:=.inl ⟨rfl,rfl⟩
theorem bg.mk {g:Nat} (hz:sz≠0) (h1:N≤g) (h2:g<H.next) {ver:Nat} {szs:List Nat} (h3:H.get g=some (.arr ⟨l.flatMap enc,ty,ver,szs,false⟩)):bg H N (.slice (some (ga g 0 ver)) l.length sz) ty sz enc l:=
 .inr ⟨g,ver,szs,[],hz,h1,h2,rfl,h3⟩
theorem bg.len (h:bg H N v ty sz enc l):j8 v=l.length:=by
 rcases h with ⟨rfl,rfl⟩|⟨g,ver,szs,pre,_,_,_,rfl,_⟩<;>rfl
theorem bg.slice (h:bg H N v ty sz enc l):∃a fl,v=.slice a l.length fl:=by
 rcases h with ⟨rfl,rfl⟩|⟨g,ver,szs,pre,_,_,_,rfl,_⟩
 ·exact ⟨_,_,rfl⟩
 ·exact ⟨_,_,rfl⟩
theorem bg.frame {H':GH} (h:bg H N v ty sz enc l) (hn:H.next≤H'.next) (hg:∀g,ak v=some g→H'.get g=H.get g):bg H' N v ty sz enc l:=by
 rcases h with h|⟨g,ver,szs,pre,h0,h1,h2,rfl,h3⟩
 ·exact .inl h
 ·exact .inr ⟨g,ver,szs,pre,h0,h1,by omega,rfl,by rw [hg g (by simp [h0])]; exact h3⟩
theorem bg.blk_lt (h:bg H N v ty sz enc l) {g:Nat} (hg:ak v=some g):N≤g∧g<H.next:=by
 rcases h with ⟨_,rfl⟩|⟨g',ver,szs,pre,h0,h1,h2,rfl,h3⟩
 ·simp at hg
 ·simp [h0] at hg; subst hg; exact ⟨h1,h2⟩
theorem bg.blk_ty (h:bg H N v ty sz enc l) {g:Nat} (hg:ak v=some g):∃A,H.get g=some (.arr A)∧A.ty=ty:=by
 rcases h with ⟨_,rfl⟩|⟨g',ver,szs,pre,h0,h1,h2,rfl,h3⟩
 ·simp at hg
 ·simp [h0] at hg; subst hg; exact ⟨_,h3,rfl⟩
theorem bg.push (h:bg H N v ty sz enc l) (o:GObj):bg (H.push o) N v ty sz enc l:=
 h.frame (by simp) fun g hg=>GH.get_push_lt _ _ (h.blk_lt hg).2
theorem bg.sub {H':GH} (h:bg H N v ty sz enc l) (hs:Sub H H'):bg H' N v ty sz enc l:=
 h.frame hs.1 fun g hg=>hs.2 g (h.blk_lt hg).2
theorem bg.weaken {M:Nat} (h:bg H N v ty sz enc l) (hm:M≤N):bg H M v ty sz enc l:=by
 rcases h with h|⟨g,ver,szs,pre,h0,h1,h2,rfl,h3⟩
 ·exact .inl h
 ·exact .inr ⟨g,ver,szs,pre,h0,by omega,h2,rfl,h3⟩
theorem aok (hs:∀x,(enc x).length=sz) {g ver:Nat} {szs:List Nat} {ro:Bool} {pre:List Value} (hg:g<H.next) (h:H.get g=some (.arr ⟨pre++l.flatMap enc,ty,ver,szs,ro⟩)):Elems H (some (ga g pre.length ver)) sz enc l:=by
 refine ⟨hs,fun b hb=>?_,fun h=>by cases h⟩
 cases hb
 refine ⟨hg,?_⟩
 have hl:=jc hs l
 simp only [ayw,h,apt,bhi,List.length_append]
 rw [if_pos (by omega),List.drop_left,List.take_of_length_le (by omega)]
theorem bg.elems (h:bg H N v ty sz enc l) (hs:∀x,(enc x).length=sz):∃a fl,v=.slice a l.length fl∧Elems H a sz enc l:=by
 rcases h with ⟨rfl,rfl⟩|⟨g,ver,szs,pre,h0,h1,h2,rfl,h3⟩
 ·exact ⟨_,_,rfl,hs,fun b hb=>(by cases hb),fun _=>rfl⟩
 ·exact ⟨_,_,rfl,aok hs h2 h3⟩
theorem bg.elems' {a:Option Addr} {n fl:Nat} (h:bg H N (.slice a n fl) ty sz enc l) (hs:∀x,(enc x).length=sz):Elems H a sz enc l:=by
 obtain ⟨a',fl',e,hE⟩:=h.elems hs
 cases e; exact hE
theorem bg.apps (h:bg H N v ty sz enc l) (hs:∀x,(enc x).length=sz) (ho:∀x,(enc x).all one=true) (hz:sz≠0) (xs:List α) (hN:N≤H.next):
  ∃v' H',gv H ty sz v xs.length (xs.flatMap enc)=some (v',H')∧bg H' N v' ty sz enc (l++xs)∧H.next≤H'.next∧(∀k,k<H.next→ak v≠some k→H'.get k=H.get k)∧(∀k,ak v'=some k→ak v=some k∨H.next≤k):=by
 have hx:=jc hs xs
 have hall:(xs.flatMap enc).all one=true:=by
  rw [List.all_eq_true]
  intro c hc
  obtain ⟨y,_,hy⟩:=List.mem_flatMap.1 hc
  exact List.all_eq_true.1 (ho y) c hy
 have c1:¬((xs.flatMap enc).length≠xs.length*sz∨(xs.flatMap enc).all one=false):=by rw [hx,hall]; simp
 by_cases he:xs= []
 ·subst he
  refine ⟨v,H,?_,by simpa using h,Nat.le_refl _,fun _ _ _=>rfl,fun k hk=>.inl hk⟩
  unfold gv
  rw [if_neg c1]
  rcases h with ⟨rfl,rfl⟩|⟨g,ver,szs,pre,h0,h1,h2,rfl,h3⟩
  ·simp
  ·simp
 have hne:¬xs.length=0:=by simpa using he
 rcases h with ⟨rfl,rfl⟩|⟨g,ver,szs,pre,h0,h1,h2,rfl,h3⟩
 ·refine ⟨.slice (some (ga H.next 0 0)) xs.length sz,H.push (.arr { cells:=xs.flatMap enc,ty:=ty }),?_,.inr ⟨H.next,0,[],[],hz,hN,by simp,by simp,by simp⟩,by simp,fun k hk _=>GH.get_push_lt _ _ hk,fun k hk=>.inr (by simp [hz] at hk; omega)⟩
  unfold gv
  rw [if_neg c1]
  simp [hne]
 ·have hl:=jc hs l
  refine ⟨.slice (some (ga g pre.length (ver+1))) (l.length+xs.length) sz,H.put g (.arr { cells:=(pre++l.flatMap enc)++xs.flatMap enc,ty:=ty,ver:=ver+1,sz:=(pre++l.flatMap enc).length::szs,ro:=false }),?_,
   .inr ⟨g,ver+1,(pre++l.flatMap enc).length::szs,pre,h0,h1,by simpa using h2,by simp,by simp⟩,by simp,fun k hk hb=>GH.get_put_ne _ _ (by intro hc; subst hc; simp [h0] at hb),fun k hk=>.inl (by simpa [h0] using hk)⟩
  unfold gv
  rw [if_neg c1]
  simp only [ga]
  rw [if_neg hne,if_neg hz,if_neg (by simp),h3]
  have hpl:pre.length+l.length*sz=(pre++l.flatMap enc).length:=by rw [List.length_append,hl]
  simp only [true_and]
  have e1:(pre++l.flatMap enc).take (pre.length+l.length*sz)=pre++l.flatMap enc:=List.take_of_length_le (by omega)
  rw [if_pos (by omega),e1]
  simp [hl]
theorem bg.app (h:bg H N v ty sz enc l) (hs:∀x,(enc x).length=sz) (ho:∀x,(enc x).all one=true) (hz:sz≠0) (x:α) (hN:N≤H.next):
  ∃v' H',gv H ty sz v 1 (enc x)=some (v',H')∧bg H' N v' ty sz enc (l++ [x])∧H.next≤H'.next∧(∀k,k<H.next→ak v≠some k→H'.get k=H.get k)∧(∀k,ak v'=some k→ak v=some k∨H.next≤k):=by
 obtain ⟨v',H',h1,h2⟩:=h.apps hs ho hz [x] hN
 exact ⟨v',H',by simpa using h1,h2⟩
theorem ado (off:Nat) (new a b:List Value):splice (a.length+off) new (a++b)=a++splice off new b:=by
 unfold splice
 rw [List.take_append,List.take_of_length_le (by omega),List.append_assoc,List.append_assoc,show a.length+off - a.length=off by omega,
  show a.length+off+new.length=a.length+(off+new.length) by omega,List.drop_append,List.drop_of_length_le (by omega),show a.length+(off+new.length) - a.length=off+new.length by omega]
 simp
theorem ap5 {off:Nat} {new a b:List Value} (h:off+new.length≤a.length):splice off new (a++b)=splice off new a++b:=by
 unfold splice
 rw [List.take_append_of_le_length (by omega),List.drop_append_of_le_length (by omega)]
 simp
theorem ajy (hs:∀x,(enc x).length=sz) {k:Nat} {new:List Value} {y:α}:∀ {l:List α} {i:Nat} (hi:i<l.length),k+new.length≤sz→splice k new (enc l[i])=enc y→splice (i*sz+k) new (l.flatMap enc)=(l.set i y).flatMap enc:=by
 intro l
 induction l with
 |nil=>intro i hi; simp at hi
 |cons x l ih=>
  intro i hi hk he
  cases i with
  |zero=>
   simp only [List.getElem_cons_zero] at he
   rw [List.flatMap_cons,List.set_cons_zero,List.flatMap_cons,Nat.zero_mul,Nat.zero_add,ap5 (by rw [hs]; exact hk),he]
  |succ i=>
   simp only [List.getElem_cons_succ] at he
   rw [List.flatMap_cons,List.set_cons_succ,List.flatMap_cons,show (i+1)*sz+k=(enc x).length+(i*sz+k) by rw [hs,Nat.add_mul]; omega,ado,ih (by simpa using hi) hk he]
theorem bg.wr {a:Addr} {n fl:Nat} (h:bg H N (.slice (some a) n fl) ty sz enc l) (hs:∀x,(enc x).length=sz) {i k:Nat} (hi:i<l.length) {c:Value} {new:List Value} (hk:k+(c::new).length≤sz) {y:α} (he:splice k (c::new) (enc l[i])=enc y):
  ∃H',H.write (ea a i sz k) (c::new)=some H'∧bg H' N (.slice (some a) n fl) ty sz enc (l.set i y)∧H'.next=H.next∧(∀g,g≠a.block→H'.get g=H.get g):=by
 rcases h with ⟨rfl,h⟩|⟨g,ver,szs,pre,h0,h1,h2,h,h3⟩
 ·simp at hi
 ·cases h
  have hl:=jc hs l
  have h5:(i+1)*sz≤l.length*sz:=Nat.mul_le_mul_right _ hi
  rw [Nat.add_mul] at h5
  refine ⟨H.put g (.arr ⟨pre++(l.set i y).flatMap enc,ty,ver,[],false⟩),?_,.inr ⟨g,ver,[],pre,h0,h1,h2,by simp,by simp⟩,rfl,fun g' hg=>GH.get_put_ne _ _ hg⟩
  rw [ack,awe,h3,amu]
  simp only [true_and,List.length_append]
  rw [if_pos (by omega),Nat.add_assoc,ado,ajy hs hi hk he]
theorem bg.tail {a:Addr} {n fl:Nat} {x:α} (h:bg H N (.slice (some a) n fl) ty sz enc (x::l)) (hs:∀x,(enc x).length=sz):fl=sz∧sz≠0∧bg H N (.slice (some (ku a sz)) (n - 1) fl) ty sz enc l:=by
 rcases h with ⟨h,_⟩|⟨g,ver,szs,pre,h0,h1,h2,h,h3⟩
 ·cases h
 ·cases h
  refine ⟨rfl,h0,.inr ⟨g,ver,szs,pre++enc x,h0,h1,h2,?_,?_⟩⟩
  ·simp [hs]
  ·simpa using h3
end
end Go.Gm
end
section
namespace Go.Gm.Tryz
open Go.Proofs
def ac7 (l:List Int):Prop:=l.length≤1000∧∀x∈l,0≤x∧x≤1000000
theorem avx (l:List Int) (h:ac7 l) (i:Nat) (hi:i≤l.length):0≤(l.take i).sum∧(l.take i).sum≤i*1000000:=by
 induction i with
 |zero=>simp
 |succ i ih=>
  obtain ⟨h1,h2⟩:=ih (by omega)
  rw [List.take_succ_eq_append_getElem (by omega),List.sum_append]
  have:=h.2 _ (List.getElem_mem (by omega:i<l.length))
  simp
  omega
theorem an3 (l:List Int) (hl:ac7 l) (a:Option Addr) (fl:Nat) (H:GH) (hr:Elems H a 1 ca l):C 155 [.slice a l.length fl] H (vi l.sum) H:=by
 have hlen:=hl.1
 refine au tok mix asc (F:=a4n) (c:=_) rfl (n:=17) rfl (rs:= [.tmp 2]) rfl (ac rfl) ?_
 simp
 refine cv tok mix (by kernel_rfl) l.length (fun i ρ m H'=>ρ 6=.slice a l.length fl∧ρ 7=vi l.length∧ρ 8=vi i∧ρ 3=vi (l.take i).sum∧m= []∧H'=H) (i0:=0) (by omega) (by simp) ?_
 rintro i ρ m H' hi ⟨e6,e7,e8,e3,rfl,rfl⟩
 simp [e7,e8]
 refine ba (fun hlt=>?_) (fun hge=>?_)
 ·obtain ⟨b,rfl,hb,hrd⟩:=hr.at i hlt
  have:=avx l hl i hi
  have hx:=hl.2 _ (List.getElem_mem hlt)
  have e:(l.take (i+1)).sum=(l.take i).sum+l[i]:=by rw [List.take_succ_eq_append_getElem hlt,List.sum_append]; simp
  simp (disch:=omega) [e6,e7,e8,e3,hlt,hrd,aj,e]
 ·have:i=l.length:=by omega
  subst this
  simp [e3]
def mj (r:Row) (s:Int):Int:=if s=1 then r.first else r.second
theorem aoq (r:Row) (H:GH):C 197 [amc r] H (vi r.first) H:=by
 refine au tok mix as7 (F:=a5a) (c:=_) rfl (n:=6) rfl (rs:= [.tmp 2]) rfl (ac rfl) ?_
 simp
theorem ame (r:Row) (H:GH):C 198 [amc r] H (vi r.second) H:=by
 refine au tok mix as8 (F:=a5b) (c:=_) rfl (n:=6) rfl (rs:= [.tmp 2]) rfl (ac rfl) ?_
 simp
theorem av2 (r:Row) (s:Int) (hs:bj s=true) (H:GH):C 165 [amc r,vi s] H (vi (mj r s)) H:=by
 refine au tok mix ask (F:=axm) (c:=_) rfl (n:=14) rfl (rs:= [.tmp 4]) rfl (ac rfl) ?_
 have hs:s=1∨s=2:=by simpa [bj] using hs
 rcases hs with rfl|rfl
 ·simp [aj]
  with_reducible refine (aoq r _).go ?_
  simp (maxDischargeDepth:=9) [mj]
 ·simp [aj]
  with_reducible refine (ame r _).go ?_
  simp (maxDischargeDepth:=9) [mj]
def ix (t:Tbl) (n:Int):Row:=t.rows.getD n.toNat default
def xd (t:Tbl) (l:List Int):Prop:=l.length≤6∧∀n∈l,0≤n∧n<t.rows.length
def cp (t:Tbl) (s:Int) (l:List Int):Int:=(l.map fun n=>mj (ix t n) s).sum
def jr (t:Tbl) (l:List Int):Int:=(l.map fun n=>(ix t n).gives).sum
theorem kd {t:Tbl} (h:ce t=true):t.rows.length≤12∧1≤t.rows.length∧∀r∈t.rows,1≤r.first∧r.first≤60∧1≤r.second∧r.second≤60∧1≤r.gives∧r.gives≤1000:=by
 simp only [ce,Bool.and_eq_true,Bool.not_eq_true',List.any_eq_false,inI,decide_eq_true_eq] at h
 obtain ⟨⟨⟨h1,h2⟩,h3⟩,h4⟩:=h
 refine ⟨by omega,by omega,fun r hr=>?_⟩
 have:=h4 r hr
 simp [kc,inI] at this
 omega
theorem abz {t:Tbl} {n:Int} (h0:0≤n) (h1:n<t.rows.length):ix t n∈t.rows:=by
 unfold ix
 rw [bc (by omega)]
 exact List.getElem_mem _
theorem ahm {t:Tbl} (h:ce t=true) {n:Int} (h0:0≤n) (h1:n<t.rows.length) (s:Int):1≤mj (ix t n) s∧mj (ix t n) s≤60:=by
 have:=(kd h).2.2 _ (abz h0 h1)
 unfold mj
 split<;>omega
theorem aoz (l:TLoc) (t:Tbl) (ht:ce t=true) (set:List Int) (hs:xd t set) (a:Option Addr) (fl:Nat) (H:GH) (hT:gc H l t) (hr:Elems H a 1 ca set):C 98 [qx l t,.slice a set.length fl] H (vi (jr t set)) H:=by
 rcases l with ⟨⟨ra,rf⟩⟩
 refine au tok mix a0z (F:=g98) (c:=_) rfl (n:=26) rfl (rs:= [.tmp 4]) rfl (ac rfl) ?_
 simp
 generalize hH1:H.push _=H1
 have hs1:Sub H H1:=by subst hH1; simp
 have hg1:H1.get H.next=some (.arr { cells:= [.slice ra t.rows.length rf,vi t.draw],ty:=24 }):=by subst hH1; simp
 have hn1:H.next<H1.next:=by subst hH1; simp
 have hr:=hr.mono hs1
 have hT:=hT.mono hs1
 clear hH1
 refine cv tok mix (by kernel_rfl) set.length (fun i ρ m H'=>ρ 2=.pointer (some (ga H.next 0 0))∧ρ 8=.slice a set.length fl∧ρ 9=vi set.length∧ρ 10=vi i∧m= []∧Sub H1 H'∧bg H' H1.next (ρ 5) 3 1 ca ((set.take i).map fun n=>(ix t n).gives)) (i0:=0) (by omega) (by simp [bg.nil]) ?_
 rintro i ρ m H' hi ⟨e2,e8,e9,e10,rfl,hsub,hown⟩
 have hg:=hsub.2 H.next hn1
 rw [hg1] at hg
 have hn:H.next<H'.next:=by have:=hsub.1; omega
 simp [e9,e10]
 refine ba (fun hlt=>?_) (fun hge=>?_)
 ·obtain ⟨b,rfl,hb,hrd⟩:=(hr.mono hsub).at i hlt
  have hm:=hs.2 _ (List.getElem_mem hlt)
  obtain ⟨rb,rfl,hrb,hrrd⟩:=(Elems.at (hT.mono hsub)) (set[i]).toNat (by omega)
  simp (disch:=omega) [e2,e8,e10,hlt,hrd,hg,hrrd]
  have er:ix t set[i]=t.rows[(set[i]).toNat]:=bc (by omega)
  simp only [←er]
  obtain ⟨v',H'',happ,hown',hnx,hfr,_⟩:=(hown.push (.arr { cells:= [vi (ix t set[i]).gives],ty:=3 })).app (by simp) (by simp) (by decide) (ix t set[i]).gives (by have:=hsub.1; simp; omega)
  have hlen:=hown.len
  have hl6:=hs.1
  simp only [List.length_map,List.length_take] at hlen
  rw [if_pos (by omega)]
  simp only [ca] at happ
  rw [happ]
  simp (disch:=omega) [e2,e8,e9,e10,aj]
  refine ⟨⟨by have:=hsub.1; simp at hnx; omega,fun g hg=>?_⟩,?_⟩
  ·rw [hfr g (by have:=hsub.1; simp; omega) (fun hc=>by have:=hown.blk_lt hc; omega),GH.get_push_lt _ _ (by have:=hsub.1; omega),hsub.2 g hg]
  ·rw [←List.map_take,List.take_succ_eq_append_getElem hlt,List.map_append]
   exact hown'
 ·have hi':i=set.length:=by omega
  subst hi'
  rw [List.take_length] at hown
  obtain ⟨a',fl',hv,hel⟩:=hown.elems (fun _=>rfl)
  simp [hv]
  have:=an3 (set.map fun n=>(ix t n).gives) ⟨by have:=hs.1; simp; omega,?_⟩ a' fl' H' hel
  ·simp only [List.length_map] at this
   refine this.go ?_
   simp [jr]
   exact hs1.trans hsub
  ·intro x hx
   obtain ⟨n,hn',rfl⟩:=List.mem_map.1 hx
   have hm:=hs.2 n hn'
   have:=(kd ht).2.2 _ (abz hm.1 hm.2)
   omega
theorem acg (l:TLoc) (t:Tbl) (ht:ce t=true) (s:Int) (hsys:bj s=true) (set:List Int) (hs:xd t set) (a:Option Addr) (fl:Nat) (H:GH) (hT:gc H l t) (hr:Elems H a 1 ca set):C 116 [qx l t,vi s,.slice a set.length fl] H (vi (cp t s set)) H:=by
 rcases l with ⟨⟨ra,rf⟩⟩
 refine au tok mix arl (F:=a32) (c:=_) rfl (n:=29) rfl (rs:= [.tmp 6]) rfl (ac rfl) ?_
 simp
 generalize hH1:H.push _=H1
 have hs1:Sub H H1:=by subst hH1; simp
 have hg1:H1.get H.next=some (.arr { cells:= [.slice ra t.rows.length rf,vi t.draw],ty:=24 }):=by subst hH1; simp
 have hn1:H.next<H1.next:=by subst hH1; simp
 have hr:=hr.mono hs1
 have hT:=hT.mono hs1
 clear hH1
 refine cv tok mix (by kernel_rfl) set.length (fun i ρ m H'=>ρ 1=vi s∧ρ 3=.pointer (some (ga H.next 0 0))∧ρ 10=.slice a set.length fl∧ρ 11=vi set.length∧ρ 12=vi i∧m= []∧Sub H1 H'∧bg H' H1.next (ρ 7) 3 1 ca ((set.take i).map fun n=>mj (ix t n) s)) (i0:=0) (by omega) (by simp [bg.nil]) ?_
 rintro i ρ m H' hi ⟨e1,e3,e10,e11,e12,rfl,hsub,hown⟩
 have hg:=hsub.2 H.next hn1
 rw [hg1] at hg
 have hn:H.next<H'.next:=by have:=hsub.1; omega
 simp [e11,e12]
 refine ba (fun hlt=>?_) (fun hge=>?_)
 ·obtain ⟨b,rfl,hb,hrd⟩:=(hr.mono hsub).at i hlt
  have hm:=hs.2 _ (List.getElem_mem hlt)
  obtain ⟨rb,rfl,hrb,hrrd⟩:=(Elems.at (hT.mono hsub)) (set[i]).toNat (by omega)
  simp (disch:=omega) [e1,e3,e10,e12,hlt,hrd,hg,hrrd]
  have er:ix t set[i]=t.rows[(set[i]).toNat]:=bc (by omega)
  simp only [←er]
  with_reducible refine (av2 _ s hsys _).go ?_
  simp (disch:=omega)
  obtain ⟨v',H'',happ,hown',hnx,hfr,_⟩:=(hown.push (.arr { cells:= [vi (mj (ix t set[i]) s)],ty:=3 })).app (by simp) (by simp) (by decide) (mj (ix t set[i]) s) (by have:=hsub.1; simp; omega)
  have hlen:=hown.len
  have hl6:=hs.1
  simp only [List.length_map,List.length_take] at hlen
  rw [if_pos (by omega)]
  simp only [ca] at happ
  rw [happ]
  simp (disch:=omega) [e1,e3,e10,e11,e12,aj]
  refine ⟨⟨by have:=hsub.1; simp at hnx; omega,fun g hg=>?_⟩,?_⟩
  ·rw [hfr g (by have:=hsub.1; simp; omega) (fun hc=>by have:=hown.blk_lt hc; omega),GH.get_push_lt _ _ (by have:=hsub.1; omega),hsub.2 g hg]
  ·rw [←List.map_take,List.take_succ_eq_append_getElem hlt,List.map_append]
   exact hown'
 ·have hi':i=set.length:=by omega
  subst hi'
  rw [List.take_length] at hown
  obtain ⟨a',fl',hv,hel⟩:=hown.elems (fun _=>rfl)
  simp [hv]
  have:=an3 (set.map fun n=>mj (ix t n) s) ⟨by have:=hs.1; simp; omega,?_⟩ a' fl' H' hel
  ·simp only [List.length_map] at this
   refine this.go ?_
   simp [cp]
   exact hs1.trans hsub
  ·intro x hx
   obtain ⟨n,hn',rfl⟩:=List.mem_map.1 hx
   have hm:=hs.2 n hn'
   have:=ahm ht hm.1 hm.2 s
   omega
end Go.Gm.Tryz
end
section
namespace Go.Gm.Tryz
open Go.Proofs
theorem nk (l:List Int) (hl:l.length≤1000) (a:Option Addr) (fl:Nat) (H:GH) (hr:Elems H a 1 ca l):ay Tryz.prog 90 [.slice a l.length fl] H (fun x H'=>∃v,x=.ret v∧Sub H H'∧bg H' H.next v 3 1 ca l):=by
 refine an tok mix a0r (F:=g90) (c:=_) rfl (n:=8) rfl (rs:= [.tmp 2]) rfl ?_
 simp
 cases a with
 |none=>
  have:=hr.nil rfl
  subst this
  simp [bg.nil]
 |some b=>
  obtain ⟨hb,hrd⟩:=hr.ok b rfl
  simp (disch:=omega)
  have h1:(H.push (.arr { cells:= [],ty:=3 })).read b l.length=some (l.flatMap ca):=by rw [zs _ _ _ hb]; simpa using hrd
  have h0:bg (H.push (.arr { cells:= [],ty:=3 })) H.next (.slice (some (ga H.next 0 0)) 0 1) 3 1 ca []:=bg.mk (l:= []) (by decide) (Nat.le_refl _) (by simp) (ver:=0) (szs:= []) (by simp)
  obtain ⟨v',H',happ,hown,hnx,hfr,_⟩:=h0.apps (by simp) (by simp) (by decide) l (by simp)
  have c8:8*l.length≤1000000:=by omega
  have c9:l.length≤1000000:=by omega
  simp (disch:=omega) [h1,happ,c8,c9]
  refine ⟨⟨by simp at hnx; omega,fun g hg=>?_⟩,by simpa using hown⟩
  rw [hfr g (by simp; omega) (by simp; omega),GH.get_push_lt _ _ hg]
theorem ao4 (x:Int) (H:GH):C 203 [vi x] H (.bool false) H:=by
 refine au tok mix atb (F:=a5d) (c:=_) rfl (n:=6) rfl (rs:= [.tmp 2]) rfl (ac rfl) ?_
 simp
theorem auj (x y:Int) (H:GH):C 193 [vi x,vi y] H (.bool (decide (x<y))) H:=by
 refine au tok mix as4 (F:=a47) (c:=_) rfl (n:=17) rfl (rs:= [.tmp 4]) rfl (ac rfl) ?_
 simp
 with_reducible refine (ao4 _ _).go ?_
 simp
def jo (l:List Int):Bool:=(List.range (l.length - 1)).all fun j=>decide (l.getD j 0≤l.getD (j+1) 0)
theorem ags (l:List Int) (hl:l.length≤1000) (a:Option Addr) (fl:Nat) (H:GH) (hr:Elems H a 1 ca l):C 152 [.slice a l.length fl] H (.bool (jo l)) H:=by
 refine au tok mix ar9 (F:=axk) (c:=_) rfl (n:=21) rfl (rs:= [.tmp 2]) rfl (ac rfl) ?_
 simp (disch:=omega) [aj]
 refine pb tok mix (by kernel_rfl) (fun k ρ m H'=>∃i:Int,k=(i+1).toNat∧ -1≤i∧i<l.length∧ρ 0=.slice a l.length fl∧ρ 3=vi i∧m= []∧H'=H∧∀j:Nat,i≤(j:Int)→j+1<l.length→l.getD j 0≤l.getD (j+1) 0) (k:=((l.length:Int) - 1+1).toNat) ⟨(l.length:Int) - 1,rfl,by omega,by omega,by simp,by simp,rfl,rfl,fun j h1 h2=>by omega⟩ ?_
 rintro k ρ m H' ⟨i,rfl,hi1,hi2,e0,e3,rfl,rfl,hj⟩
 simp [e3]
 refine ba (fun hlt=>?_) (fun hge=>?_)
 ·obtain ⟨n,rfl⟩:∃n:Nat,i=(n:Int)+1:=⟨(i - 1).toNat,by omega⟩
  obtain ⟨b,rfl,hb,hrd⟩:=hr.at (n+1) (by omega)
  obtain ⟨b',hb',_,hrd'⟩:=hr.at n (by omega)
  cases hb'
  have e1:((n:Int)+1).toNat=n+1:=by omega
  have e2:((n:Int)+1 - 1)=n:=by omega
  simp (disch:=omega) [e0,e3,hlt,e1,e2,aj,hrd,hrd']
  with_reducible refine (auj _ _ _).go ?_
  simp
  refine ck (fun h7=>?_) (fun h7=>?_)<;>(try simp only [decide_eq_true_eq,decide_eq_false_iff_not] at h7)
  ·have:jo l=false:=by
    unfold jo
    rw [List.all_eq_false]
    refine ⟨n,List.mem_range.2 (by omega),?_⟩
    rw [bc (by omega),bc (by omega)]
    simp; omega
   simp [this]
  ·simp (disch:=omega) [e0,e3,e2,aj]
   refine ⟨n+1,by omega,(n:Int),by omega,by omega,by omega,rfl,fun j h1 h2=>?_⟩
   by_cases hc:j=n
   ·subst hc
    simp [List.getElem?_eq_getElem (show j<l.length by omega),List.getElem?_eq_getElem (show j+1<l.length by omega)]
    omega
   ·have:=hj j (by omega) h2
    simpa using this
 ·have:jo l=true:=by
   unfold jo
   rw [List.all_eq_true]
   intro j hjm
   have:=List.mem_range.1 hjm
   simpa using hj j (by omega) (by omega)
  simp [this]
def wc (t:Tbl) (n:Int):Bool:=inI n 0 (t.rows.length - 1)
theorem ao5 (l:TLoc) (t:Tbl) (ht:t.rows.length≤1000) (n:Int) (H:GH):C 154 [qx l t,vi n] H (.bool (wc t n)) H:=by
 refine au tok mix asb (F:=a4m) (c:=_) rfl (n:=11) rfl (rs:= [.tmp 4]) rfl (ac rfl) ?_
 simp (disch:=omega) [aj]
 with_reducible refine (qo _ _ _ _).go ?_
 simp [wc]
theorem akg (l:TLoc) (t:Tbl) (ht:t.rows.length≤1000) (n:Int) (g:Nat) (H:GH) (hg:H.get g=some (.arr { cells:= [.slice l.rows.a t.rows.length l.rows.fl,vi t.draw],ty:=24 })):C 153 [vi n,.pointer (some (ga g 0 0))] H (.bool (!wc t n)) H:=by
 refine au tok mix asa (F:=a4l) (c:=_) rfl (n:=8) rfl (rs:= [.tmp 3]) rfl (ac rfl) ?_
 simp [hg]
 with_reducible refine (ao5 l t ht _ _).go ?_
 simp
def pi (t:Tbl) (l:List Int):Bool:=decide (l.length≤6)&&jo l&& !l.any (fun n=> !wc t n)
theorem ao6 (l:TLoc) (t:Tbl) (ht:t.rows.length≤1000) (set:List Int) (a:Option Addr) (fl:Nat) (H:GH) (hr:Elems H a 1 ca set):C 97 [qx l t,.slice a set.length fl] H (.bool (pi t set)) H:=by
 rcases l with ⟨⟨ra,rf⟩⟩
 refine au tok mix a0y (F:=g97) (c:=_) rfl (n:=18) rfl (rs:= [.tmp 4]) rfl (ac rfl) ?_
 simp
 refine bh (fun h=>?_) (fun h=>?_)<;>(try simp only [decide_eq_true_eq,decide_eq_false_iff_not] at h)
 case refine_2=>simp [h,pi]; omega
 simp [h]
 refine (ags set (by omega) a fl _ (hr.push _)).go ?_
 simp
 cases hso:jo set
 ·simp [hso,pi]
 simp
 refine (u6 set (by omega) a fl 153 #[.pointer (some (ga H.next 0 0))] (fun n=> !wc t n) _ (hr.push _) (fun k hk=>?_)).go ?_
 ·exact akg ⟨⟨ra,rf⟩⟩ t ht _ _ _ (by simp)
 have:set.length≤6:=by omega
 simp [pi,hso,this]
theorem avn {t:Tbl} {l:List Int} (h:pi t l=true):xd t l:=by
 simp only [pi,Bool.and_eq_true,decide_eq_true_eq,Bool.not_eq_true',List.any_eq_false] at h
 refine ⟨h.1.1,fun n hn=>?_⟩
 have:=h.2 n hn
 simp [wc,inI] at this
 omega
theorem an8 (l:TLoc) (t:Tbl) (set:List Int) (a:Option Addr) (fl:Nat) (H:GH) (hT:gc H l t) (hr:Elems H a 1 ca set):C 46 [qx l t,.slice a set.length fl] H (if ce t&&pi t set then .tuple #[vi (jr t set),vi 0] else .tuple #[vi 0,vi 2]) H:=by
 rcases l with ⟨⟨ra,rf⟩⟩
 refine au tok mix azz (F:=g46) (c:=_) rfl (n:=18) rfl (rs:= [.tmp 4,.tmp 5]) rfl (by split<;>exact i8 (l:= [_,_]) (by simp; exact ⟨ac rfl,ac rfl⟩)) ?_
 simp
 with_reducible refine (ov ⟨⟨_,_⟩⟩ t _ (hT.push _)).go ?_
 simp
 cases htb:ce t
 ·simp
 simp
 have hrows:=kd htb
 refine (ao6 ⟨⟨_,_⟩⟩ t (by omega) set a fl _ (hr.push _)).go ?_
 simp
 cases hsb:pi t set
 ·simp
 simp
 refine (aoz ⟨⟨_,_⟩⟩ t htb set (avn hsb) a fl _ (hT.push _) (hr.push _)).go ?_
 simp
end Go.Gm.Tryz
end
section
namespace Go.Gm
noncomputable section
def dp (f:FuncId) (ps:Array Tmp) (avs bd:Code) (d:Nat) (st:LoopState) (pd:Option Code) (gt:GT):GObj:=
 .loop { state:=st,pending:=pd,fn:=f,tmps:= #[],params:=ps,assign:=avs,body:=bd,defers:=d } gt
theorem aon (n:Nat) (ρ:Rho):∃gt:GT,gt.list=(List.range n).map ρ:=by
 have:∀k,k≤n→∃gt:GT,gt.n=n∧∀i,i<k→gt.get i=ρ i:=by
  intro k
  induction k with
  |zero=>intro _; exact ⟨⟨.nil,n⟩,rfl,fun i hi=>by omega⟩
  |succ k ih=>
   intro hk
   obtain ⟨gt,h1,h2⟩:=ih (by omega)
   refine ⟨gt.set k (ρ k),by rw [GT.set_eq]; split<;>exact h1,fun i hi=>?_⟩
   rw [GT.get_eq,GT.set_eq,h1,if_pos (show k<n by omega)]
   have hin:i<n:=by omega
   simp only [hin,if_true]
   by_cases hc:i=k
   ·subst hc; rw [Tr.get_set_same]; rfl
   ·rw [Tr.get_set_ne _ _ hc]
    have:=h2 i (by omega)
    rw [GT.get_eq,h1,if_pos hin] at this
    exact this
 obtain ⟨gt,h1,h2⟩:=this n (Nat.le_refl _)
 refine ⟨gt,?_⟩
 unfold GT.list
 rw [h1]
 exact List.map_congr_left fun i hi=>h2 i (List.mem_range.1 hi)
def bce (pd:Option Code) (Q:VQ):Rho→List Nat→GH→Prop
 |ρ,m,H=>match pd with
  |none=>Q .normal ρ m H
  |some .ret=>Q .ret ρ m H
  |some (.exit i)=>Q (.exit i) ρ m H
  |some _=>False
theorem aax {X:Cx} (hro:X.ro=none) {g:Operand} {ps:Array Tmp} {avs bd:Code} {Q:VQ} {ρ:Rho} {m:List Nat} {H:GH} (hx:xOk g=true) {gf:FuncId} {first captured:Array Value} (hg:rv X.n ρ g=.func (.func gf) first captured) (f:FuncId)
  (h:∀gt:GT,gt.list=(List.range X.n).map ρ→ay X.P gf (first.toList++ [.func (.yield (H.next+1)) #[] #[]]++captured.toList) ((H.push (.marks true)).push (dp f ps avs bd H.next .ready none gt)) fun x H2=>∃v st pd gt2,x=.ret v∧
   H2.get (H.next+1)=some (dp f ps avs bd H.next st pd gt2)∧st≠ .busy∧bce pd Q ρ (H.next::m) (H2.put (H.next+1) (dp f ps avs bd H.next .exhausted pd gt2))):wpC X (.rangeFunc g ps avs bd) Q ρ m H:=by
 obtain ⟨gt,hgt⟩:=aon X.n ρ
 show GW X.P X.ro (.rangeFunc g ps avs bd) (fa X.n ρ m) H (QG X.n Q)
 refine xy hx (by rw [ae2]; exact hg) f (by rw [hro]; exact .outer) (gt:=gt) hgt ?_
 refine (h gt hgt).mono ?_
 rintro x H2 ⟨v,st,pd,gt2,rfl,h1,h2,h3⟩
 refine ⟨_,gt2,h1,h2,?_⟩
 simp only
 match pd,h3 with
 |none,h3=>exact ⟨ρ,_,rfl,h3⟩
 |some .ret,h3=>exact agn ⟨ρ,_,rfl,h3⟩
 |some (.exit i),h3=>exact abv ⟨ρ,_,rfl,h3⟩
def rdQ (l:Nat) (f:FuncId) (ps:Array Tmp) (avs bd:Code) (d:Nat) (gt:GT) (R:GO→GH→Prop):VQ
 | .normal,_,_,H=>H.get l=some (dp f ps avs bd d .busy none gt)∧R (.ret (.bool true)) (H.put l (dp f ps avs bd d .ready none gt))
 | .exit i,_,_,H=>H.get l=some (dp f ps avs bd d .busy none gt)∧R (.ret (.bool false)) (H.put l (dp f ps avs bd d .done (some (.exit i)) gt))
 | .ret,_,_,H=>H.get l=some (dp f ps avs bd d .busy none gt)∧R (.ret (.bool false)) (H.put l (dp f ps avs bd d .done (some .ret) gt))
 | .pan _,_,_,_=>False
theorem ap1 (n:Nat) (ρ:Rho) (p:Nat) (v:Value):mp ((List.range n).map ρ) (([p]:List Nat).zip [v])=(List.range n).map (upd ρ p v):=by
 have:=pc n ρ [] (some p) v
 exact congrArg GA.tmps this
theorem afb {P:Program} {T:Tab} (hT:TabOk P T) (hmix:P.follows .mixedOrders=true) {plans:List (Nat×gj)} {n l:Nat} {f:FuncId} {p:Tmp} {avs bd:Code} {d:Nat} {gt:GT} {ρ:Rho} (hgt:gt.list=(List.range n).map ρ)
  (hb:cg T plans avs=true) (hb2:cg T plans bd=true) {H:GH} {v:Value} {R:GO→GH→Prop} (hg:H.get l=some (dp f #[p] avs bd d .ready none gt))
  (h:wpC ⟨P,T,plans,n,some l⟩ avs (fun x ρ1 m1 H1=>x=.normal∧m1= []∧H1.get l=some (dp f #[p] avs bd d .ready none gt)∧wpC ⟨P,T,plans,n,some l⟩ bd (rdQ l f #[p] avs bd d gt R) ρ1 [] (H1.put l (dp f #[p] avs bd d .busy none gt))) (upd ρ p v) [] H):fm P l [v] H R:=by
 refine afa hg rfl ?_
 simp only
 have e:({ tmps:=mp gt.list (([p]:List Nat).zip [v]) }:GA)=fa n (upd ρ p v) []:=by rw [hgt,ap1]; rfl
 show GW P (some l) avs { tmps:=mp gt.list (([p]:List Nat).zip [v]) } H _
 rw [e]
 refine (lz (X:=⟨P,T,plans,n,some l⟩) hT hmix avs hb h).mono ?_
 rintro x a H1 ⟨ρ1,m1,rfl,rfl,rfl,h1,h2⟩
 refine ⟨rfl,_,gt,h1,rfl,?_⟩
 refine (lz (X:=⟨P,T,plans,n,some l⟩) hT hmix bd hb2 h2).mono ?_
 rintro x a H2 ⟨ρ2,m2,rfl,hq⟩
 cases x with
 |normal=>exact ⟨_,gt,hq.1,hq.2⟩
 |exit i=>exact ⟨_,gt,hq.1,hq.2⟩
 |ret=>exact ⟨_,gt,hq.1,hq.2⟩
 |pan v=>exact hq.elim
structure Frm (O O':Nat→Prop) (H H':GH):Prop where
 next:H.next≤H'.next
 keep:∀g,g<H.next→¬O g→H'.get g=H.get g
 own:∀g,O' g→O g∨H.next≤g
 lt:∀g,O' g→g<H'.next
theorem Frm.refl {O:Nat→Prop} {H:GH} (h:∀g,O g→g<H.next):Frm O O H H:=⟨Nat.le_refl _,fun _ _ _=>rfl,fun _ h=>.inl h,h⟩
theorem Frm.trans {O0 O1 O2:Nat→Prop} {H0 H1 H2:GH} (a:Frm O0 O1 H0 H1) (b:Frm O1 O2 H1 H2):Frm O0 O2 H0 H2:=by
 refine ⟨Nat.le_trans a.next b.next,fun g hg ho=>?_,fun g hg=>?_,b.lt⟩
 ·rw [b.keep g (Nat.lt_of_lt_of_le hg a.next) fun hc=>(a.own g hc).elim ho (by omega),a.keep g hg ho]
 ·rcases b.own g hg with h|h
  ·exact a.own g h
  ·exact .inr (Nat.le_trans a.next h)
theorem Frm.of_sub {O:Nat→Prop} {H H':GH} (h:∀g,O g→g<H.next) (hs:Sub H H'):Frm O O H H':=⟨hs.1,fun g hg _=>hs.2 g hg,fun _ h=>.inl h,fun g hg=>Nat.lt_of_lt_of_le (h g hg) hs.1⟩
theorem Frm.sub {O O':Nat→Prop} {H H1 H':GH} (hs:Sub H H1) (b:Frm O O' H1 H'):Frm O O' H H':=
 ⟨Nat.le_trans hs.1 b.next,fun g hg ho=>by rw [b.keep g (Nat.lt_of_lt_of_le hg hs.1) ho,hs.2 g hg],fun g hg=>(b.own g hg).imp id fun h=>Nat.le_trans hs.1 h,b.lt⟩
theorem Frm.not {O O':Nat→Prop} {H H':GH} (a:Frm O O' H H') {g:Nat} (hg:g<H.next) (ho:¬O g):¬O' g:=fun hc=>(a.own g hc).elim ho (by omega)
theorem Elems.frm {α:Type} {H H':GH} {O O':Nat→Prop} {a:Option Addr} {sz:Nat} {enc:α→List Value} {l:List α} (e:Elems H a sz enc l) (f:Frm O O' H H') (ha:∀b,a=some b→¬O b.block):Elems H' a sz enc l:=by
 refine ⟨e.len,fun b hb=>?_,e.nil⟩
 obtain ⟨h1,h2⟩:=e.ok b hb
 refine ⟨Nat.lt_of_lt_of_le h1 f.next,?_⟩
 rw [←h2]
 simp only [GH.read]
 rw [f.keep _ h1 (ha b hb)]
theorem Elems.put {α:Type} {H:GH} {a:Option Addr} {sz:Nat} {enc:α→List Value} {l:List α} (e:Elems H a sz enc l) {g:Nat} (o:GObj) (h:∀b,a=some b→b.block≠g):Elems (H.put g o) a sz enc l:=by
 refine ⟨e.len,fun b hb=>?_,e.nil⟩
 obtain ⟨h1,h2⟩:=e.ok b hb
 exact ⟨h1,by rw [ajo _ _ _ _ (h b hb)]; exact h2⟩
theorem Elems.put_loop {α:Type} {H:GH} {a:Option Addr} {sz:Nat} {enc:α→List Value} {l:List α} (e:Elems H a sz enc l) {g:Nat} {o:GObj} (hg:H.get g=some o) (ho:o.isArr=false) (o':GObj):Elems (H.put g o') a sz enc l:=by
 refine e.put o' fun b hb hc=>?_
 obtain ⟨_,h2⟩:=e.ok b hb
 subst hc
 unfold GH.read at h2
 split at h2
 ·rename_i A _ hA; rw [hA] at hg; cases hg; cases ho
 ·cases h2
@[simp] theorem a06 (f:FuncId) (ps:Array Tmp) (avs bd:Code) (d:Nat) (st:LoopState) (pd:Option Code) (gt:GT):(dp f ps avs bd d st pd gt).isArr=false:=rfl
theorem Elems.same {α:Type} {H H':GH} {a:Option Addr} {sz:Nat} {enc:α→List Value} {l:List α} (e:Elems H a sz enc l) (hn:H.next≤H'.next) (h:∀g A,g<H.next→H.get g=some (.arr A)→H'.get g=H.get g):Elems H' a sz enc l:=by
 refine ⟨e.len,fun b hb=>?_,e.nil⟩
 obtain ⟨h1,h2⟩:=e.ok b hb
 refine ⟨Nat.lt_of_lt_of_le h1 hn,?_⟩
 have h3:∃A,H.get b.block=some (.arr A):=by
  unfold GH.read at h2
  split at h2
  ·rename_i A _ hA; exact ⟨A,hA⟩
  ·cases h2
 obtain ⟨A,hA⟩:=h3
 rw [←h2]
 simp only [GH.read]
 rw [h _ A h1 hA]
def kf:Value→Option Nat
 | .slice (some a) _ _=>some a.block
 |_=>none
@[simp] theorem ay7 (a:Option Addr) (n c:Nat):kf (.slice a n c)=a.map (·.block):=by cases a<;>rfl
def od {α:Type} (P:Program) (l:Nat) (xs:List α) (argR:GH→Value→α→Prop) (Inv:Nat→GH→(Nat→Prop)→Prop) (Stop:GH→(Nat→Prop)→Prop):Prop:=
 ∀k (h:k<xs.length) H O v,Inv k H O→argR H v xs[k]→(∀b,kf v=some b→¬O b)→fm P l [v] H fun x H'=>∃O',Frm O O' H H'∧((x=.ret (.bool true)∧Inv (k+1) H' O')∨(x=.ret (.bool false)∧Stop H' O'))
def am0 (N:Nat) (S:GH→(Nat→Prop)→Prop):Prop:=
 ∀H H' O,S H O→(∀g,O g→g<H.next)→H.next≤H'.next→(∀g,g<H.next→(O g∨g<N)→H'.get g=H.get g)→S H' O
def abj (N:Nat) (S:GH→(Nat→Prop)→Prop):Prop:=
 ∀H H' O,S H O→(∀g,O g→g<H.next)→H.next≤H'.next→(∀g,g<H.next→(O g∨g<N∨∃A,H.get g=some (.arr A))→H'.get g=H.get g)→S H' O
def ab4 (N:Nat) (Inv:Nat→GH→(Nat→Prop)→Prop):Prop:=∀k,am0 N (Inv k)
def a1o {α:Type} (P:Program) (gf:FuncId) (first captured:Array Value) (H:GH) (xs:List α) (argR:GH→Value→α→Prop) (Priv:Nat→Prop):Prop:=
 ∀l Hc Inv Stop O,Sub H Hc→od P l xs argR Inv Stop→ab4 Hc.next Inv→abj Hc.next Stop→Inv 0 Hc O→(∀g,O g→g<Hc.next)→(∀g,O g→¬Priv g)→
  ay P gf (first.toList++ [.func (.yield l) #[] #[]]++captured.toList) Hc fun x H'=>∃O' v,x=.ret v∧Frm O O' Hc H'∧(Inv xs.length H' O'∨Stop H' O')
def ah5 (Hk:GH) (Ok:Nat→Prop) (J:GH→(Nat→Prop)→Prop) (S:GX→GH→(Nat→Prop)→Prop):VQ
 | .normal,_,_,H'=>∃O',Frm Ok O' Hk H'∧J H' O'
 | .exit i,_,_,H'=>∃O',Frm Ok O' Hk H'∧S (.exit i) H' O'
 | .ret,_,_,H'=>∃O',Frm Ok O' Hk H'∧S .ret H' O'
 | .pan _,_,_,_=>False
section
variable {Hk:GH} {Ok:Nat→Prop} {J:GH→(Nat→Prop)→Prop} {S:GX→GH→(Nat→Prop)→Prop} {ρ:Rho} {m:List Nat} {H':GH}
@[simp] theorem awu:ah5 Hk Ok J S .normal ρ m H'=∃O',Frm Ok O' Hk H'∧J H' O':=rfl
@[simp] theorem a1u (i:Nat):ah5 Hk Ok J S (.exit i) ρ m H'=∃O',Frm Ok O' Hk H'∧S (.exit i) H' O':=rfl
@[simp] theorem a7z:ah5 Hk Ok J S .ret ρ m H'=∃O',Frm Ok O' Hk H'∧S .ret H' O':=rfl
end
def akq:GX→Option Code
 | .exit i=>some (.exit i)
 | .ret=>some .ret
 |_=>none
theorem Frm.put_new {O O':Nat→Prop} {H H':GH} (f:Frm O O' H H') {g:Nat} (hg:H.next≤g) (o:GObj):Frm O O' H (H'.put g o):=
 ⟨f.next,fun k hk ho=>by rw [GH.get_put_ne _ _ (by omega)]; exact f.keep k hk ho,f.own,f.lt⟩
theorem Frm.put {O:Nat→Prop} {H:GH} {g:Nat} (hO:∀g,O g→g<H.next) (ho:O g) (o:GObj):Frm O O H (H.put g o):=
 ⟨Nat.le_refl _,fun _k _ hk=>GH.get_put_ne _ _ fun hc=>hk (hc▸ho),fun _ h=>.inl h,hO⟩
theorem alg {P:Program} {T:Tab} (hT:TabOk P T) (hmix:P.follows .mixedOrders=true) {plans:List (Nat×gj)} {n l mk d:Nat} {f:FuncId} {p:Tmp} {avs bd:Code} {gt:GT} {ρ:Rho} (hgt:gt.list=(List.range n).map ρ)
  (hb1:cg T plans avs=true) (hb2:cg T plans bd=true) {α:Type} {xs:List α} {argR:GH→Value→α→Prop} (hargR:∀H v x o o',argR H v x→H.get l=some o→o.isArr=false→argR (H.put l o') v x)
  {J:Nat→GH→(Nat→Prop)→Prop} {S:GX→GH→(Nat→Prop)→Prop} {O:Nat→Prop} {H:GH} (hJs:ab4 H.next J) (hSs:∀x,abj H.next (S x)) (hl:H.next≤l) (_hmk:H.next≤mk) (hlm:l≠mk) {om:GObj}
  (ρa:Value→Rho) (has:∀Hk v,wpC ⟨P,T,plans,n,some l⟩ avs (fun x ρ1 m1 H1=>x=.normal∧m1= []∧H1=Hk∧ρ1=ρa v) (upd ρ p v) [] Hk)
  (body:∀k (hk:k<xs.length) Hk Ok v,J k Hk Ok→Frm O Ok H Hk→argR Hk v xs[k]→(∀b,kf v=some b→¬Ok b)→l<Hk.next→¬Ok l→Hk.get l=some (dp f #[p] avs bd d .busy none gt)→wpC ⟨P,T,plans,n,some l⟩ bd (ah5 Hk Ok (J (k+1)) S) (ρa v) [] Hk):
  od P l xs argR
   (fun k Hk OL=>∃O',(∀g,OL g↔O' g∨g=l)∧¬O' l∧¬O' mk∧Frm O O' H Hk∧J k Hk O'∧Hk.get l=some (dp f #[p] avs bd d .ready none gt)∧Hk.get mk=some om∧l<Hk.next∧mk<Hk.next)
   (fun Hk OL=>∃O' x,(∀g,OL g↔O' g∨g=l)∧¬O' l∧¬O' mk∧Frm O O' H Hk∧S x Hk O'∧(x=.ret∨∃i,x=.exit i)∧Hk.get l=some (dp f #[p] avs bd d .done (akq x) gt)∧Hk.get mk=some om∧l<Hk.next∧mk<Hk.next):=by
 rintro k hk Hk OL v ⟨O',hOL,hol,hom,hfr,hJ,hgl,hgm,hll,hml⟩ ha hav
 refine afb hT hmix hgt hb1 hb2 hgl ?_
 refine p8 (has Hk v) ?_
 rintro x ρ1 m1 H1 ⟨rfl,rfl,rfl,rfl⟩
 refine ⟨rfl,rfl,hgl,?_⟩
 have hlt:∀g,O' g→g<H1.next:=hfr.lt
 have hfr2:Frm O O' H (H1.put l (dp f #[p] avs bd d .busy none gt)):=
  ⟨hfr.next,fun g hg ho=>by rw [GH.get_put_ne _ _ (by omega)]; exact hfr.keep g hg ho,hfr.own,hfr.lt⟩
 have hJ2:J k (H1.put l (dp f #[p] avs bd d .busy none gt)) O':=hJs k H1 _ O' hJ hlt (Nat.le_refl _) fun g hg hor=>GH.get_put_ne _ _ fun hc=>by
  subst hc
  rcases hor with h|h
  ·exact hol h
  ·omega
 refine p8 (body k hk _ O' v hJ2 hfr2 (hargR H1 v _ _ _ ha hgl (by simp)) (fun b hb hc=>hav b hb ((hOL b).2 (.inl hc))) hll hol (GH.get_put_same _ _)) ?_
 intro x ρ2 m2 H2 hx
 have fin:∀(O2:Nat→Prop),Frm O' O2 (H1.put l (dp f #[p] avs bd d .busy none gt)) H2→H2.get l=some (dp f #[p] avs bd d .busy none gt)∧H2.get mk=some om∧¬O2 l∧¬O2 mk∧l<H2.next∧mk<H2.next∧∀o,Frm OL (fun g=>O2 g∨g=l) H1 (H2.put l o)∧Frm O O2 H (H2.put l o):=by
  intro O2 h2
  have hn:=h2.next
  simp only [GH.next_put] at hn
  refine ⟨by rw [h2.keep l hll hol,GH.get_put_same],by rw [h2.keep mk hml hom,GH.get_put_ne _ _ (Ne.symm hlm)]; exact hgm,h2.not hll hol,h2.not hml hom,by omega,by omega,fun o=>⟨⟨by simpa using hn,fun g hg ho=>?_,fun g hg=>?_,fun g hg=>?_⟩,?_⟩⟩
  ·have hgl':g≠l:=fun hc=>ho ((hOL g).2 (.inr hc))
   rw [GH.get_put_ne _ _ hgl',h2.keep g hg (fun hc=>ho ((hOL g).2 (.inl hc))),GH.get_put_ne _ _ hgl']
  ·rcases hg with h|h
   ·exact (h2.own g h).imp (fun h=>(hOL g).2 (.inl h)) fun h=>by simpa using h
   ·exact .inl ((hOL g).2 (.inr h))
  ·rcases hg with h|h
   ·exact h2.lt g h
   ·subst h; simp; omega
  ·have:=hfr2.trans h2
   exact ⟨this.next,fun g hg ho=>by rw [GH.get_put_ne _ _ (by omega)]; exact this.keep g hg ho,this.own,this.lt⟩
 have stb:∀(O2:Nat→Prop),Frm O' O2 (H1.put l (dp f #[p] avs bd d .busy none gt)) H2→∀o g,g<H2.next→(O2 g∨g<H.next)→(H2.put l o).get g=H2.get g:=by
  intro O2 h2 o g hg hor
  refine GH.get_put_ne _ _ fun hc=>?_
  subst hc
  rcases hor with h|h
  ·exact h2.not hll hol h
  ·omega
 have stb2:∀(O2:Nat→Prop),Frm O' O2 (H1.put l (dp f #[p] avs bd d .busy none gt)) H2→∀o g,g<H2.next→(O2 g∨g<H.next∨∃A,H2.get g=some (.arr A))→(H2.put l o).get g=H2.get g:=by
  intro O2 h2 o g hg hor
  refine GH.get_put_ne _ _ fun hc=>?_
  subst hc
  rcases hor with h|h|⟨A,h⟩
  ·exact h2.not hll hol h
  ·omega
  ·rw [(fin O2 h2).1] at h; cases h
 cases x with
 |normal=>
  obtain ⟨O2,h2,hJ3⟩:=hx
  obtain ⟨a1,a2,a3,a4,a5,a6,a7⟩:=fin O2 h2
  exact ⟨a1,_,(a7 _).1,.inl ⟨rfl,O2,fun g=>Iff.rfl,a3,a4,(a7 _).2,hJs _ _ _ _ hJ3 h2.lt (Nat.le_refl _) (stb O2 h2 _),GH.get_put_same _ _,by rw [GH.get_put_ne _ _ (Ne.symm hlm)]; exact a2,a5,a6⟩⟩
 |exit i=>
  obtain ⟨O2,h2,hS3⟩:=hx
  obtain ⟨a1,a2,a3,a4,a5,a6,a7⟩:=fin O2 h2
  exact ⟨a1,_,(a7 _).1,.inr ⟨rfl,O2,_,fun g=>Iff.rfl,a3,a4,(a7 _).2,hSs _ _ _ _ hS3 h2.lt (Nat.le_refl _) (stb2 O2 h2 _),.inr ⟨i,rfl⟩,GH.get_put_same _ _,by rw [GH.get_put_ne _ _ (Ne.symm hlm)]; exact a2,a5,a6⟩⟩
 |ret=>
  obtain ⟨O2,h2,hS3⟩:=hx
  obtain ⟨a1,a2,a3,a4,a5,a6,a7⟩:=fin O2 h2
  exact ⟨a1,_,(a7 _).1,.inr ⟨rfl,O2,_,fun g=>Iff.rfl,a3,a4,(a7 _).2,hSs _ _ _ _ hS3 h2.lt (Nat.le_refl _) (stb2 O2 h2 _),.inl rfl,GH.get_put_same _ _,by rw [GH.get_put_ne _ _ (Ne.symm hlm)]; exact a2,a5,a6⟩⟩
 |pan v=>exact hx.elim
end
end Go.Gm
end
section
namespace Go.Gm.Tryz
open Go.Proofs
def fp (now:List Int):Nat:=(now.getLast?.getD 0).toNat
def bf (m:Nat):Nat→List Int→List (List Int)
 |0,now=> [now]
 |many+1,now=>(List.range' (fp now) (m - fp now)).flatMap fun (n:Nat)=>bf m many (now++ [((n:Nat):Int)])
def bp (m:Nat):List (List Int):=(List.range 7).flatMap fun k=>bf m k []
def ajx (H:GH) (v:Value) (s:List Int):Prop:=∃a fl,v=.slice a s.length fl∧Elems H a 1 ca s
structure SearchH (t:Tbl) (l t2 t3 t4:Nat) (ra:Option Addr) (rf:Nat) (H:GH) (O:Nat→Prop):Prop where
 g2:H.get t2=some (.arr { cells:= [.func (.yield l) #[] #[]],ty:=189 })
 g3:H.get t3=some (.arr { cells:= [.slice ra t.rows.length rf,vi t.draw],ty:=24 })
 g4:H.get t4=some (.arr { cells:= [.func (.func 192) #[] #[.pointer (some (ga t2 0 0)),.pointer (some (ga t3 0 0)),.pointer (some (ga t4 0 0))]],ty:=232 })
 n2:t2<H.next
 n3:t3<H.next
 n4:t4<H.next
 o2:¬O t2
 o3:¬O t3
 o4:¬O t4
theorem SearchH.frm {t:Tbl} {l t2 t3 t4:Nat} {ra:Option Addr} {rf:Nat} {H H':GH} {O O':Nat→Prop} (h:SearchH t l t2 t3 t4 ra rf H O) (f:Frm O O' H H'):SearchH t l t2 t3 t4 ra rf H' O':=
 ⟨by rw [f.keep _ h.n2 h.o2]; exact h.g2,by rw [f.keep _ h.n3 h.o3]; exact h.g3,by rw [f.keep _ h.n4 h.o4]; exact h.g4,
  Nat.lt_of_lt_of_le h.n2 f.next,Nat.lt_of_lt_of_le h.n3 f.next,Nat.lt_of_lt_of_le h.n4 f.next,f.not h.n2 h.o2,f.not h.n3 h.o3,f.not h.n4 h.o4⟩
theorem amd (t:Tbl) (hrows:t.rows.length≤12) {l t2 t3 t4 N:Nat} {ra:Option Addr} {rf:Nat} {xs:List (List Int)} {Inv:Nat→GH→(Nat→Prop)→Prop} {Stop:GH→(Nat→Prop)→Prop}
  (hY:od Tryz.prog l xs ajx Inv Stop) (hSt:ab4 N Inv):∀(many:Nat),many≤6→∀(now:List Int),now.length+many≤6→(∀x∈now,0≤x∧x≤1000)→∀(k:Nat) (rest:List (List Int)),xs.drop k=bf t.rows.length many now++rest→
  ∀(H:GH) (O:Nat→Prop) (a:Option Addr) (fl:Nat),Inv k H O→(∀g,O g→g<H.next)→SearchH t l t2 t3 t4 ra rf H O→N≤H.next→Elems H a 1 ca now→(∀b,a=some b→¬O b.block)→
  ay Tryz.prog 192 [.slice a now.length fl,vi many,.pointer (some (ga t2 0 0)),.pointer (some (ga t3 0 0)),.pointer (some (ga t4 0 0))] H fun x H'=>∃O',Frm O O' H H'∧
   ((x=.ret (.bool true)∧Inv (k+(bf t.rows.length many now).length) H' O')∨(x=.ret (.bool false)∧Stop H' O')):=by
 intro many
 induction many with
 |zero=>
  intro _ now _ _ k rest hx H O a fl hI hO hS hN hE ha
  have hk:k<xs.length:=by
   have:=congrArg List.length hx
   simp [bf] at this
   omega
  have hxk:xs[k]=now:=by
   have h0:xs[k]?=some now:=by have:=congrArg (fun l=>l[0]?) hx; simpa [bf] using this
   rw [List.getElem?_eq_getElem hk] at h0
   exact Option.some.inj h0
  refine an tok mix ak7 (F:=atz) (c:=_) rfl (n:=42) rfl (rs:= [.tmp 7]) rfl ?_
  simp [hS.g2]
  refine (hY k hk H O _ hI ⟨a,fl,by rw [hxk],by rw [hxk]; exact hE⟩ (by cases a<;>simp; exact ha _ rfl)).mono ?_
  rintro x H' ⟨O',hf,⟨rfl,h⟩|⟨rfl,h⟩⟩
  ·simp [bf]; exact ⟨O',hf,h⟩
  ·simp [bf]; exact ⟨O',hf,h⟩
 |succ many ih=>
  intro hm now hlen hbd k rest hx H O a fl hI hO hS hN hE ha
  refine an tok mix ak7 (F:=atz) (c:=_) rfl (n:=42) rfl (rs:= [.tmp 7]) rfl ?_
  have hne:¬((many:Int)+1=0):=by omega
  simp [hne]
  have hx0:∀x∈now.getLast?,0≤x∧x≤1000:=fun x hx=>hbd x (List.mem_of_getLast? hx)
  have hf0:fp now≤1000:=by
   unfold fp
   cases h:now.getLast? with
   |none=>simp
   |some x=>have:=hx0 x h; simp; omega
  refine ba (fun hlt=>?_) (fun hge=>?_)
  ·obtain ⟨b,hab,hb,hrd⟩:=hE.at (now.length - 1) (by omega)
   have e1:((now.length:Int) - 1).toNat=now.length - 1:=by omega
   have hx1:=hbd _ (List.getElem_mem (show now.length - 1<now.length by omega))
   have hf:(fp now:Int)=now[now.length - 1]:=by
    unfold fp
    rw [List.getLast?_eq_getElem?,List.getElem?_eq_getElem (by omega)]
    simp; omega
   simp (disch:=omega) [hab,hrd,e1,aj]
   refine pb tok mix (by kernel_rfl) (fun j ρ m H1=>∃n:Nat,n≤1000∧j=t.rows.length - n∧ρ 0=.slice a now.length fl∧ρ 1=vi (many+1)∧ρ 2=.pointer (some (ga t2 0 0))∧ρ 3=.pointer (some (ga t3 0 0))∧ρ 4=.pointer (some (ga t4 0 0))∧ρ 9=vi n∧m= []∧
    ∃O1 k1,Frm O O1 H H1∧Inv k1 H1 O1∧xs.drop k1=((List.range' n (t.rows.length - n)).flatMap fun (n:Nat)=>bf t.rows.length many (now++ [((n:Nat):Int)]))++rest∧
     k1+((List.range' n (t.rows.length - n)).flatMap fun (n:Nat)=>bf t.rows.length many (now++ [((n:Nat):Int)])).length=k+(bf t.rows.length (many+1) now).length)
    ⟨fp now,hf0,rfl,by simp [hab],by simp,by simp,by simp,by simp,by simp [hf],rfl,O,k,Frm.refl hO,hI,by simpa [bf] using hx,by simp [bf]⟩ ?_
   rintro j ρ m H1 ⟨n,hn,rfl,e0,e1,e2,e3,e4,e9,rfl,O1,k1,hfr,hI1,hx1,hc1⟩
   have hS1:=hS.frm hfr
   have hE1:=hE.frm hfr ha
   simp [e3,e9,hS1.g3]
   refine ba (fun hlt2=>?_) (fun hge2=>?_)
   ·simp (disch:=omega) [e0,e1,e4,e9,hS1.g4]
    refine (nk now (by omega) _ _ _ (hE1.push _)).mono ?_
    rintro x H2 ⟨v2,rfl,hs2,ho2⟩
    have hn2:=hs2.1
    simp only [GH.next_push] at hn2 ho2
    have hs12:Sub H1 H2:=(Sub.push (.refl H1) _).trans hs2
    have hg4:=(hs12.2 t4 hS1.n4).trans hS1.g4
    have hgx:=hs2.2 H1.next (by simp)
    rw [GH.get_push_same] at hgx
    have hlv:=ho2.len
    simp (disch:=omega) [e4,hg4,hgx,hlv]
    obtain ⟨v3,H3,happ,ho3,hn3,hf3,_⟩:=ho2.app (by simp) (by simp) (by decide) (n:Int) (by omega)
    simp only [ca] at happ
    have c8:8*(1+now.length)≤1000000:=by omega
    have c9:1+now.length≤1000000:=by omega
    have hs13:Sub H1 H3:=⟨by omega,fun g hg=>by rw [hf3 g (by omega) (fun hc=>by have:=ho2.blk_lt hc; omega)]; exact hs12.2 g hg⟩
    have hg4':=(hs13.2 t4 hS1.n4).trans hS1.g4
    simp (disch:=omega) [happ,c8,c9,e4,hg4',aj]
    obtain ⟨a3,fl3,rfl,hE3⟩:=ho3.elems (fun _=>rfl)
    have ha3:∀b,a3=some b→¬O1 b.block:=by
     rintro b rfl hc
     have h1:=hfr.lt _ hc
     by_cases hz:fl3=0
     ·rcases ho3 with ⟨h,_⟩|⟨g,ver,szs,pre,h0,_,_,h,_⟩
      ·simp at h
      ·simp at h; omega
     ·have:=ho3.blk_lt (g:=b.block) (by simp [hz])
      omega
    have hr:List.range' n (t.rows.length - n)=n::List.range' (n+1) (t.rows.length - (n+1)):=by
     rw [show t.rows.length - n=(t.rows.length - (n+1))+1 by omega,List.range'_succ]
    have hfr13:Frm O1 O1 H1 H3:=Frm.of_sub hfr.lt hs13
    have hrec:=ih (by omega) (now++ [(n:Int)]) (by simp; omega) (by
      intro x hx
      rcases List.mem_append.1 hx with h|h
      ·exact hbd x h
      ·simp at h; omega) k1 (((List.range' (n+1) (t.rows.length - (n+1))).flatMap fun (n:Nat)=>bf t.rows.length many (now++ [((n:Nat):Int)]))++rest)
     (by rw [hx1,hr,List.flatMap_cons,List.append_assoc]) H3 O1 a3 fl3 (hSt k1 H1 H3 O1 hI1 hfr.lt hs13.1 fun g hg _=>hs13.2 g hg) hfr13.lt (hS1.frm hfr13) (by have:=hfr.next; have:=hs13.1; omega) hE3 ha3
    simp only [List.length_append,List.length_cons,List.length_nil] at hrec ⊢
    refine hrec.mono ?_
    rintro x H4 ⟨O4,hf4,⟨rfl,h⟩|⟨rfl,h⟩⟩
    ·simp (disch:=omega) [e0,e1,e2,e3,e4,e9,aj]
     refine ⟨t.rows.length - (n+1),by omega,n+1,by omega,rfl,by omega,O4,(hfr.trans hfr13).trans hf4,_,h,?_,?_⟩
     ·rw [←List.drop_drop,hx1,hr,List.flatMap_cons,List.append_assoc,List.drop_left]
     ·rw [hr,List.flatMap_cons,List.length_append] at hc1; simp only [List.length_flatMap] at hc1 ⊢; omega
    ·simp
     exact ⟨O4,(hfr.trans hfr13).trans hf4,h⟩
   ·have hz:t.rows.length - n=0:=by omega
    rw [hz] at hc1 hx1
    simp at hc1
    simp
    exact ⟨O1,hfr,by rw [←hc1]; exact hI1⟩
  ·have hf:fp now=0:=by
    have:now= []:=by simpa using hge
    subst this; rfl
   simp (disch:=omega)
   refine pb tok mix (by kernel_rfl) (fun j ρ m H1=>∃n:Nat,n≤1000∧j=t.rows.length - n∧ρ 0=.slice a now.length fl∧ρ 1=vi (many+1)∧ρ 2=.pointer (some (ga t2 0 0))∧ρ 3=.pointer (some (ga t3 0 0))∧ρ 4=.pointer (some (ga t4 0 0))∧ρ 9=vi n∧m= []∧
    ∃O1 k1,Frm O O1 H H1∧Inv k1 H1 O1∧xs.drop k1=((List.range' n (t.rows.length - n)).flatMap fun (n:Nat)=>bf t.rows.length many (now++ [((n:Nat):Int)]))++rest∧
     k1+((List.range' n (t.rows.length - n)).flatMap fun (n:Nat)=>bf t.rows.length many (now++ [((n:Nat):Int)])).length=k+(bf t.rows.length (many+1) now).length)
    ⟨fp now,hf0,rfl,by simp,by simp,by simp,by simp,by simp,by simp [hf],rfl,O,k,Frm.refl hO,hI,by simpa [bf] using hx,by simp [bf]⟩ ?_
   rintro j ρ m H1 ⟨n,hn,rfl,e0,e1,e2,e3,e4,e9,rfl,O1,k1,hfr,hI1,hx1,hc1⟩
   have hS1:=hS.frm hfr
   have hE1:=hE.frm hfr ha
   simp [e3,e9,hS1.g3]
   refine ba (fun hlt2=>?_) (fun hge2=>?_)
   ·simp (disch:=omega) [e0,e1,e4,e9,hS1.g4]
    refine (nk now (by omega) _ _ _ (hE1.push _)).mono ?_
    rintro x H2 ⟨v2,rfl,hs2,ho2⟩
    have hn2:=hs2.1
    simp only [GH.next_push] at hn2 ho2
    have hs12:Sub H1 H2:=(Sub.push (.refl H1) _).trans hs2
    have hg4:=(hs12.2 t4 hS1.n4).trans hS1.g4
    have hgx:=hs2.2 H1.next (by simp)
    rw [GH.get_push_same] at hgx
    have hlv:=ho2.len
    simp (disch:=omega) [e4,hg4,hgx,hlv]
    obtain ⟨v3,H3,happ,ho3,hn3,hf3,_⟩:=ho2.app (by simp) (by simp) (by decide) (n:Int) (by omega)
    simp only [ca] at happ
    have c8:8*(1+now.length)≤1000000:=by omega
    have c9:1+now.length≤1000000:=by omega
    have hs13:Sub H1 H3:=⟨by omega,fun g hg=>by rw [hf3 g (by omega) (fun hc=>by have:=ho2.blk_lt hc; omega)]; exact hs12.2 g hg⟩
    have hg4':=(hs13.2 t4 hS1.n4).trans hS1.g4
    simp (disch:=omega) [happ,c8,c9,e4,hg4',aj]
    obtain ⟨a3,fl3,rfl,hE3⟩:=ho3.elems (fun _=>rfl)
    have ha3:∀b,a3=some b→¬O1 b.block:=by
     rintro b rfl hc
     have h1:=hfr.lt _ hc
     by_cases hz:fl3=0
     ·rcases ho3 with ⟨h,_⟩|⟨g,ver,szs,pre,h0,_,_,h,_⟩
      ·simp at h
      ·simp at h; omega
     ·have:=ho3.blk_lt (g:=b.block) (by simp [hz])
      omega
    have hr:List.range' n (t.rows.length - n)=n::List.range' (n+1) (t.rows.length - (n+1)):=by
     rw [show t.rows.length - n=(t.rows.length - (n+1))+1 by omega,List.range'_succ]
    have hfr13:Frm O1 O1 H1 H3:=Frm.of_sub hfr.lt hs13
    have hrec:=ih (by omega) (now++ [(n:Int)]) (by simp; omega) (by
      intro x hx
      rcases List.mem_append.1 hx with h|h
      ·exact hbd x h
      ·simp at h; omega) k1 (((List.range' (n+1) (t.rows.length - (n+1))).flatMap fun (n:Nat)=>bf t.rows.length many (now++ [((n:Nat):Int)]))++rest)
     (by rw [hx1,hr,List.flatMap_cons,List.append_assoc]) H3 O1 a3 fl3 (hSt k1 H1 H3 O1 hI1 hfr.lt hs13.1 fun g hg _=>hs13.2 g hg) hfr13.lt (hS1.frm hfr13) (by have:=hfr.next; have:=hs13.1; omega) hE3 ha3
    simp only [List.length_append,List.length_cons,List.length_nil] at hrec ⊢
    refine hrec.mono ?_
    rintro x H4 ⟨O4,hf4,⟨rfl,h⟩|⟨rfl,h⟩⟩
    ·simp (disch:=omega) [e0,e1,e2,e3,e4,e9,aj]
     refine ⟨t.rows.length - (n+1),by omega,n+1,by omega,rfl,by omega,O4,(hfr.trans hfr13).trans hf4,_,h,?_,?_⟩
     ·rw [←List.drop_drop,hx1,hr,List.flatMap_cons,List.append_assoc,List.drop_left]
     ·rw [hr,List.flatMap_cons,List.length_append] at hc1; simp only [List.length_flatMap] at hc1 ⊢; omega
    ·simp
     exact ⟨O4,(hfr.trans hfr13).trans hf4,h⟩
   ·have hz:t.rows.length - n=0:=by omega
    rw [hz] at hc1 hx1
    simp at hc1
    simp
    exact ⟨O1,hfr,by rw [←hc1]; exact hI1⟩
end Go.Gm.Tryz
end
section
namespace Go.Gm
noncomputable section
theorem amj {N l mk:Nat} {O:Nat→Prop} {H:GH} {_om:GObj} {_lo:GH→GObj} (hN:H.next≤N) (hl:l<N) (hmk:mk<N) {S:GH→(Nat→Prop)→Prop} (hS:am0 H.next S) {Hk H':GH} {OL O':Nat→Prop}
  (hOL:∀g,OL g↔O' g∨g=l) (hfr:Frm O O' H Hk) (hJ:S Hk O') (hll:l<Hk.next) (hml:mk<Hk.next) (hn:Hk.next≤H'.next) (hsame:∀g,g<Hk.next→(OL g∨g<N)→H'.get g=Hk.get g):
  Frm O O' H H'∧S H' O'∧H'.get l=Hk.get l∧H'.get mk=Hk.get mk∧l<H'.next∧mk<H'.next:=
 ⟨⟨Nat.le_trans hfr.next hn,fun g hg ho=>by rw [hsame g (Nat.lt_of_lt_of_le hg hfr.next) (.inr (by omega))]; exact hfr.keep g hg ho,hfr.own,fun g hg=>Nat.lt_of_lt_of_le (hfr.lt g hg) hn⟩,
  hS Hk H' O' hJ hfr.lt hn fun g hg hor=>hsame g hg (hor.imp (fun h=>(hOL g).2 (.inl h)) (fun h=>by omega)),
  hsame l hll (.inr hl),hsame mk hml (.inr hmk),by omega,by omega⟩
theorem amk {N l mk:Nat} {O:Nat→Prop} {H:GH} (hN:H.next≤N) (hl:l<N) (hmk:mk<N) {S:GH→(Nat→Prop)→Prop} (hS:abj H.next S) {Hk H':GH} {OL O':Nat→Prop}
  (hOL:∀g,OL g↔O' g∨g=l) (hfr:Frm O O' H Hk) (hJ:S Hk O') (hll:l<Hk.next) (hml:mk<Hk.next) (hn:Hk.next≤H'.next) (hsame:∀g,g<Hk.next→(OL g∨g<N∨∃A,Hk.get g=some (.arr A))→H'.get g=Hk.get g):
  Frm O O' H H'∧S H' O'∧H'.get l=Hk.get l∧H'.get mk=Hk.get mk∧l<H'.next∧mk<H'.next:=
 ⟨⟨Nat.le_trans hfr.next hn,fun g hg ho=>by rw [hsame g (Nat.lt_of_lt_of_le hg hfr.next) (.inr (.inl (by omega)))]; exact hfr.keep g hg ho,hfr.own,fun g hg=>Nat.lt_of_lt_of_le (hfr.lt g hg) hn⟩,
  hS Hk H' O' hJ hfr.lt hn fun g hg hor=>hsame g hg (hor.imp (fun h=>(hOL g).2 (.inl h)) (fun h=>h.imp (fun h=>by omega) id)),
  hsame l hll (.inr (.inl hl)),hsame mk hml (.inr (.inl hmk)),by omega,by omega⟩
theorem w9 {X:Cx} (hT:TabOk X.P X.T) (hmix:X.P.follows .mixedOrders=true) (hro:X.ro=none) {g:Operand} {p:Tmp} {avs bd:Code} {Q:VQ} {ρ:Rho} {m:List Nat} {H:GH} (hx:xOk g=true) {gf:FuncId} {first captured:Array Value} (hg:rv X.n ρ g=.func (.func gf) first captured) (f:FuncId)
  (hb1:cg X.T X.plans avs=true) (hb2:cg X.T X.plans bd=true) {α:Type} {xs:List α} {argR:GH→Value→α→Prop} (hargR:∀H v x l o o',argR H v x→H.get l=some o→o.isArr=false→argR (H.put l o') v x) {Priv:Nat→Prop} (hit:a1o X.P gf first captured H xs argR Priv)
  (J:Nat→GH→(Nat→Prop)→Prop) (S:GX→GH→(Nat→Prop)→Prop) (hJs:ab4 H.next J) (hSs:∀x,abj H.next (S x)) (O:Nat→Prop) (hO:∀g,O g→g<H.next) (hOP:∀g,O g→¬Priv g) (hP:∀g,Priv g→g<H.next) (hJ0:J 0 H O)
  (q:Nat) (has:∀l Hk v,wpC ⟨X.P,X.T,X.plans,X.n,some l⟩ avs (fun x ρ1 m1 H1=>x=.normal∧m1= []∧H1=Hk∧ρ1=upd (upd ρ p v) q v) (upd ρ p v) [] Hk)
  (body:∀k (hk:k<xs.length) Hk Ok v l d gt,J k Hk Ok→Frm O Ok H Hk→argR Hk v xs[k]→(∀b,kf v=some b→¬Ok b)→H.next≤l→l<Hk.next→¬Ok l→Hk.get l=some (dp f #[p] avs bd d .busy none gt)→wpC ⟨X.P,X.T,X.plans,X.n,some l⟩ bd (ah5 Hk Ok (J (k+1)) S) (upd (upd ρ p v) q v) [] Hk)
  (hn:∀H' O' mk,Frm O O' H H'→H.next≤mk→mk<H'.next→¬O' mk→H'.get mk=some (.marks true)→J xs.length H' O'→Q .normal ρ (mk::m) H')
  (hs:∀x H' O' mk,Frm O O' H H'→H.next≤mk→mk<H'.next→¬O' mk→H'.get mk=some (.marks true)→S x H' O'→(x=.ret∨∃i,x=.exit i)→Q x ρ (mk::m) H'):wpC X (.rangeFunc g #[p] avs bd) Q ρ m H:=by
 refine aax hro hx hg f fun gt hgt=>?_
 have hHn:((H.push (.marks true)).push (dp f #[p] avs bd H.next .ready none gt)).next=H.next+2:=by simp
 have hsub:Sub H ((H.push (.marks true)).push (dp f #[p] avs bd H.next .ready none gt)):=((Sub.refl H).push _).push _
 have hgl:((H.push (.marks true)).push (dp f #[p] avs bd H.next .ready none gt)).get (H.next+1)=some (dp f #[p] avs bd H.next .ready none gt):=by simp
 have hgm:((H.push (.marks true)).push (dp f #[p] avs bd H.next .ready none gt)).get H.next=some (.marks true):=by simp
 generalize (H.push (.marks true)).push (dp f #[p] avs bd H.next .ready none gt)=Hc at hHn hsub hgl hgm ⊢
 have hOl:¬O (H.next+1):=fun hc=>by have:=hO _ hc; omega
 have hOm:¬O H.next:=fun hc=>by have:=hO _ hc; omega
 have hY:=alg hT hmix (plans:=X.plans) (n:=X.n) (l:=H.next+1) (mk:=H.next) (d:=H.next) (f:=f) (gt:=gt) hgt hb1 hb2 (fun H v x o o' a b c=>hargR H v x _ o o' a b c) (xs:=xs) (J:=J) (S:=S) (O:=O) (H:=H) hJs hSs (by omega) (by omega) (by omega) (om:=.marks true) (fun v=>upd (upd ρ p v) q v) (has (H.next+1))
  (fun k hk Hk Ok v h1 h2 h3 h3' h4 h5 h6=>body k hk Hk Ok v (H.next+1) H.next gt h1 h2 h3 h3' (by omega) h4 h5 h6)
 have hfr0:Frm O O H Hc:=Frm.of_sub hO hsub
 refine (hit (H.next+1) Hc _ _ (fun g=>O g∨g=H.next+1) hsub hY ?_ ?_ ?_ ?_ ?_).mono ?_
 ·rintro k Hk H' OL ⟨O',h1,h2,h3,h4,h5,h6,h7,h8,h9⟩ _ hn hsame
  obtain ⟨b1,b2,b3,b4,b5,b6⟩:=amj (_om:=.marks true) (_lo:=fun _=>.marks true) (l:=H.next+1) (mk:=H.next) hsub.1 (by omega) (by omega) (hJs k) h1 h4 h5 h8 h9 hn hsame
  exact ⟨O',h1,h2,h3,b1,b2,by rw [b3]; exact h6,by rw [b4]; exact h7,b5,b6⟩
 ·rintro Hk H' OL ⟨O',x,h1,h2,h3,h4,h5,h5',h6,h7,h8,h9⟩ _ hn hsame
  obtain ⟨b1,b2,b3,b4,b5,b6⟩:=amk (l:=H.next+1) (mk:=H.next) hsub.1 (by omega) (by omega) (hSs x) h1 h4 h5 h8 h9 hn hsame
  exact ⟨O',x,h1,h2,h3,b1,b2,h5',by rw [b3]; exact h6,by rw [b4]; exact h7,b5,b6⟩
 ·exact ⟨O,fun g=>Iff.rfl,hOl,hOm,hfr0,hJs 0 H Hc O hJ0 hO hsub.1 fun g hg _=>hsub.2 g hg,hgl,hgm,by omega,by omega⟩
 ·rintro g (h|h)
  ·exact Nat.lt_of_lt_of_le (hO g h) hsub.1
  ·omega
 ·rintro g (h|h)
  ·exact hOP g h
  ·intro hp; have:=hP g hp; omega
 rintro x H2 ⟨OL,v,rfl,hfL,h|h⟩
 ·obtain ⟨O',h1,h2,h3,h4,h5,h6,h7,h8,h9⟩:=h
  refine ⟨v,.ready,none,gt,rfl,h6,by simp,?_⟩
  have hne:H.next≠H.next+1:=by omega
  refine hn _ O' H.next ⟨h4.next,fun g hg ho=>by rw [GH.get_put_ne _ _ (by omega)]; exact h4.keep g hg ho,h4.own,h4.lt⟩ (Nat.le_refl _) h9 h3 (by rw [GH.get_put_ne _ _ hne]; exact h7) (hJs _ _ _ _ h5 h4.lt (Nat.le_refl _) fun g hg hor=>GH.get_put_ne _ _ fun hc=>?_)
  subst hc
  rcases hor with h|h
  ·exact h2 h
  ·omega
 ·obtain ⟨O',x,h1,h2,h3,h4,h5,h5',h6,h7,h8,h9⟩:=h
  refine ⟨v,.done,akq x,gt,rfl,h6,by simp,?_⟩
  have hne:H.next≠H.next+1:=by omega
  have hq:=hs x (H2.put (H.next+1) (dp f #[p] avs bd H.next .exhausted (akq x) gt)) O' H.next ⟨h4.next,fun g hg ho=>by rw [GH.get_put_ne _ _ (by omega)]; exact h4.keep g hg ho,h4.own,h4.lt⟩ (Nat.le_refl _) h9 h3 (by rw [GH.get_put_ne _ _ hne]; exact h7) (hSs _ _ _ _ h5 h4.lt (Nat.le_refl _) fun g hg hor=>GH.get_put_ne _ _ fun hc=>by
   subst hc
   rcases hor with h|h|⟨A,h⟩
   ·exact h2 h
   ·omega
   ·rw [h6] at h; cases h) h5'
  rcases h5' with rfl|⟨i,rfl⟩
  ·exact hq
  ·exact hq
end
end Go.Gm
end
section
namespace Go.Gm.Tryz
open Go.Proofs
theorem ahi {m:Nat}:∀ {many:Nat} {now s:List Int},s∈bf m many now→∃ext,s=now++ext∧ext.length=many∧∀x∈ext,0≤x∧x<m:=by
 intro many
 induction many with
 |zero=>intro now s h; simp [bf] at h; exact ⟨[],by simp [h],rfl,by simp⟩
 |succ many ih=>
  intro now s h
  simp only [bf,List.mem_flatMap] at h
  obtain ⟨n,hn,h⟩:=h
  obtain ⟨ext,rfl,h1,h2⟩:=ih h
  have hn':=List.mem_range'_1.1 hn
  refine ⟨(n:Int)::ext,by simp,by simp [h1],fun x hx=>?_⟩
  rcases List.mem_cons.1 hx with rfl|hx
  ·omega
  ·exact h2 x hx
theorem og {m:Nat} {s:List Int} (h:s∈bp m):s.length≤6∧∀x∈s,0≤x∧x<m:=by
 simp only [bp,List.mem_flatMap,List.mem_range] at h
 obtain ⟨k,hk,h⟩:=h
 obtain ⟨ext,rfl,h1,h2⟩:=ahi h
 exact ⟨by omega,h2⟩
def pre (m i:Nat):Nat:=((List.range i).flatMap fun k=>bf m k []).length
theorem au1 (m i:Nat):pre m (i+1)=pre m i+(bf m i []).length:=by
 unfold pre
 rw [List.range_succ,List.flatMap_append,List.length_append]; simp
theorem ahj (t:Tbl) (hrows:t.rows.length≤12) {l g1 N:Nat} {ra:Option Addr} {rf:Nat} {Inv:Nat→GH→(Nat→Prop)→Prop} {Stop:GH→(Nat→Prop)→Prop}
  (hY:od Tryz.prog l (bp t.rows.length) ajx Inv Stop) (hSt:ab4 N Inv) (H:GH) (O:Nat→Prop) (hI:Inv 0 H O) (hO:∀g,O g→g<H.next) (hN:N≤H.next)
  (hg1:H.get g1=some (.arr { cells:= [.slice ra t.rows.length rf,vi t.draw],ty:=24 })) (hn1:g1<H.next) (ho1:¬O g1):
  ay Tryz.prog 191 [.func (.yield l) #[] #[],.pointer (some (ga g1 0 0))] H fun x H'=>∃O',x=.ret (.tuple #[])∧Frm O O' H H'∧(Inv (bp t.rows.length).length H' O'∨Stop H' O'):=by
 refine an tok mix as3 (F:=a45) (c:=_) rfl (n:=14) rfl (rs:= []) rfl ?_
 simp
 generalize hH1:GH.put _ _ _=H1
 have hs1:Sub H H1:=by subst hH1; simp (maxDischargeDepth:=9)
 have hS1:SearchH t l H.next g1 (H.next+1) ra rf H1 O:=by
  subst hH1
  refine ⟨by simp,?_,by simp,by simp<;>omega,by simp<;>omega,by simp,fun hc=>?_,ho1,fun hc=>?_⟩
  ·rw [GH.get_put_ne _ _ (by omega),GH.get_push_lt _ _ (by simp; omega),GH.get_push_lt _ _ hn1]; exact hg1
  ·have:=hO _ hc; omega
  ·have:=hO _ hc; omega
 have hI1:Inv 0 H1 O:=hSt 0 H H1 O hI hO hs1.1 fun g hg _=>hs1.2 g hg
 have hO1:∀g,O g→g<H1.next:=fun g hg=>Nat.lt_of_lt_of_le (hO g hg) hs1.1
 clear hH1
 refine cv tok mix (by kernel_rfl) 7 (fun i ρ m H2=>ρ 3=.pointer (some (ga (H.next+1) 0 0))∧ρ 6=vi i∧m= []∧∃O2,Frm O O2 H1 H2∧Inv (pre t.rows.length i) H2 O2) (i0:=0) (by omega) ⟨by simp,by simp,rfl,O,Frm.refl hO1,hI1⟩ ?_
 rintro i ρ m H2 hi ⟨e3,e6,rfl,O2,hf2,hI2⟩
 have hS2:=hS1.frm hf2
 simp [e6]
 refine ba (fun hlt=>?_) (fun hge=>?_)
 ·simp (disch:=omega) [e3,e6,hS2.g4]
  have hd:(bp t.rows.length).drop (pre t.rows.length i)=bf t.rows.length i []++((List.range' (i+1) (7 - (i+1))).flatMap fun k=>bf t.rows.length k []):=by
   have e:List.range 7=List.range i++(i::List.range' (i+1) (7 - (i+1))):=by
    rw [←List.range'_succ,List.range_eq_range',List.range_eq_range',show 7 - (i+1)+1=7 - i by omega]
    have:=List.range'_append_1 (s:=0) (m:=i) (n:=7 - i)
    rw [Nat.zero_add] at this
    rw [this]; congr 1; omega
   unfold bp pre
   rw [e,List.flatMap_append,List.flatMap_cons,List.drop_left]
  have:=amd t hrows hY hSt i (by omega) [] (by simp; omega) (by simp) _ _ hd H2 O2 none 0 hI2 hf2.lt hS2 (by have:=hf2.next; have:=hs1.1; omega) ⟨fun _=>rfl,fun b hb=>(by cases hb),fun _=>rfl⟩ (fun b hb=>(by cases hb))
  refine this.mono ?_
  rintro x H3 ⟨O3,hf3,⟨rfl,h⟩|⟨rfl,h⟩⟩
  ·simp (disch:=omega) [e3,e6,aj]
   refine ⟨by omega,O3,hf2.trans hf3,?_⟩
   rw [au1]; exact h
  ·simp
   exact ⟨O3,Frm.sub hs1 (hf2.trans hf3),.inr h⟩
 ·have:i=7:=by omega
  subst this
  simp
  exact ⟨O2,Frm.sub hs1 hf2,.inl hI2⟩
def dd (t:Tbl) (s:Int) (u:Int):List (List Int):=(bp t.rows.length).filter fun x=>decide (cp t s x=u)
def jm (t:Tbl) (s u:Int) (k:Nat):Nat:=(((bp t.rows.length).take k).filter fun x=>decide (cp t s x=u)).length
theorem yf (t:Tbl) (s u:Int) {k:Nat} (hk:k<(bp t.rows.length).length):jm t s u (k+1)=jm t s u k+(if cp t s (bp t.rows.length)[k]=u then 1 else 0):=by
 unfold jm
 rw [List.take_succ_eq_append_getElem hk,List.filter_append,List.length_append]
 by_cases h:cp t s (bp t.rows.length)[k]=u<;>simp [h]
theorem ai7 (t:Tbl) (s u:Int):jm t s u (bp t.rows.length).length=(dd t s u).length:=by
 unfold jm dd; rw [List.take_length]
theorem alp (t:Tbl) (s u:Int) {k:Nat} (hk:k<(bp t.rows.length).length) (h:cp t s (bp t.rows.length)[k]=u):∃h:jm t s u k<(dd t s u).length,(dd t s u)[jm t s u k]=(bp t.rows.length)[k]:=by
 have e:dd t s u=(((bp t.rows.length).take k).filter fun x=>decide (cp t s x=u))++(bp t.rows.length)[k]::((bp t.rows.length).drop (k+1)).filter fun x=>decide (cp t s x=u):=by
  unfold dd
  conv=>lhs; rw [←List.take_append_drop k (bp t.rows.length),List.filter_append,List.drop_eq_getElem_cons hk,List.filter_cons]
  simp [h]
 have hl:jm t s u k<(dd t s u).length:=by rw [e]; simp [jm]
 refine ⟨hl,?_⟩
 have:(dd t s u)[jm t s u k]?=some (bp t.rows.length)[k]:=by
  rw [e,List.getElem?_append_right (by simp [jm])]
  simp [jm]
 rw [List.getElem?_eq_getElem hl] at this
 exact Option.some.inj this
theorem avp (l:TLoc) (t:Tbl) (H:GH):C 151 [qx l t] H (.func (.func 191) #[] #[.pointer (some (ga H.next 0 0))]) (H.push (.arr { cells:= [.slice l.rows.a t.rows.length l.rows.fl,vi t.draw],ty:=24 })):=by
 refine an tok mix ar8 (F:=a4k) (c:=_) rfl (n:=4) rfl (rs:= [.tmp 2]) rfl ?_
 simp
theorem adm {H:GH} {v:Value} {x:List Int} {l:Nat} {o o':GObj} (h:ajx H v x) (hl:H.get l=some o) (ho:o.isArr=false):ajx (H.put l o') v x:=by
 obtain ⟨a,fl,rfl,h⟩:=h
 exact ⟨a,fl,rfl,h.put_loop hl ho o'⟩
theorem ap3 (t:Tbl) (hrows:t.rows.length≤12) {g1:Nat} {ra:Option Addr} {rf:Nat} {H:GH} (hg1:H.get g1=some (.arr { cells:= [.slice ra t.rows.length rf,vi t.draw],ty:=24 })) (hn1:g1<H.next):
  a1o Tryz.prog 191 #[] #[.pointer (some (ga g1 0 0))] H (bp t.rows.length) ajx (fun g=>g=g1):=by
 intro l Hc Inv Stop O hs hY hSt hSt2 hI hO hP
 refine (ahj t hrows (N:=Hc.next) hY hSt Hc O hI hO (Nat.le_refl _) (by rw [hs.2 _ hn1]; exact hg1) (Nat.lt_of_lt_of_le hn1 hs.1) (fun hc=>hP _ hc rfl)).mono ?_
 rintro x H' ⟨O',rfl,h1,h2⟩
 exact ⟨O',_,rfl,h1,h2⟩
theorem ab6 (t:Tbl) (ht:ce t=true) (sys u:Int) (hsys:bj sys=true) {g1 g2 g3:Nat} {ra:Option Addr} {rf:Nat} {H:GH}
  (hg1:H.get g1=some (.arr { cells:= [.slice ra t.rows.length rf,vi t.draw],ty:=24 })) (hn1:g1<H.next)
  (hg2:H.get g2=some (.arr { cells:= [vi sys],ty:=51 })) (hn2:g2<H.next)
  (hg3:H.get g3=some (.arr { cells:= [vi u],ty:=3 })) (hn3:g3<H.next) (hT:gc H ⟨⟨ra,rf⟩⟩ t):
  a1o Tryz.prog 150 #[] #[.pointer (some (ga g1 0 0)),.pointer (some (ga g2 0 0)),.pointer (some (ga g3 0 0))] H (dd t sys u) ajx (fun g=>g=g1∨g=g2∨g=g3∨∃b,ra=some b∧g=b.block):=by
 intro l Hc Inv Stop O hs hY hSt hSt2 hI hO hP
 have hrows:=kd ht
 have hg1:=(hs.2 _ hn1).trans hg1
 have hg2:=(hs.2 _ hn2).trans hg2
 have hg3:=(hs.2 _ hn3).trans hg3
 have hn1:=Nat.lt_of_lt_of_le hn1 hs.1
 have hn2:=Nat.lt_of_lt_of_le hn2 hs.1
 have hn3:=Nat.lt_of_lt_of_le hn3 hs.1
 have ho1:¬O g1:=fun hc=>hP _ hc (.inl rfl)
 have ho2:¬O g2:=fun hc=>hP _ hc (.inr (.inl rfl))
 have ho3:¬O g3:=fun hc=>hP _ hc (.inr (.inr (.inl rfl)))
 have hT:gc Hc ⟨⟨ra,rf⟩⟩ t:=hT.mono hs
 have hoT:∀b,ra=some b→¬O b.block:=fun b hb hc=>hP _ hc (.inr (.inr (.inr ⟨b,hb,rfl⟩)))
 refine an tok mix ar7 (F:=axj) (c:=_) rfl (n:=21) rfl (rs:= []) rfl ?_
 simp (disch:=omega) [hg1]
 with_reducible refine (avp ⟨⟨_,_⟩⟩ t _).go ?_
 simp
 generalize hHb:GH.push _ _=Hb
 have hsb:Sub Hc Hb:=by subst hHb; simp (maxDischargeDepth:=9)
 have hgb:Hb.get Hc.next=some (.arr { cells:= [.func (.yield l) #[] #[]],ty:=189 }):=by subst hHb; simp
 have hgt2:Hb.get (Hc.next+1)=some (.arr { cells:= [.slice ra t.rows.length rf,vi t.draw],ty:=24 }):=by subst hHb; simp
 have hnb:Hb.next=Hc.next+2:=by subst hHb; simp
 clear hHb
 have hOb:∀g,O g→g<Hb.next:=fun g hg=>Nat.lt_of_lt_of_le (hO g hg) hsb.1
 have hfrb:Frm O O Hc Hb:=Frm.of_sub hO hsb
 refine w9 tok mix rfl rfl (gf:=191) (first:= #[]) (captured:= #[.pointer (some (ga (Hc.next+1) 0 0))]) (by simp) 150 (by kernel_rfl) (by kernel_rfl) (fun H v x l o o' a b c=>adm a b c) (ap3 t hrows.1 hgt2 (by omega))
  (fun k Hk O'=>Inv (jm t sys u k) Hk O') (fun x Hk O'=>x=.ret∧Stop Hk O')
  (fun k H1 H2 O' h1 h2 h3 h4=>hSt _ H1 H2 O' h1 h2 h3 fun g hg hor=>h4 g hg (hor.imp id fun h=>by omega))
  (fun x H1 H2 O' h1 h2 h3 h4=>⟨h1.1,hSt2 H1 H2 O' h1.2 h2 h3 fun g hg hor=>h4 g hg (hor.imp id fun h=>h.imp (fun h=>by omega) id)⟩)
  O hOb (fun g hg hc=>by subst hc; have:=hO _ hg; omega) (fun g hg=>by subst hg; omega) (hSt _ Hc Hb O hI hO hsb.1 fun g hg _=>hsb.2 g hg)
  5 (fun l Hk v=>by simp) ?_ ?_ ?_
 ·intro k hk Hk Ok v l1 d gt hJ hfr hv hvb hl1 hl2 hol hgl
  have hfrc:=hfrb.trans hfr
  obtain ⟨a,fl,rfl,hE⟩:=hv
  have e1:=(hfrc.keep g1 hn1 ho1).trans hg1
  have e2:=(hfrc.keep g2 hn2 ho2).trans hg2
  have e3:=(hfrc.keep g3 hn3 ho3).trans hg3
  have e4:Hk.get Hc.next=some (.arr { cells:= [.func (.yield l) #[] #[]],ty:=189 }):=(hfr.keep Hc.next (by omega) (fun hc=>by have:=hO _ hc; omega)).trans hgb
  have hTk:gc Hk ⟨⟨ra,rf⟩⟩ t:=Elems.frm hT hfrc hoT
  have hmem:xd t ((bp t.rows.length)[k]):=og (List.getElem_mem hk)
  simp [e1,e2,e3]
  with_reducible refine (acg ⟨⟨_,_⟩⟩ t ht sys hsys ((bp t.rows.length)[k]) hmem a fl Hk hTk hE).go ?_
  simp [e3]
  refine bi (fun h=>?_) (fun h=>?_)<;>(try simp only [decide_eq_true_eq,decide_eq_false_iff_not] at h)
  ·simp [e4,h]
   obtain ⟨hm1,hm2⟩:=alp t sys u hk h
   refine (hY _ hm1 Hk Ok _ hJ ⟨a,fl,by rw [hm2],by rw [hm2]; exact hE⟩ hvb).mono ?_
   rintro x H2 ⟨O2,hf2,⟨rfl,h2⟩|⟨rfl,h2⟩⟩
   ·simp
    exact ⟨O2,hf2,by rw [yf t sys u hk,if_pos h]; exact h2⟩
   ·simp
    exact ⟨O2,hf2,h2⟩
  ·simp [h]
   exact ⟨Ok,Frm.refl hfr.lt,by rw [yf t sys u hk,if_neg h]; exact hJ⟩
 ·intro H' O' mk hf hmk1 hmk2 hom hgm hJ
  simp [hgm]
  have hsame:∀o g,g<H'.next→(O' g∨g<Hc.next)→(H'.put mk o).get g=H'.get g:=fun o g hg hor=>GH.get_put_ne _ _ fun hc=>by
   subst hc
   exact hor.elim hom (by omega)
  exact ⟨O',(hfrb.trans hf).put_new (by omega) _,.inl (by rw [←ai7]; exact hSt _ H' _ O' hJ hf.lt (Nat.le_refl _) (hsame _))⟩
 ·rintro x H' O' mk hf hmk1 hmk2 hom hgm ⟨rfl,hS⟩ _
  simp [hgm]
  have hsame:∀o g,g<H'.next→(O' g∨g<Hc.next∨∃A,H'.get g=some (.arr A))→(H'.put mk o).get g=H'.get g:=fun o g hg hor=>GH.get_put_ne _ _ fun hc=>by
   subst hc
   rcases hor with h|h|⟨A,h⟩
   ·exact hom h
   ·omega
   ·rw [hgm] at h; cases h
  exact ⟨O',(hfrb.trans hf).put_new (by omega) _,.inr (hSt2 H' _ O' hS hf.lt (Nat.le_refl _) (hsame _))⟩
end Go.Gm.Tryz
end
section
namespace Go.Gm.Tryz
open Go.Proofs
theorem aep (l:TLoc) (t:Tbl) (sys u:Int) (H:GH):C 96 [qx l t,vi sys,vi u] H (.func (.func 150) #[] #[.pointer (some (ga H.next 0 0)),.pointer (some (ga (H.next+1) 0 0)),.pointer (some (ga (H.next+2) 0 0))])
  (((H.push (.arr { cells:= [.slice l.rows.a t.rows.length l.rows.fl,vi t.draw],ty:=24 })).push (.arr { cells:= [vi sys],ty:=51 })).push (.arr { cells:= [vi u],ty:=3 })):=by
 refine an tok mix a0x (F:=g96) (c:=_) rfl (n:=8) rfl (rs:= [.tmp 6]) rfl ?_
 simp
def ju (t:Tbl) (sys u:Int):Option (List Int):=(dd t sys u).head?
def gi (t:Tbl) (sys u:Int):Bool:=ce t&&bj sys&&gz u
theorem awo (l:TLoc) (t:Tbl) (sys u:Int) (H:GH) (hT:gc H l t):ay Tryz.prog 45 [qx l t,vi sys,vi u] H fun x H'=>Sub H H'∧
  ∃v e,x=.ret (.tuple #[v,vi e])∧(if gi t sys u then (match ju t sys u with|some s=>e=0∧ajx H' v s|none=>e=5∧v=.slice none 0 0) else e=2∧v=.slice none 0 0):=by
 rcases l with ⟨⟨ra,rf⟩⟩
 refine an tok mix azy (F:=g45) (c:=_) rfl (n:=28) rfl (rs:= [.cell 6 25,.cell 7 31]) rfl ?_
 simp
 generalize hHb:GH.push (GH.push (GH.push H _) _) _=Hb
 have hsb:Sub H Hb:=by subst hHb; simp (maxDischargeDepth:=9)
 have hgb:Hb.get H.next=some (.arr { cells:= [.slice ra t.rows.length rf,vi t.draw],ty:=24 }):=by subst hHb; simp (disch:=omega)
 have hg6:Hb.get (H.next+1)=some (.arr { cells:= [.slice none 0 0],ty:=25 }):=by subst hHb; simp (disch:=omega)
 have hg7:Hb.get (H.next+2)=some (.arr { cells:= [vi 0],ty:=31 }):=by subst hHb; simp (disch:=omega)
 have hnb:Hb.next=H.next+3:=by subst hHb; simp (disch:=omega)
 clear hHb
 with_reducible refine (ov ⟨⟨_,_⟩⟩ t _ (hT.mono hsb)).go ?_
 simp
 cases htb:ce t
 ·simp [hg6,hg7,gi,htb,hsb]
  exact ⟨_,_,⟨rfl,rfl⟩,rfl,rfl⟩
 simp
 with_reducible refine (ux _ _).go ?_
 simp
 cases hsys:bj sys
 ·simp [hg6,hg7,gi,htb,hsys,hsb]
  exact ⟨_,_,⟨rfl,rfl⟩,rfl,rfl⟩
 simp
 with_reducible refine (yg _ _).go ?_
 simp
 cases hun:gz u
 ·simp [hg6,hg7,gi,htb,hsys,hun,hsb]
  exact ⟨_,_,⟨rfl,rfl⟩,rfl,rfl⟩
 simp [hgb]
 with_reducible refine (aep ⟨⟨_,_⟩⟩ t _ _ _).go ?_
 simp only [pu,nh,ki,pw]
 generalize hHd:GH.push (GH.push (GH.push Hb _) _) _=Hd
 have hsd:Sub Hb Hd:=by subst hHd; simp (maxDischargeDepth:=9)
 have hd1:Hd.get Hb.next=some (.arr { cells:= [.slice ra t.rows.length rf,vi t.draw],ty:=24 }):=by subst hHd; simp (disch:=omega)
 have hd2:Hd.get (Hb.next+1)=some (.arr { cells:= [vi sys],ty:=51 }):=by subst hHd; simp (disch:=omega)
 have hd3:Hd.get (Hb.next+2)=some (.arr { cells:= [vi u],ty:=3 }):=by subst hHd; simp (disch:=omega)
 have hnd:Hd.next=Hb.next+3:=by subst hHd; simp
 clear hHd
 have hg6:=(hsd.2 _ (by omega)).trans hg6
 have hg7:=(hsd.2 _ (by omega)).trans hg7
 have hTd:gc Hd ⟨⟨ra,rf⟩⟩ t:=hT.mono (hsb.trans hsd)
 have hra:∀b,ra=some b→b.block<H.next:=fun b hb=>(Elems.ok hT b hb).1
 refine w9 tok mix rfl rfl (gf:=150) (first:= #[]) (captured:= #[.pointer (some (ga Hb.next 0 0)),.pointer (some (ga (Hb.next+1) 0 0)),.pointer (some (ga (Hb.next+2) 0 0))]) (by simp) 45 (by kernel_rfl) (by kernel_rfl) (fun H v x l o o' a b c=>adm a b c)
  (ab6 t htb sys u hsys hd1 (by omega) hd2 (by omega) hd3 (by omega) hTd)
  (fun k Hk Ok=>k=0∧(∀g,Ok g↔g=H.next+1∨g=H.next+2)∧Hk.get (H.next+1)=some (.arr { cells:= [.slice none 0 0],ty:=25 })∧Hk.get (H.next+2)=some (.arr { cells:= [vi 0],ty:=31 }))
  (fun x Hk Ok=>x=.ret∧(∀g,Ok g↔g=H.next+1∨g=H.next+2)∧∃v s,ju t sys u=some s∧Hk.get (H.next+1)=some (.arr { cells:= [v],ty:=25 })∧Hk.get (H.next+2)=some (.arr { cells:= [vi 0],ty:=31 })∧ajx Hk v s)
  ?_ ?_ (fun g=>g=H.next+1∨g=H.next+2) ?_ ?_ ?_ ⟨rfl,fun g=>Iff.rfl,hg6,hg7⟩ 8 ?_ ?_ ?_ ?_
 ·rintro k H1 H2 Ok ⟨h1,h2,h3,h4⟩ h5 h6 h7
  have hlt:∀g,Ok g→H2.get g=H1.get g:=fun g hg=>h7 g (h5 g hg) (.inl hg)
  exact ⟨h1,h2,(hlt _ ((h2 _).2 (.inl rfl))).trans h3,(hlt _ ((h2 _).2 (.inr rfl))).trans h4⟩
 ·rintro x H1 H2 Ok ⟨h1,h2,v,s,h3,h4,h4',h4''⟩ h5 h6 h7
  have hlt:∀g,Ok g→H2.get g=H1.get g:=fun g hg=>h7 g (h5 g hg) (.inl hg)
  obtain ⟨a,fl,rfl,hE⟩:=h4''
  exact ⟨h1,h2,_,s,h3,(hlt _ ((h2 _).2 (.inl rfl))).trans h4,(hlt _ ((h2 _).2 (.inr rfl))).trans h4',a,fl,rfl,hE.same h6 fun g A hg hA=>h7 g hg (.inr (.inr ⟨A,hA⟩))⟩
 ·rintro g (rfl|rfl)<;>omega
 ·rintro g (rfl|rfl) (h|h|h|⟨b,hb,h⟩)
  all_goals first|omega|(have:=hra b hb; omega)
 ·rintro g (h|h|h|⟨b,hb,h⟩)
  all_goals first|omega|(have:=hra b hb; omega)
 ·intro l Hk v; simp
 ·rintro k hk Hk Ok v l d gt ⟨rfl,h2,h3,h4⟩ hfr hv hvb hl1 hl2 hol hgl
  have hfst:ju t sys u=some (dd t sys u)[0]:=by
   unfold ju
   rw [List.head?_eq_getElem?,List.getElem?_eq_getElem hk]
  obtain ⟨a,fl,rfl,hE⟩:=hv
  have h6:Hd.next≤Hk.next:=hfr.next
  simp [h3,h4]
  refine ⟨Ok,(Frm.put hfr.lt ((h2 _).2 (.inl rfl)) _).trans (Frm.put (H:=Hk.put (H.next+1) _) hfr.lt ((h2 _).2 (.inr rfl)) _),h2,_,_,hfst,by simp (disch:=omega),a,fl,rfl,?_⟩
  refine (hE.put _ fun b hb hc=>?_).put _ fun b hb hc=>?_
  ·exact hvb b.block (by simp [hb]) ((h2 _).2 (.inl hc))
  ·exact hvb b.block (by simp [hb]) ((h2 _).2 (.inr hc))
 ·rintro H' O' mk hf hmk1 hmk2 hom hgm ⟨h1,h2,h3,h4⟩
  have hmk:H.next+6≤mk:=by omega
  have hfst:ju t sys u=none:=by
   unfold ju
   rw [List.length_eq_zero_iff.1 h1]; rfl
  have hsub:Sub H H':=⟨by have:=hf.next; omega,fun g hg=>(hf.keep g (by omega) (by rintro (h|h)<;>omega)).trans ((hsb.trans hsd).2 g hg)⟩
  simp (disch:=omega) [hgm,h3,h4]
  have hsub3:∀o1 o2 o3,Sub H (((H'.put (H.next+1) o1).put (H.next+2) o2).put mk o3):=fun o1 o2 o3=>Sub.put (Sub.put (Sub.put hsub (by omega) o1) (by omega) o2) (by omega) o3
  refine ⟨hsub3 _ _ _,_,_,⟨rfl,rfl⟩,?_⟩
  simp [gi,htb,hsys,hun,hfst]
 ·rintro x H' O' mk hf hmk1 hmk2 hom hgm ⟨rfl,h2,v,s,h3,h4,h5,h6⟩ _
  have hmk:H.next+6≤mk:=by omega
  have hsub:Sub H H':=⟨by have:=hf.next; omega,fun g hg=>(hf.keep g (by omega) (by rintro (h|h)<;>omega)).trans ((hsb.trans hsd).2 g hg)⟩
  simp (disch:=omega) [hgm,h4,h5]
  refine ⟨_,_,⟨rfl,rfl⟩,?_⟩
  simp [gi,htb,hsys,hun,h3]
  obtain ⟨a,fl,rfl,hE⟩:=h6
  exact ⟨a,fl,rfl,hE.same (Nat.le_refl _) fun g A hg hA=>GH.get_put_ne _ _ fun hc=>by subst hc; rw [hgm] at hA; cases hA⟩
end Go.Gm.Tryz
end
section
namespace Go.Gm.Tryz
open Go.Proofs
theorem aei {l:List Int} {n:Int} (h:jo l=true) (hn:∀x∈l.getLast?,x≤n):jo (l++ [n])=true:=by
 unfold jo at h ⊢
 rw [List.all_eq_true] at h ⊢
 intro j hj
 have hj:=List.mem_range.1 hj
 simp only [List.length_append,List.length_cons,List.length_nil] at hj
 simp only [decide_eq_true_eq]
 by_cases hc:j+1<l.length
 ·have:=h j (List.mem_range.2 (by omega))
  simp only [decide_eq_true_eq] at this
  rw [bc (show j<(l++ [n]).length by simp; omega),bc (show j+1<(l++ [n]).length by simp; omega)]
  rw [bc (show j<l.length by omega),bc hc] at this
  rw [List.getElem_append_left (by omega),List.getElem_append_left hc]
  exact this
 ·have hjl:j+1=l.length:=by omega
  rw [bc (show j<(l++ [n]).length by simp; omega),bc (show j+1<(l++ [n]).length by simp; omega)]
  rw [List.getElem_append_left (by omega),List.getElem_append_right (by omega)]
  have:=hn (l[j]) (by
   rw [List.getLast?_eq_getElem?,List.getElem?_eq_getElem (by omega)]
   simp only [Option.mem_def,Option.some.injEq]
   congr 1; omega)
  simpa using this
theorem abi {m:Nat}:∀ {many:Nat} {now s:List Int},jo now=true→(∀x∈now,0≤x)→s∈bf m many now→jo s=true:=by
 intro many
 induction many with
 |zero=>intro now s h _ hs; simp [bf] at hs; subst hs; exact h
 |succ many ih=>
  intro now s h h0 hs
  simp only [bf,List.mem_flatMap] at hs
  obtain ⟨n,hn,hs⟩:=hs
  have hn':=List.mem_range'_1.1 hn
  refine ih (aei h fun x hx=>?_) ?_ hs
  ·have e:now.getLast?=some x:=hx
   have h1:=h0 x (List.mem_of_getLast? e)
   have:fp now=x.toNat:=by unfold fp; rw [e]; rfl
   omega
  ·intro x hx
   rcases List.mem_append.1 hx with h|h
   ·exact h0 x h
   ·simp at h; omega
theorem ahy {t:Tbl} (_ht:t.rows.length≤1000) {s:List Int} (h:s∈bp t.rows.length):pi t s=true:=by
 have h1:=og h
 have h2:jo s=true:=by
  simp only [bp,List.mem_flatMap] at h
  obtain ⟨k,_,h⟩:=h
  exact abi (now:= []) rfl (by simp) h
 simp only [pi,h2,Bool.and_true,Bool.and_eq_true,decide_eq_true_eq,Bool.not_eq_true',List.any_eq_false]
 refine ⟨h1.1,fun n hn=>?_⟩
 have:=h1.2 n hn
 simp [wc,inI]; omega
theorem xm {t:Tbl} {sys u:Int} {s:List Int} (h:ju t sys u=some s):s∈bp t.rows.length∧cp t sys s=u:=by
 have:=List.mem_of_head? h
 simpa [dd] using this
def ct (t:Tbl) (sys u:Int):Int:=if gi t sys u then (match ju t sys u with|some s=>jr t s|none=> -1) else -1
def aqp (t:Tbl) (es:List (Value×Value×Nat)):Prop:=∀e∈es,∃s u,e.1=.agg #[vi s,vi u]∧e.2.1=vi (ct t s u)
theorem ali {t:Tbl} (s u:Int):∀ {es:List (Value×Value×Nat)},aqp t es→∀i,(∃j,fj (jp T 230) (.agg #[vi s,vi u]) es i=some (some (j,vi (ct t s u))))∨fj (jp T 230) (.agg #[vi s,vi u]) es i=some none:=by
 intro es
 induction es with
 |nil=>intro _ i; exact .inr rfl
 |cons e es ih=>
  intro h i
  obtain ⟨k,v,b⟩:=e
  obtain ⟨s',u',hk,hv⟩:=h _ (List.mem_cons_self ..)
  simp only at hk hv
  subst hk hv
  have e:jp T 230 (.agg #[vi s,vi u]) (.agg #[vi s',vi u'])=some ((s==s')&&((u==u')&&true)):=by
   simp [jp,cq,fi]
  simp only [fj,e]
  by_cases hc:s=s'∧u=u'
  ·obtain ⟨rfl,rfl⟩:=hc
   simp
  ·have:((s==s')&&((u==u')&&true))=false:=by
    simp only [Bool.and_true,Bool.and_eq_false_iff,beq_eq_false_iff_ne]
    by_cases h1:s=s'
    ·exact .inr fun h2=>hc ⟨h1,h2⟩
    ·exact .inl h1
   rw [this]
   exact ih (fun e he=>h e (List.mem_cons_of_mem _ he)) _
theorem zl (s u:Int):uy T 230 (.agg #[vi s,vi u])=true:=by simp [uy]
structure Stand where
 lives:List Bool
 owners:List Int
 grants:List GSt
 last:List Int
 waits:List Int
 fell:List (Int×Int)
@[simp] def aku (b:Bool):List Value:= [.bool b]
@[simp] def a15 (p:Int×Int):List Value:= [vi p.1,vi p.2]
structure StIn (H:GH) (N:Nat) (l:BLoc) (b:Book) (sg kn:Nat) (s:Stand) (vl vo vg va vw vf:Value):Prop where
 g:H.get sg=some (.arr { cells:=bq l b++ [.map (some kn),vl,vo,vg,va,vw,vf],ty:=123 })
 sgl:N≤sg∧sg<H.next
 book:BookIn H l b
 bt:∀a,l.t.rows.a=some a→a.block<N
 bo:∀a,l.owners.a=some a→a.block<N
 be:∀a,l.events.a=some a→a.block<N
 kno:∃es c,H.get kn=some (.map es c)∧aqp b.tbl es
 kl:N≤kn∧kn<H.next
 lives:bg H N vl 4 1 aku s.lives
 owners:bg H N vo 3 1 ca s.owners
 grants:bg H N vg 53 5 kg s.grants
 last:bg H N va 3 1 ca s.last
 waits:bg H N vw 3 1 ca s.waits
 fell:bg H N vf 128 2 a15 s.fell
 oa:∀k,ak vo=some k→ak va≠some k
 ow:∀k,ak vo=some k→ak vw≠some k
 aw:∀k,ak va=some k→ak vw≠some k
structure KnStep (kn:Nat) (t:Tbl) (H H':GH):Prop where
 next:H.next≤H'.next
 same:∀g,g<H.next→g≠kn→H'.get g=H.get g
 known:∃es c,H'.get kn=some (.map es c)∧aqp t es
theorem KnStep.trans {kn:Nat} {t:Tbl} {H H1 H2:GH} (a:KnStep kn t H H1) (b:KnStep kn t H1 H2):KnStep kn t H H2:=
 ⟨Nat.le_trans a.next b.next,fun g hg hk=>by rw [b.same g (Nat.lt_of_lt_of_le hg a.next) hk,a.same g hg hk],b.known⟩
theorem KnStep.of_sub {kn:Nat} {t:Tbl} {H H':GH} (hs:Sub H H') (hk:kn<H.next) (h:∃es c,H.get kn=some (.map es c)∧aqp t es):KnStep kn t H H':=
 ⟨hs.1,fun g hg _=>hs.2 g hg,by obtain ⟨es,c,h1,h2⟩:=h; exact ⟨es,c,by rw [hs.2 _ hk]; exact h1,h2⟩⟩
theorem Elems.kn {α:Type} {H H':GH} {kn:Nat} {t:Tbl} {a:Option Addr} {sz:Nat} {enc:α→List Value} {l:List α} (e:Elems H a sz enc l) (f:KnStep kn t H H') (hk:∃es c,H.get kn=some (.map es c)∧aqp t es):Elems H' a sz enc l:=
 e.same f.next fun g A hg hA=>f.same g hg fun hc=>by subst hc; obtain ⟨es,c,h,_⟩:=hk; rw [h] at hA; cases hA
theorem StIn.step {H H':GH} {N:Nat} {l:BLoc} {b:Book} {sg kn:Nat} {s:Stand} {vl vo vg va vw vf:Value} (h:StIn H N l b sg kn s vl vo vg va vw vf) (f:KnStep kn b.tbl H H'):StIn H' N l b sg kn s vl vo vg va vw vf:=by
 have hne:∀ {α:Type} {v:Value} {ty sz:Nat} {enc:α→List Value} {x:List α},bg H N v ty sz enc x→bg H' N v ty sz enc x:=fun o=>
  o.frame f.next fun g hg=>f.same g (o.blk_lt hg).2 fun hc=>by
   obtain ⟨A,hA,_⟩:=o.blk_ty hg
   obtain ⟨es,c,h1,_⟩:=h.kno
   subst hc; rw [h1] at hA; cases hA
 refine ⟨?_,⟨h.sgl.1,Nat.lt_of_lt_of_le h.sgl.2 f.next⟩,⟨Elems.kn h.book.t f h.kno,Elems.kn h.book.owners f h.kno,Elems.kn h.book.events f h.kno⟩,h.bt,h.bo,h.be,f.known,⟨h.kl.1,Nat.lt_of_lt_of_le h.kl.2 f.next⟩,hne h.lives,hne h.owners,hne h.grants,hne h.last,hne h.waits,hne h.fell,h.oa,h.ow,h.aw⟩
 rw [f.same sg h.sgl.2 fun hc=>?_]
 ·exact h.g
 ·obtain ⟨es,c,h1,_⟩:=h.kno
  have:=h.g
  rw [hc,h1] at this; cases this
theorem z7 {H:GH} {N:Nat} {l:BLoc} {b:Book} {sg kn:Nat} {s:Stand} {vl vo vg va vw vf:Value} (h:StIn H N l b sg kn s vl vo vg va vw vf) (sys u:Int):
  ay Tryz.prog 146 [.pointer (some (ga sg 0 0)),vi sys,vi u] H fun x H'=>x=.ret (vi (ct b.tbl sys u))∧KnStep kn b.tbl H H':=by
 rcases l with ⟨⟨⟨ra,rf⟩⟩,⟨oa,of'⟩,⟨va',vf'⟩⟩
 refine an tok mix ar3 (F:=atw) (c:=_) rfl (n:=57) rfl (rs:= [.tmp 6]) rfl ?_
 have hg:=h.g
 have hsl:=h.sgl.2
 have hkl:=h.kl.2
 obtain ⟨es,c,hk,hko⟩:=h.kno
 simp (disch:=omega) [hg,hk]
 rcases ali sys u hko 0 with ⟨j,e⟩|e
 ·simp [lkO,zl,e]
  exact KnStep.of_sub ((Sub.push (.refl H) _).put (Nat.le_refl _) _) hkl h.kno
 ·simp (disch:=omega) [lkO,zl,e,hg]
  generalize hH1:GH.put _ _ _=H1
  have hs1:Sub H H1:=by subst hH1; exact (Sub.push (.refl H) _).put (Nat.le_refl _) _
  have hk1:H1.get H.next=some (.arr { cells:= [vi sys,vi u],ty:=230 }):=by subst hH1; simp
  have hn1:H.next<H1.next:=by subst hH1; simp
  clear hH1
  refine (awo ⟨⟨ra,rf⟩⟩ b.tbl sys u H1 (h.book.t.mono hs1)).mono ?_
  rintro x H2 ⟨hs2,v,er,rfl,hv⟩
  have hs:=hs1.trans hs2
  have hg2:=(hs.2 sg hsl).trans hg
  have hk2:=(hs.2 kn hkl).trans hk
  have hb2:=(hs2.2 _ hn1).trans hk1
  have hn2:=hs.1
  have hn3:=hs2.1
  have fin:∀(w:Int),w=ct b.tbl sys u→∀H0,H0=H2→∃H',muO T 230 (some (.map es c)) kn (.agg #[vi sys,vi u]) (vi w) H0=some (.skip H')∧KnStep kn b.tbl H H':=by
   rintro w rfl H0 rfl
   unfold muO
   ·refine ⟨H0.put kn (.map (es++ [(.agg #[vi sys,vi u],vi (ct b.tbl sys u),c)]) (c+1)),by simp [zl,e],by simpa using hs.1,fun g hg hgk=>by rw [GH.get_put_ne _ _ hgk]; exact hs.2 g hg,_,_,GH.get_put_same _ _,?_⟩
    intro x hx
    rcases List.mem_append.1 hx with hx|hx
    ·exact hko x hx
    ·simp at hx; subst hx; exact ⟨sys,u,rfl,rfl⟩
  cases hsa:gi b.tbl sys u
  ·rw [hsa] at hv
   simp at hv
   obtain ⟨rfl,rfl⟩:=hv
   obtain ⟨H',hf1,hf2⟩:=fin (-1) (by simp [ct,hsa]) H2 rfl
   simp (disch:=omega) [hg2,hk2,hb2,hf1]
   exact ⟨by simp [ct,hsa],hf2⟩
  ·rw [hsa] at hv
   simp only [if_true] at hv
   cases hfs:ju b.tbl sys u with
   |none=>
    rw [hfs] at hv
    obtain ⟨rfl,rfl⟩:=hv
    obtain ⟨H',hf1,hf2⟩:=fin (-1) (by simp [ct,hsa,hfs]) H2 rfl
    simp (disch:=omega) [hg2,hk2,hb2,hf1]
    exact ⟨by simp [ct,hsa,hfs],hf2⟩
   |some st=>
    rw [hfs] at hv
    obtain ⟨rfl,a,fl,rfl,hE⟩:=hv
    obtain ⟨H',hf1,hf2⟩:=fin (jr b.tbl st) (by simp [ct,hsa,hfs]) H2 rfl
    have htb:ce b.tbl=true:=by simp only [gi,Bool.and_eq_true] at hsa; exact hsa.1.1
    have hr:=kd htb
    have hset:=ahy (t:=b.tbl) (by omega) (xm hfs).1
    simp (disch:=omega) [hg2]
    have hgv:=an8 ⟨⟨ra,rf⟩⟩ b.tbl st a fl H2 (h.book.t.mono hs) hE
    rw [htb,hset] at hgv
    refine hgv.go ?_
    simp (disch:=omega) [hg2,hk2,hb2,hf1]
    exact ⟨by simp [ct,hsa,hfs],hf2⟩
end Go.Gm.Tryz
end
section
namespace Go.Gm.Tryz
open Go.Proofs
theorem bu {α β:Type} {H:GH} {N M:Nat} {v w:Value} {ty ty' sz sz':Nat} {e:α→List Value} {e':β→List Value} {x:List α} {y:List β} (a:bg H N v ty sz e x) (b:bg H M w ty' sz' e' y) (h:ty≠ty') {k:Nat} (hk:ak v=some k):ak w≠some k:=by
 intro hc
 obtain ⟨A,h1,h2⟩:=a.blk_ty hk
 obtain ⟨B,h3,h4⟩:=b.blk_ty hc
 rw [h1] at h3; cases h3
 exact h (h2.symm.trans h4)
section
variable {H:GH} {N:Nat} {l:BLoc} {b:Book} {sg kn:Nat} {s:Stand} {vl vo vg va vw vf:Value}
theorem StIn.sg_ne {α:Type} (h:StIn H N l b sg kn s vl vo vg va vw vf) {v:Value} {ty sz:Nat} {e:α→List Value} {x:List α} (o:bg H N v ty sz e x) (hty:ty≠123):ak v≠some sg:=by
 intro hc
 obtain ⟨A,h1,h2⟩:=o.blk_ty hc
 rw [h.g] at h1; cases h1
 exact hty h2.symm
theorem StIn.kn_ne {α:Type} (h:StIn H N l b sg kn s vl vo vg va vw vf) {v:Value} {ty sz:Nat} {e:α→List Value} {x:List α} (o:bg H N v ty sz e x):ak v≠some kn:=by
 intro hc
 obtain ⟨A,h1,h2⟩:=o.blk_ty hc
 obtain ⟨es,c,h3,_⟩:=h.kno
 rw [h3] at h1; cases h1
theorem StIn.sk_ne (h:StIn H N l b sg kn s vl vo vg va vw vf):sg≠kn:=by
 intro hc
 obtain ⟨es,c,h3,_⟩:=h.kno
 have:=h.g
 rw [hc,h3] at this; cases this
theorem Elems.below {α:Type} {H H1:GH} {N:Nat} {a:Option Addr} {sz:Nat} {e:α→List Value} {x:List α} (h:Elems H a sz e x) (hb:∀c,a=some c→c.block<N) (hn:H.next≤H1.next) (hs:∀k,k<N→H1.get k=H.get k):Elems H1 a sz e x:=by
 refine ⟨h.len,fun c hc=>?_,h.nil⟩
 obtain ⟨h1,h2⟩:=h.ok c hc
 refine ⟨Nat.lt_of_lt_of_le h1 hn,?_⟩
 rw [←h2]
 simp only [GH.read]
 rw [hs _ (hb c hc)]
theorem StIn.wr_lives (h:StIn H N l b sg kn s vl vo vg va vw vf) {H1:GH} {x:List Bool} (hn:H.next≤H1.next) (hx:bg H1 N vl 4 1 aku x) (hs:∀k,k<H.next→ak vl≠some k→H1.get k=H.get k):StIn H1 N l b sg kn { s with lives:=x } vl vo vg va vw vf:=by
 have hN:∀k,k<N→H1.get k=H.get k:=fun k hk=>hs k (by have:=h.sgl; omega) fun hc=>by have:=(h.lives.blk_lt hc).1; omega
 have ho:∀ {α:Type} {w:Value} {ty sz:Nat} {e:α→List Value} {y:List α},bg H N w ty sz e y→(∀ {k},ak w=some k→ak vl≠some k)→bg H1 N w ty sz e y:=fun o d=>o.frame hn fun g hg=>hs g (o.blk_lt hg).2 (d hg)
 refine ⟨?_,⟨h.sgl.1,Nat.lt_of_lt_of_le h.sgl.2 hn⟩,⟨Elems.below h.book.t h.bt hn hN,Elems.below h.book.owners h.bo hn hN,Elems.below h.book.events h.be hn hN⟩,h.bt,h.bo,h.be,?_,⟨h.kl.1,Nat.lt_of_lt_of_le h.kl.2 hn⟩,hx,ho h.owners (bu h.owners h.lives (by decide)),ho h.grants (bu h.grants h.lives (by decide)),ho h.last (bu h.last h.lives (by decide)),ho h.waits (bu h.waits h.lives (by decide)),ho h.fell (bu h.fell h.lives (by decide)),h.oa,h.ow,h.aw⟩
 ·rw [hs sg h.sgl.2 (h.sg_ne h.lives (by decide))]; exact h.g
 ·rw [hs kn h.kl.2 (h.kn_ne h.lives)]; exact h.kno
theorem StIn.upd_lives (h:StIn H N l b sg kn s vl vo vg va vw vf) {H1:GH} {vl':Value} {x:List Bool} (hn:H.next≤H1.next) (hx:bg H1 N vl' 4 1 aku x) (hs:∀k,k<H.next→ak vl≠some k→H1.get k=H.get k) (hb:∀k,ak vl'=some k→ak vl=some k∨H.next≤k):
  StIn (H1.put sg (.arr { cells:=bq l b++ [.map (some kn),vl',vo,vg,va,vw,vf],ty:=123 })) N l b sg kn { s with lives:=x } vl' vo vg va vw vf:=by
 have hN:∀k,k<N→(H1.put sg (.arr { cells:=bq l b++ [.map (some kn),vl',vo,vg,va,vw,vf],ty:=123 })).get k=H.get k:=fun k hk=>by
  rw [GH.get_put_ne _ _ (by have:=h.sgl; omega)]
  exact hs k (by have:=h.sgl; omega) fun hc=>by have:=(h.lives.blk_lt hc).1; omega
 have hn':H.next≤(H1.put sg (.arr { cells:=bq l b++ [.map (some kn),vl',vo,vg,va,vw,vf],ty:=123 })).next:=hn
 have ho:∀ {α:Type} {w:Value} {ty sz:Nat} {e:α→List Value} {y:List α},bg H N w ty sz e y→ty≠123→(∀ {k},ak w=some k→ak vl≠some k)→bg (H1.put sg (.arr { cells:=bq l b++ [.map (some kn),vl',vo,vg,va,vw,vf],ty:=123 })) N w ty sz e y:=fun o ht d=>o.frame hn fun g hg=>by
  rw [GH.get_put_ne _ _ (fun hc=>h.sg_ne o ht (by rw [←hc]; exact hg))]
  exact hs g (o.blk_lt hg).2 (d hg)
 have hd:∀ {α:Type} {w:Value} {ty sz:Nat} {e:α→List Value} {y:List α},bg H N w ty sz e y→(∀ {k},ak w=some k→ak vl≠some k)→∀k,ak w=some k→ak vl'≠some k:=fun o d k hk hc=>(hb k hc).elim (d hk) fun h=>by have:=(o.blk_lt hk).2; omega
 have hself:∀k,ak vl'=some k→k≠sg:=fun k hk hc=>(hb k hk).elim (fun h1=>h.sg_ne h.lives (by decide) (by rw [←hc]; exact h1)) fun h1=>by have:=h.sgl; omega
 refine ⟨GH.get_put_same _ _,⟨h.sgl.1,Nat.lt_of_lt_of_le h.sgl.2 hn⟩,⟨Elems.below h.book.t h.bt hn' hN,Elems.below h.book.owners h.bo hn' hN,Elems.below h.book.events h.be hn' hN⟩,h.bt,h.bo,h.be,?_,⟨h.kl.1,Nat.lt_of_lt_of_le h.kl.2 hn⟩,hx.frame (Nat.le_refl _) fun g hg=>GH.get_put_ne _ _ (hself g hg),ho h.owners (by decide) (bu h.owners h.lives (by decide)),ho h.grants (by decide) (bu h.grants h.lives (by decide)),ho h.last (by decide) (bu h.last h.lives (by decide)),ho h.waits (by decide) (bu h.waits h.lives (by decide)),ho h.fell (by decide) (bu h.fell h.lives (by decide)),h.oa,h.ow,h.aw⟩
 rw [GH.get_put_ne _ _ (Ne.symm h.sk_ne),hs kn h.kl.2 (h.kn_ne h.lives)]; exact h.kno
theorem StIn.wr_owners (h:StIn H N l b sg kn s vl vo vg va vw vf) {H1:GH} {x:List Int} (hn:H.next≤H1.next) (hx:bg H1 N vo 3 1 ca x) (hs:∀k,k<H.next→ak vo≠some k→H1.get k=H.get k):StIn H1 N l b sg kn { s with owners:=x } vl vo vg va vw vf:=by
 have hN:∀k,k<N→H1.get k=H.get k:=fun k hk=>hs k (by have:=h.sgl; omega) fun hc=>by have:=(h.owners.blk_lt hc).1; omega
 have ho:∀ {α:Type} {w:Value} {ty sz:Nat} {e:α→List Value} {y:List α},bg H N w ty sz e y→(∀ {k},ak w=some k→ak vo≠some k)→bg H1 N w ty sz e y:=fun o d=>o.frame hn fun g hg=>hs g (o.blk_lt hg).2 (d hg)
 refine ⟨?_,⟨h.sgl.1,Nat.lt_of_lt_of_le h.sgl.2 hn⟩,⟨Elems.below h.book.t h.bt hn hN,Elems.below h.book.owners h.bo hn hN,Elems.below h.book.events h.be hn hN⟩,h.bt,h.bo,h.be,?_,⟨h.kl.1,Nat.lt_of_lt_of_le h.kl.2 hn⟩,ho h.lives (bu h.lives h.owners (by decide)),hx,ho h.grants (bu h.grants h.owners (by decide)),ho h.last (fun hk hc=>h.oa _ hc hk),ho h.waits (fun hk hc=>h.ow _ hc hk),ho h.fell (bu h.fell h.owners (by decide)),h.oa,h.ow,h.aw⟩
 ·rw [hs sg h.sgl.2 (h.sg_ne h.owners (by decide))]; exact h.g
 ·rw [hs kn h.kl.2 (h.kn_ne h.owners)]; exact h.kno
theorem StIn.upd_owners (h:StIn H N l b sg kn s vl vo vg va vw vf) {H1:GH} {vo':Value} {x:List Int} (hn:H.next≤H1.next) (hx:bg H1 N vo' 3 1 ca x) (hs:∀k,k<H.next→ak vo≠some k→H1.get k=H.get k) (hb:∀k,ak vo'=some k→ak vo=some k∨H.next≤k):
  StIn (H1.put sg (.arr { cells:=bq l b++ [.map (some kn),vl,vo',vg,va,vw,vf],ty:=123 })) N l b sg kn { s with owners:=x } vl vo' vg va vw vf:=by
 have hN:∀k,k<N→(H1.put sg (.arr { cells:=bq l b++ [.map (some kn),vl,vo',vg,va,vw,vf],ty:=123 })).get k=H.get k:=fun k hk=>by
  rw [GH.get_put_ne _ _ (by have:=h.sgl; omega)]
  exact hs k (by have:=h.sgl; omega) fun hc=>by have:=(h.owners.blk_lt hc).1; omega
 have hn':H.next≤(H1.put sg (.arr { cells:=bq l b++ [.map (some kn),vl,vo',vg,va,vw,vf],ty:=123 })).next:=hn
 have ho:∀ {α:Type} {w:Value} {ty sz:Nat} {e:α→List Value} {y:List α},bg H N w ty sz e y→ty≠123→(∀ {k},ak w=some k→ak vo≠some k)→bg (H1.put sg (.arr { cells:=bq l b++ [.map (some kn),vl,vo',vg,va,vw,vf],ty:=123 })) N w ty sz e y:=fun o ht d=>o.frame hn fun g hg=>by
  rw [GH.get_put_ne _ _ (fun hc=>h.sg_ne o ht (by rw [←hc]; exact hg))]
  exact hs g (o.blk_lt hg).2 (d hg)
 have hd:∀ {α:Type} {w:Value} {ty sz:Nat} {e:α→List Value} {y:List α},bg H N w ty sz e y→(∀ {k},ak w=some k→ak vo≠some k)→∀k,ak w=some k→ak vo'≠some k:=fun o d k hk hc=>(hb k hc).elim (d hk) fun h=>by have:=(o.blk_lt hk).2; omega
 have hself:∀k,ak vo'=some k→k≠sg:=fun k hk hc=>(hb k hk).elim (fun h1=>h.sg_ne h.owners (by decide) (by rw [←hc]; exact h1)) fun h1=>by have:=h.sgl; omega
 refine ⟨GH.get_put_same _ _,⟨h.sgl.1,Nat.lt_of_lt_of_le h.sgl.2 hn⟩,⟨Elems.below h.book.t h.bt hn' hN,Elems.below h.book.owners h.bo hn' hN,Elems.below h.book.events h.be hn' hN⟩,h.bt,h.bo,h.be,?_,⟨h.kl.1,Nat.lt_of_lt_of_le h.kl.2 hn⟩,ho h.lives (by decide) (bu h.lives h.owners (by decide)),hx.frame (Nat.le_refl _) fun g hg=>GH.get_put_ne _ _ (hself g hg),ho h.grants (by decide) (bu h.grants h.owners (by decide)),ho h.last (by decide) (fun hk hc=>h.oa _ hc hk),ho h.waits (by decide) (fun hk hc=>h.ow _ hc hk),ho h.fell (by decide) (bu h.fell h.owners (by decide)),fun k hk hc=>hd h.last (fun hk hc=>h.oa _ hc hk) k hc hk,fun k hk hc=>hd h.waits (fun hk hc=>h.ow _ hc hk) k hc hk,h.aw⟩
 rw [GH.get_put_ne _ _ (Ne.symm h.sk_ne),hs kn h.kl.2 (h.kn_ne h.owners)]; exact h.kno
theorem StIn.wr_grants (h:StIn H N l b sg kn s vl vo vg va vw vf) {H1:GH} {x:List GSt} (hn:H.next≤H1.next) (hx:bg H1 N vg 53 5 kg x) (hs:∀k,k<H.next→ak vg≠some k→H1.get k=H.get k):StIn H1 N l b sg kn { s with grants:=x } vl vo vg va vw vf:=by
 have hN:∀k,k<N→H1.get k=H.get k:=fun k hk=>hs k (by have:=h.sgl; omega) fun hc=>by have:=(h.grants.blk_lt hc).1; omega
 have ho:∀ {α:Type} {w:Value} {ty sz:Nat} {e:α→List Value} {y:List α},bg H N w ty sz e y→(∀ {k},ak w=some k→ak vg≠some k)→bg H1 N w ty sz e y:=fun o d=>o.frame hn fun g hg=>hs g (o.blk_lt hg).2 (d hg)
 refine ⟨?_,⟨h.sgl.1,Nat.lt_of_lt_of_le h.sgl.2 hn⟩,⟨Elems.below h.book.t h.bt hn hN,Elems.below h.book.owners h.bo hn hN,Elems.below h.book.events h.be hn hN⟩,h.bt,h.bo,h.be,?_,⟨h.kl.1,Nat.lt_of_lt_of_le h.kl.2 hn⟩,ho h.lives (bu h.lives h.grants (by decide)),ho h.owners (bu h.owners h.grants (by decide)),hx,ho h.last (bu h.last h.grants (by decide)),ho h.waits (bu h.waits h.grants (by decide)),ho h.fell (bu h.fell h.grants (by decide)),h.oa,h.ow,h.aw⟩
 ·rw [hs sg h.sgl.2 (h.sg_ne h.grants (by decide))]; exact h.g
 ·rw [hs kn h.kl.2 (h.kn_ne h.grants)]; exact h.kno
theorem StIn.upd_grants (h:StIn H N l b sg kn s vl vo vg va vw vf) {H1:GH} {vg':Value} {x:List GSt} (hn:H.next≤H1.next) (hx:bg H1 N vg' 53 5 kg x) (hs:∀k,k<H.next→ak vg≠some k→H1.get k=H.get k) (hb:∀k,ak vg'=some k→ak vg=some k∨H.next≤k):
  StIn (H1.put sg (.arr { cells:=bq l b++ [.map (some kn),vl,vo,vg',va,vw,vf],ty:=123 })) N l b sg kn { s with grants:=x } vl vo vg' va vw vf:=by
 have hN:∀k,k<N→(H1.put sg (.arr { cells:=bq l b++ [.map (some kn),vl,vo,vg',va,vw,vf],ty:=123 })).get k=H.get k:=fun k hk=>by
  rw [GH.get_put_ne _ _ (by have:=h.sgl; omega)]
  exact hs k (by have:=h.sgl; omega) fun hc=>by have:=(h.grants.blk_lt hc).1; omega
 have hn':H.next≤(H1.put sg (.arr { cells:=bq l b++ [.map (some kn),vl,vo,vg',va,vw,vf],ty:=123 })).next:=hn
 have ho:∀ {α:Type} {w:Value} {ty sz:Nat} {e:α→List Value} {y:List α},bg H N w ty sz e y→ty≠123→(∀ {k},ak w=some k→ak vg≠some k)→bg (H1.put sg (.arr { cells:=bq l b++ [.map (some kn),vl,vo,vg',va,vw,vf],ty:=123 })) N w ty sz e y:=fun o ht d=>o.frame hn fun g hg=>by
  rw [GH.get_put_ne _ _ (fun hc=>h.sg_ne o ht (by rw [←hc]; exact hg))]
  exact hs g (o.blk_lt hg).2 (d hg)
 have hd:∀ {α:Type} {w:Value} {ty sz:Nat} {e:α→List Value} {y:List α},bg H N w ty sz e y→(∀ {k},ak w=some k→ak vg≠some k)→∀k,ak w=some k→ak vg'≠some k:=fun o d k hk hc=>(hb k hc).elim (d hk) fun h=>by have:=(o.blk_lt hk).2; omega
 have hself:∀k,ak vg'=some k→k≠sg:=fun k hk hc=>(hb k hk).elim (fun h1=>h.sg_ne h.grants (by decide) (by rw [←hc]; exact h1)) fun h1=>by have:=h.sgl; omega
 refine ⟨GH.get_put_same _ _,⟨h.sgl.1,Nat.lt_of_lt_of_le h.sgl.2 hn⟩,⟨Elems.below h.book.t h.bt hn' hN,Elems.below h.book.owners h.bo hn' hN,Elems.below h.book.events h.be hn' hN⟩,h.bt,h.bo,h.be,?_,⟨h.kl.1,Nat.lt_of_lt_of_le h.kl.2 hn⟩,ho h.lives (by decide) (bu h.lives h.grants (by decide)),ho h.owners (by decide) (bu h.owners h.grants (by decide)),hx.frame (Nat.le_refl _) fun g hg=>GH.get_put_ne _ _ (hself g hg),ho h.last (by decide) (bu h.last h.grants (by decide)),ho h.waits (by decide) (bu h.waits h.grants (by decide)),ho h.fell (by decide) (bu h.fell h.grants (by decide)),h.oa,h.ow,h.aw⟩
 rw [GH.get_put_ne _ _ (Ne.symm h.sk_ne),hs kn h.kl.2 (h.kn_ne h.grants)]; exact h.kno
theorem StIn.wr_last (h:StIn H N l b sg kn s vl vo vg va vw vf) {H1:GH} {x:List Int} (hn:H.next≤H1.next) (hx:bg H1 N va 3 1 ca x) (hs:∀k,k<H.next→ak va≠some k→H1.get k=H.get k):StIn H1 N l b sg kn { s with last:=x } vl vo vg va vw vf:=by
 have hN:∀k,k<N→H1.get k=H.get k:=fun k hk=>hs k (by have:=h.sgl; omega) fun hc=>by have:=(h.last.blk_lt hc).1; omega
 have ho:∀ {α:Type} {w:Value} {ty sz:Nat} {e:α→List Value} {y:List α},bg H N w ty sz e y→(∀ {k},ak w=some k→ak va≠some k)→bg H1 N w ty sz e y:=fun o d=>o.frame hn fun g hg=>hs g (o.blk_lt hg).2 (d hg)
 refine ⟨?_,⟨h.sgl.1,Nat.lt_of_lt_of_le h.sgl.2 hn⟩,⟨Elems.below h.book.t h.bt hn hN,Elems.below h.book.owners h.bo hn hN,Elems.below h.book.events h.be hn hN⟩,h.bt,h.bo,h.be,?_,⟨h.kl.1,Nat.lt_of_lt_of_le h.kl.2 hn⟩,ho h.lives (bu h.lives h.last (by decide)),ho h.owners (fun hk=>h.oa _ hk),ho h.grants (bu h.grants h.last (by decide)),hx,ho h.waits (fun hk hc=>h.aw _ hc hk),ho h.fell (bu h.fell h.last (by decide)),h.oa,h.ow,h.aw⟩
 ·rw [hs sg h.sgl.2 (h.sg_ne h.last (by decide))]; exact h.g
 ·rw [hs kn h.kl.2 (h.kn_ne h.last)]; exact h.kno
theorem StIn.upd_last (h:StIn H N l b sg kn s vl vo vg va vw vf) {H1:GH} {va':Value} {x:List Int} (hn:H.next≤H1.next) (hx:bg H1 N va' 3 1 ca x) (hs:∀k,k<H.next→ak va≠some k→H1.get k=H.get k) (hb:∀k,ak va'=some k→ak va=some k∨H.next≤k):
  StIn (H1.put sg (.arr { cells:=bq l b++ [.map (some kn),vl,vo,vg,va',vw,vf],ty:=123 })) N l b sg kn { s with last:=x } vl vo vg va' vw vf:=by
 have hN:∀k,k<N→(H1.put sg (.arr { cells:=bq l b++ [.map (some kn),vl,vo,vg,va',vw,vf],ty:=123 })).get k=H.get k:=fun k hk=>by
  rw [GH.get_put_ne _ _ (by have:=h.sgl; omega)]
  exact hs k (by have:=h.sgl; omega) fun hc=>by have:=(h.last.blk_lt hc).1; omega
 have hn':H.next≤(H1.put sg (.arr { cells:=bq l b++ [.map (some kn),vl,vo,vg,va',vw,vf],ty:=123 })).next:=hn
 have ho:∀ {α:Type} {w:Value} {ty sz:Nat} {e:α→List Value} {y:List α},bg H N w ty sz e y→ty≠123→(∀ {k},ak w=some k→ak va≠some k)→bg (H1.put sg (.arr { cells:=bq l b++ [.map (some kn),vl,vo,vg,va',vw,vf],ty:=123 })) N w ty sz e y:=fun o ht d=>o.frame hn fun g hg=>by
  rw [GH.get_put_ne _ _ (fun hc=>h.sg_ne o ht (by rw [←hc]; exact hg))]
  exact hs g (o.blk_lt hg).2 (d hg)
 have hd:∀ {α:Type} {w:Value} {ty sz:Nat} {e:α→List Value} {y:List α},bg H N w ty sz e y→(∀ {k},ak w=some k→ak va≠some k)→∀k,ak w=some k→ak va'≠some k:=fun o d k hk hc=>(hb k hc).elim (d hk) fun h=>by have:=(o.blk_lt hk).2; omega
 have hself:∀k,ak va'=some k→k≠sg:=fun k hk hc=>(hb k hk).elim (fun h1=>h.sg_ne h.last (by decide) (by rw [←hc]; exact h1)) fun h1=>by have:=h.sgl; omega
 refine ⟨GH.get_put_same _ _,⟨h.sgl.1,Nat.lt_of_lt_of_le h.sgl.2 hn⟩,⟨Elems.below h.book.t h.bt hn' hN,Elems.below h.book.owners h.bo hn' hN,Elems.below h.book.events h.be hn' hN⟩,h.bt,h.bo,h.be,?_,⟨h.kl.1,Nat.lt_of_lt_of_le h.kl.2 hn⟩,ho h.lives (by decide) (bu h.lives h.last (by decide)),ho h.owners (by decide) (fun hk=>h.oa _ hk),ho h.grants (by decide) (bu h.grants h.last (by decide)),hx.frame (Nat.le_refl _) fun g hg=>GH.get_put_ne _ _ (hself g hg),ho h.waits (by decide) (fun hk hc=>h.aw _ hc hk),ho h.fell (by decide) (bu h.fell h.last (by decide)),hd h.owners (fun hk=>h.oa _ hk),h.ow,fun k hk hc=>hd h.waits (fun hk hc=>h.aw _ hc hk) k hc hk⟩
 rw [GH.get_put_ne _ _ (Ne.symm h.sk_ne),hs kn h.kl.2 (h.kn_ne h.last)]; exact h.kno
theorem StIn.upd_waits (h:StIn H N l b sg kn s vl vo vg va vw vf) {H1:GH} {vw':Value} {x:List Int} (hn:H.next≤H1.next) (hx:bg H1 N vw' 3 1 ca x) (hs:∀k,k<H.next→ak vw≠some k→H1.get k=H.get k) (hb:∀k,ak vw'=some k→ak vw=some k∨H.next≤k):
  StIn (H1.put sg (.arr { cells:=bq l b++ [.map (some kn),vl,vo,vg,va,vw',vf],ty:=123 })) N l b sg kn { s with waits:=x } vl vo vg va vw' vf:=by
 have hN:∀k,k<N→(H1.put sg (.arr { cells:=bq l b++ [.map (some kn),vl,vo,vg,va,vw',vf],ty:=123 })).get k=H.get k:=fun k hk=>by
  rw [GH.get_put_ne _ _ (by have:=h.sgl; omega)]
  exact hs k (by have:=h.sgl; omega) fun hc=>by have:=(h.waits.blk_lt hc).1; omega
 have hn':H.next≤(H1.put sg (.arr { cells:=bq l b++ [.map (some kn),vl,vo,vg,va,vw',vf],ty:=123 })).next:=hn
 have ho:∀ {α:Type} {w:Value} {ty sz:Nat} {e:α→List Value} {y:List α},bg H N w ty sz e y→ty≠123→(∀ {k},ak w=some k→ak vw≠some k)→bg (H1.put sg (.arr { cells:=bq l b++ [.map (some kn),vl,vo,vg,va,vw',vf],ty:=123 })) N w ty sz e y:=fun o ht d=>o.frame hn fun g hg=>by
  rw [GH.get_put_ne _ _ (fun hc=>h.sg_ne o ht (by rw [←hc]; exact hg))]
  exact hs g (o.blk_lt hg).2 (d hg)
 have hd:∀ {α:Type} {w:Value} {ty sz:Nat} {e:α→List Value} {y:List α},bg H N w ty sz e y→(∀ {k},ak w=some k→ak vw≠some k)→∀k,ak w=some k→ak vw'≠some k:=fun o d k hk hc=>(hb k hc).elim (d hk) fun h=>by have:=(o.blk_lt hk).2; omega
 have hself:∀k,ak vw'=some k→k≠sg:=fun k hk hc=>(hb k hk).elim (fun h1=>h.sg_ne h.waits (by decide) (by rw [←hc]; exact h1)) fun h1=>by have:=h.sgl; omega
 refine ⟨GH.get_put_same _ _,⟨h.sgl.1,Nat.lt_of_lt_of_le h.sgl.2 hn⟩,⟨Elems.below h.book.t h.bt hn' hN,Elems.below h.book.owners h.bo hn' hN,Elems.below h.book.events h.be hn' hN⟩,h.bt,h.bo,h.be,?_,⟨h.kl.1,Nat.lt_of_lt_of_le h.kl.2 hn⟩,ho h.lives (by decide) (bu h.lives h.waits (by decide)),ho h.owners (by decide) (fun hk=>h.ow _ hk),ho h.grants (by decide) (bu h.grants h.waits (by decide)),ho h.last (by decide) (fun hk=>h.aw _ hk),hx.frame (Nat.le_refl _) fun g hg=>GH.get_put_ne _ _ (hself g hg),ho h.fell (by decide) (bu h.fell h.waits (by decide)),h.oa,hd h.owners (fun hk=>h.ow _ hk),hd h.last (fun hk=>h.aw _ hk)⟩
 rw [GH.get_put_ne _ _ (Ne.symm h.sk_ne),hs kn h.kl.2 (h.kn_ne h.waits)]; exact h.kno
theorem StIn.upd_fell (h:StIn H N l b sg kn s vl vo vg va vw vf) {H1:GH} {vf':Value} {x:List (Int×Int)} (hn:H.next≤H1.next) (hx:bg H1 N vf' 128 2 a15 x) (hs:∀k,k<H.next→ak vf≠some k→H1.get k=H.get k) (hb:∀k,ak vf'=some k→ak vf=some k∨H.next≤k):
  StIn (H1.put sg (.arr { cells:=bq l b++ [.map (some kn),vl,vo,vg,va,vw,vf'],ty:=123 })) N l b sg kn { s with fell:=x } vl vo vg va vw vf':=by
 have hN:∀k,k<N→(H1.put sg (.arr { cells:=bq l b++ [.map (some kn),vl,vo,vg,va,vw,vf'],ty:=123 })).get k=H.get k:=fun k hk=>by
  rw [GH.get_put_ne _ _ (by have:=h.sgl; omega)]
  exact hs k (by have:=h.sgl; omega) fun hc=>by have:=(h.fell.blk_lt hc).1; omega
 have hn':H.next≤(H1.put sg (.arr { cells:=bq l b++ [.map (some kn),vl,vo,vg,va,vw,vf'],ty:=123 })).next:=hn
 have ho:∀ {α:Type} {w:Value} {ty sz:Nat} {e:α→List Value} {y:List α},bg H N w ty sz e y→ty≠123→(∀ {k},ak w=some k→ak vf≠some k)→bg (H1.put sg (.arr { cells:=bq l b++ [.map (some kn),vl,vo,vg,va,vw,vf'],ty:=123 })) N w ty sz e y:=fun o ht d=>o.frame hn fun g hg=>by
  rw [GH.get_put_ne _ _ (fun hc=>h.sg_ne o ht (by rw [←hc]; exact hg))]
  exact hs g (o.blk_lt hg).2 (d hg)
 have hd:∀ {α:Type} {w:Value} {ty sz:Nat} {e:α→List Value} {y:List α},bg H N w ty sz e y→(∀ {k},ak w=some k→ak vf≠some k)→∀k,ak w=some k→ak vf'≠some k:=fun o d k hk hc=>(hb k hc).elim (d hk) fun h=>by have:=(o.blk_lt hk).2; omega
 have hself:∀k,ak vf'=some k→k≠sg:=fun k hk hc=>(hb k hk).elim (fun h1=>h.sg_ne h.fell (by decide) (by rw [←hc]; exact h1)) fun h1=>by have:=h.sgl; omega
 refine ⟨GH.get_put_same _ _,⟨h.sgl.1,Nat.lt_of_lt_of_le h.sgl.2 hn⟩,⟨Elems.below h.book.t h.bt hn' hN,Elems.below h.book.owners h.bo hn' hN,Elems.below h.book.events h.be hn' hN⟩,h.bt,h.bo,h.be,?_,⟨h.kl.1,Nat.lt_of_lt_of_le h.kl.2 hn⟩,ho h.lives (by decide) (bu h.lives h.fell (by decide)),ho h.owners (by decide) (bu h.owners h.fell (by decide)),ho h.grants (by decide) (bu h.grants h.fell (by decide)),ho h.last (by decide) (bu h.last h.fell (by decide)),ho h.waits (by decide) (bu h.waits h.fell (by decide)),hx.frame (Nat.le_refl _) fun g hg=>GH.get_put_ne _ _ (hself g hg),h.oa,h.ow,h.aw⟩
 rw [GH.get_put_ne _ _ (Ne.symm h.sk_ne),hs kn h.kl.2 (h.kn_ne h.fell)]; exact h.kno
end
end Go.Gm.Tryz
end
section
namespace Go.Gm.Tryz
open Go.Proofs
def ap (H:GH) (N:Nat) (l:BLoc) (b:Book) (sg kn:Nat) (s:Stand) (O:Nat→Prop):Prop:=
 ∃vl vo vg va vw vf,StIn H N l b sg kn s vl vo vg va vw vf∧(∀g,O g↔g=sg∨g=kn∨ak vl=some g∨ak vo=some g∨ak vg=some g∨ak va=some g∨ak vw=some g∨ak vf=some g)
section
variable {H:GH} {N:Nat} {l:BLoc} {b:Book} {sg kn:Nat} {s:Stand} {O:Nat→Prop}
theorem StIn.own_lt {vl vo vg va vw vf:Value} (h:StIn H N l b sg kn s vl vo vg va vw vf) {g:Nat} (hg:g=sg∨g=kn∨ak vl=some g∨ak vo=some g∨ak vg=some g∨ak va=some g∨ak vw=some g∨ak vf=some g):N≤g∧g<H.next:=by
 rcases hg with rfl|rfl|hg|hg|hg|hg|hg|hg
 ·exact h.sgl
 ·exact h.kl
 ·exact h.lives.blk_lt hg
 ·exact h.owners.blk_lt hg
 ·exact h.grants.blk_lt hg
 ·exact h.last.blk_lt hg
 ·exact h.waits.blk_lt hg
 ·exact h.fell.blk_lt hg
theorem ap.lt (h:ap H N l b sg kn s O):∀g,O g→N≤g∧g<H.next:=by
 obtain ⟨vl,vo,vg,va,vw,vf,h1,h2⟩:=h
 exact fun g hg=>h1.own_lt ((h2 g).1 hg)
theorem ap.kstep (h:ap H N l b sg kn s O) {H':GH} (f:KnStep kn b.tbl H H'):ap H' N l b sg kn s O∧Frm O O H H':=by
 have hlt:=h.lt
 obtain ⟨vl,vo,vg,va,vw,vf,h1,h2⟩:=h
 exact ⟨⟨_,_,_,_,_,_,h1.step f,h2⟩,f.next,fun g hg ho=>f.same g hg fun hc=>ho ((h2 g).2 (.inr (.inl hc))),fun g hg=>.inl hg,fun g hg=>Nat.lt_of_lt_of_le (hlt g hg).2 f.next⟩
theorem ap.of {H1:GH} {s1:Stand} {vl vo vg va vw vf vl' vo' vg' va' vw' vf':Value} (_h:StIn H N l b sg kn s vl vo vg va vw vf) (hO:∀g,O g↔g=sg∨g=kn∨ak vl=some g∨ak vo=some g∨ak vg=some g∨ak va=some g∨ak vw=some g∨ak vf=some g)
  (h1:StIn H1 N l b sg kn s1 vl' vo' vg' va' vw' vf') (hn:H.next≤H1.next) (hs:∀g,g<H.next→¬O g→H1.get g=H.get g)
  (b1:∀k,ak vl'=some k→ak vl=some k∨H.next≤k) (b2:∀k,ak vo'=some k→ak vo=some k∨H.next≤k) (b3:∀k,ak vg'=some k→ak vg=some k∨H.next≤k)
  (b4:∀k,ak va'=some k→ak va=some k∨H.next≤k) (b5:∀k,ak vw'=some k→ak vw=some k∨H.next≤k) (b6:∀k,ak vf'=some k→ak vf=some k∨H.next≤k):
  ∃O',Frm O O' H H1∧ap H1 N l b sg kn s1 O':=by
 refine ⟨fun g=>g=sg∨g=kn∨ak vl'=some g∨ak vo'=some g∨ak vg'=some g∨ak va'=some g∨ak vw'=some g∨ak vf'=some g,⟨hn,hs,fun g hg=>?_,fun g hg=>(h1.own_lt hg).2⟩,_,_,_,_,_,_,h1,fun g=>Iff.rfl⟩
 rw [hO]
 rcases hg with hg|hg|hg|hg|hg|hg|hg|hg
 ·exact .inl (.inl hg)
 ·exact .inl (.inr (.inl hg))
 ·exact (b1 g hg).imp (fun h=>.inr (.inr (.inl h))) id
 ·exact (b2 g hg).imp (fun h=>.inr (.inr (.inr (.inl h)))) id
 ·exact (b3 g hg).imp (fun h=>.inr (.inr (.inr (.inr (.inl h))))) id
 ·exact (b4 g hg).imp (fun h=>.inr (.inr (.inr (.inr (.inr (.inl h)))))) id
 ·exact (b5 g hg).imp (fun h=>.inr (.inr (.inr (.inr (.inr (.inr (.inl h))))))) id
 ·exact (b6 g hg).imp (fun h=>.inr (.inr (.inr (.inr (.inr (.inr (.inr h))))))) id
end
def jv (b:Book) (n:Int) (g:GSt):Int:=if g.is=3 then n else IntKind.i64.wrap (n - ct b.tbl g.system g.units)
def mr (b:Book) (s:Stand):Int:=s.grants.foldl (jv b) b.supply
theorem acr {H:GH} {N:Nat} {l:BLoc} {b:Book} {sg kn:Nat} {s:Stand} {vl vo vg va vw vf:Value} (h:StIn H N l b sg kn s vl vo vg va vw vf) (hlen:s.grants.length≤1000):
  ay Tryz.prog 89 [.pointer (some (ga sg 0 0))] H fun x H'=>x=.ret (vi (mr b s))∧KnStep kn b.tbl H H':=by
 rcases l with ⟨⟨⟨ra,rf⟩⟩,⟨oa,of'⟩,⟨va',vf'⟩⟩
 refine an tok mix a0q (F:=g89) (c:=_) rfl (n:=33) rfl (rs:= [.tmp 2]) rfl ?_
 have hg:=h.g
 obtain ⟨ag,fg,rfl,hE⟩:=h.grants.elems (fun _=>rfl)
 simp (disch:=omega) [hg]
 refine cv tok mix (by kernel_rfl) s.grants.length (fun i ρ m H1=>ρ 0=.pointer (some (ga sg 0 0))∧ρ 14=.slice ag s.grants.length fg∧ρ 15=vi s.grants.length∧ρ 16=vi i∧ρ 3=vi ((s.grants.take i).foldl (jv b) b.supply)∧m= []∧KnStep kn b.tbl H H1) (i0:=0) (by omega) (by simp; exact KnStep.of_sub (.refl H) h.kl.2 h.kno) ?_
 rintro i ρ m H1 hi ⟨e0,e14,e15,e16,e3,rfl,hk⟩
 have h1:=h.step hk
 simp [e15,e16]
 refine ba (fun hlt=>?_) (fun hge=>?_)
 ·obtain ⟨a,rfl,hal,hrd⟩:=(h1.grants.elems' (fun _=>rfl)).at i hlt
  have e:(s.grants.take (i+1)).foldl (jv b) b.supply=jv b ((s.grants.take i).foldl (jv b) b.supply) s.grants[i]:=by
   rw [List.take_succ_eq_append_getElem hlt,List.foldl_append]; rfl
  simp (disch:=omega) [e14,e16,hlt,hrd]
  have hs2:Sub H1 ((H1.push (.arr { cells:= [vi 0,vi 0,vi 0,vi 0,vi 0],ty:=53 })).put H1.next (.arr { cells:= [vi s.grants[i].is,vi s.grants[i].person,vi s.grants[i].estate,vi s.grants[i].system,vi s.grants[i].units],ty:=53 })):=(Sub.push (.refl H1) _).put (Nat.le_refl _) _
  have hk2:=hk.trans (KnStep.of_sub hs2 h1.kl.2 h1.kno)
  refine ck (fun h5=>?_) (fun h5=>?_)<;>(try simp only [Bool.not_eq_true',Bool.not_eq_false',decide_eq_true_eq,decide_eq_false_iff_not] at h5)
  ·simp (disch:=omega) [e0]
   refine (z7 (h.step hk2) _ _).mono ?_
   rintro x H2 ⟨rfl,hk3⟩
   simp (disch:=omega) [e0,e14,e15,e16,e3,aj]
   exact ⟨by rw [e]; simp [jv,h5],hk2.trans hk3⟩
  ·simp (disch:=omega) [e0,e14,e15,e16,e3,aj]
   have h6:s.grants[i].is=3:=by omega
   exact ⟨by rw [e]; simp [jv,h6],hk2⟩
 ·have:i=s.grants.length:=by omega
  subst this
  simp [e3]
  exact ⟨by simp [mr],hk⟩
theorem ak1 {H:GH} {N:Nat} {l:BLoc} {b:Book} {sg kn:Nat} {s:Stand} {vl vo vg va vw vf:Value} (h:StIn H N l b sg kn s vl vo vg va vw vf) (n:Int) (hn:0≤n):
  C 250 [.pointer (some (ga sg 0 0)),vi n] H (.bool (decide (n<s.owners.length)&&decide (0≤s.owners.getD n.toNat 0))) H:=by
 rcases l with ⟨⟨⟨ra,rf⟩⟩,⟨oa,of'⟩,⟨va',vf'⟩⟩
 refine au tok mix ath (F:=a5h) (c:=_) rfl (n:=22) rfl (rs:= [.tmp 4]) rfl (ac rfl) ?_
 have hg:=h.g
 obtain ⟨ag,fg,rfl,hE⟩:=h.owners.elems (fun _=>rfl)
 simp (disch:=omega) [hg]
 refine bh (fun h5=>?_) (fun h5=>?_)<;>(try simp only [decide_eq_true_eq,decide_eq_false_iff_not] at h5)
 ·obtain ⟨a,rfl,hal,hrd⟩:=hE.at n.toNat (by omega)
  have e:s.owners[n.toNat]?.getD 0=s.owners[n.toNat]:=by rw [List.getElem?_eq_getElem (by omega)]; rfl
  simp (disch:=omega) [hg,h5,hrd]
 ·simp [h5]
end Go.Gm.Tryz
end
section
namespace Go.Gm.Tryz
open Go.Proofs
def ek (s:Stand) (person estate system units:Int):Stand:= { s with grants:=s.grants++ [⟨1,person,estate,system,units⟩],last:=s.last++ [0] }
theorem abl {H:GH} {N:Nat} {l:BLoc} {b:Book} {sg kn:Nat} {s:Stand} {O:Nat→Prop} (h:ap H N l b sg kn s O) (hlen:s.grants.length≤1000) (hl2:s.last.length≤1000) (p e sy u:Int):
  ay Tryz.prog 181 [.pointer (some (ga sg 0 0)),vi p,vi e,vi sy,vi u] H fun x H'=>x=.ret (.tuple #[])∧∃O',Frm O O' H H'∧ap H' N l b sg kn (ek s p e sy u) O':=by
 rcases l with ⟨⟨⟨ra,rf⟩⟩,⟨oa,of'⟩,⟨va',vf'⟩⟩
 obtain ⟨vl,vo,vg,va,vw,vf,h,hO⟩:=h
 refine an tok mix ast (F:=a4y) (c:=_) rfl (n:=33) rfl (rs:= []) rfl ?_
 have hg:=h.g
 have hsl:=h.sgl.2
 have hsN:=h.sgl.1
 have hlg:=h.grants.len
 have hla:=h.last.len
 obtain ⟨vg',H1,happ,ho1,hn1,hf1,hb1⟩:=(h.grants.push (.arr { cells:= [vi 1,vi p,vi e,vi sy,vi u],ty:=53 })).app (by simp) (by simp) (by decide) ⟨1,p,e,sy,u⟩ (by simp; omega)
 simp only [kg] at happ
 have c8:40*(1+s.grants.length)≤1000000:=by omega
 have c9:1+s.grants.length≤1000000:=by omega
 have hbg:ak vg≠some sg:=h.sg_ne h.grants (by decide)
 have hg1:H1.get sg=some (.arr { cells:=bq ⟨⟨⟨ra,rf⟩⟩,⟨oa,of'⟩,⟨va',vf'⟩⟩ b++ [.map (some kn),vl,vo,vg,va,vw,vf],ty:=123 }):=by
  rw [hf1 sg (by simp; omega) hbg,GH.get_push_lt _ _ hsl]; exact hg
 simp only [GH.next_push] at hn1
 obtain ⟨ag,fg,rfl⟩:=ho1.slice
 simp (disch:=omega) [hg,hlg,c8,c9,happ,hg1]
 have hS1:=h.upd_grants (by omega) ho1 (fun k hk hne=>by rw [hf1 k (by simp; omega) hne,GH.get_push_lt _ _ hk]) (fun k hk=>(hb1 k hk).imp id fun h=>by simp at h; omega)
 simp only [bq,List.cons_append,List.nil_append,List.length_append,List.length_cons,List.length_nil,Nat.zero_add] at hS1 hb1
 generalize hH2:H1.put sg _=H2 at hS1 ⊢
 have hf2:∀k,k<H.next→¬O k→H2.get k=H.get k:=by
  intro k hk ho
  rw [hO] at ho
  subst hH2
  rw [GH.get_put_ne _ _ (fun hc=>ho (.inl hc)),hf1 k (by simp; omega) (fun hc=>ho (.inr (.inr (.inr (.inr (.inl hc)))))),GH.get_push_lt _ _ hk]
 have hn2:H.next+1≤H2.next:=by subst hH2; exact hn1
 clear hH2 hf1 happ hg1
 have hg2:=hS1.g
 have hsl2:=hS1.sgl.2
 obtain ⟨va1,H3,happ3,ho3,hn3,hf3,hb3⟩:=(hS1.last.push (.arr { cells:= [vi 0],ty:=3 })).app (by simp) (by simp) (by decide) 0 (by simp; omega)
 simp only [ca] at happ3
 have d8:8*(1+s.last.length)≤1000000:=by omega
 have d9:1+s.last.length≤1000000:=by omega
 have hg3:=(hf3 sg (by simp; omega) (hS1.sg_ne hS1.last (by decide))).trans ((GH.get_push_lt _ _ hsl2).trans hg2)
 simp only [GH.next_push] at hn3
 obtain ⟨aa,fa',rfl⟩:=ho3.slice
 simp (disch:=omega) [hla,d8,d9,happ3,hg3]
 have hS2:=hS1.upd_last (by omega) ho3 (fun k hk hne=>by rw [hf3 k (by simp; omega) hne,GH.get_push_lt _ _ hk]) (fun k hk=>(hb3 k hk).imp id fun h=>by simp at h; omega)
 have hfin:=ap.of h hO hS2 (by simp; omega) (fun k hk ho=>by
  have ho':=ho
  rw [hO] at ho'
  rw [GH.get_put_ne _ _ (fun hc=>ho' (.inl hc)),hf3 k (by simp; omega) (fun hc=>ho' (.inr (.inr (.inr (.inr (.inr (.inl hc))))))),GH.get_push_lt _ _ (by omega),hf2 k hk ho]) (fun k hk=>.inl hk) (fun k hk=>.inl hk) (fun k hk=>(hb1 k hk).imp id fun h=>by simp at h; omega) (fun k hk=>(hb3 k hk).imp id fun h=>by simp at h; omega) (fun k hk=>.inl hk) (fun k hk=>.inl hk)
 simpa [ek] using hfin
end Go.Gm.Tryz
end
section
namespace Go.Gm
@[simp] theorem bkp {T:Tab} {H:GH} (s:ByteArray) (lo hi:Option Value):slK T (some .str) (.string s) lo hi H=slS s (ez lo hi s.size) H:=ai rfl
@[simp] theorem a81 {T:Tab} {H:GH} (e:TypeId) (a:Addr) (n c:Nat) (lo hi:Option Value):slK T (some (.slice e)) (.slice (some a) n c) lo hi H=slE (T.get e) a c (ez lo hi n) H:=ai rfl
@[simp] theorem bko {T:Tab} {H:GH} (e:TypeId) (lo hi:Option Value):slK T (some (.slice e)) (.slice none 0 0) lo hi H=slN (T.get e) (ez lo hi 0) H:=ai rfl
@[simp] theorem a5l (a:Addr) (n:Nat):(ku a n).block=a.block:=rfl
end Go.Gm
namespace Go.Gm.Tryz
open Go.Proofs
section
variable {H H':GH} {N:Nat} {l:BLoc} {b:Book} {sg kn:Nat} {s:Stand} {O:Nat→Prop}
theorem StIn.sub {vl vo vg va vw vf:Value} (h:StIn H N l b sg kn s vl vo vg va vw vf) (hs:Sub H H'):StIn H' N l b sg kn s vl vo vg va vw vf:=h.step (KnStep.of_sub hs h.kl.2 h.kno)
theorem ap.sub (h:ap H N l b sg kn s O) (hs:Sub H H'):ap H' N l b sg kn s O∧Frm O O H H':=by
 obtain ⟨vl,vo,vg,va,vw,vf,h1,h2⟩:=h
 exact ap.kstep ⟨_,_,_,_,_,_,h1,h2⟩ (KnStep.of_sub hs h1.kl.2 h1.kno)
end
def db (b:Book) (n:Int):Ev:=b.events.getD n.toNat default
def gu (b:Book):Nat→Stand→Stand
 |0,s=>s
 |n+1,s=>match s.waits with
  | []=>s
  |w::ws=>if mr b s<ct b.tbl (db b w).system (db b w).units then s
   else gu b n { ek s (db b w).person (-1) (db b w).system (db b w).units with waits:=ws }
def serve (b:Book) (s:Stand):Stand:=gu b s.waits.length s
structure Wf (b:Book) (s:Stand):Prop where
 w:∀n∈s.waits,0≤n∧n<b.events.length
 len:s.grants.length+s.waits.length≤100
 last:s.last.length=s.grants.length
 own:s.owners.length≤100
 ev:b.events.length≤100
 fe:s.fell.length≤s.grants.countP (fun x=>decide (x.is=3))
theorem ap0 {b:Book}:∀ {n:Nat} {s:Stand},Wf b s→Wf b (gu b n s):=by
 intro n
 induction n with
 |zero=>intro s h; exact h
 |succ n ih=>
  intro s h
  simp only [gu]
  cases hws:s.waits with
  |nil=>exact h
  |cons w ws=>
   simp only
   split
   ·exact h
   ·refine ih ⟨fun n hn=>h.w n (by rw [hws]; exact List.mem_cons_of_mem _ hn),?_,?_,h.own,h.ev,?_⟩
    ·have:=h.len
     simp [hws] at this
     simp [ek]; omega
    ·have:=h.last
     simp [ek]; omega
    ·have:=h.fe
     simpa [ek] using this
theorem adl {b:Book} {s:Stand} (h:Wf b s):Wf b (serve b s):=ap0 h
def k9 (s:Stand):Nat:=s.grants.countP fun x=>decide (x.is=2)
theorem ahg {b:Book}:∀ {n:Nat} {s:Stand},k9 (gu b n s)=k9 s:=by
 intro n
 induction n with
 |zero=>intro s; rfl
 |succ n ih=>
  intro s
  simp only [gu]
  cases hws:s.waits with
  |nil=>rfl
  |cons w ws=>
   simp only
   split
   ·rfl
   ·rw [ih]; simp [k9,ek]
theorem ajw {b:Book} {s:Stand}:k9 (serve b s)=k9 s:=ahg
theorem afo {H:GH} {N:Nat} {l:BLoc} {b:Book} {sg kn:Nat} {s:Stand} {O:Nat→Prop} (h:ap H N l b sg kn s O) (hw:Wf b s):
  ay Tryz.prog 140 [.pointer (some (ga sg 0 0))] H fun x H'=>x=.ret (.tuple #[])∧∃O',Frm O O' H H'∧ap H' N l b sg kn (serve b s) O':=by
 rcases l with ⟨⟨⟨ra,rf⟩⟩,⟨oa,of'⟩,⟨va',vf'⟩⟩
 refine an tok mix arz (F:=axh) (c:=_) rfl (n:=47) rfl (rs:= []) rfl ?_
 simp
 refine pb tok mix (by kernel_rfl) (fun k ρ m H1=>∃s1 O1,k=s1.waits.length∧ρ 0=.pointer (some (ga sg 0 0))∧m= []∧Frm O O1 H H1∧ap H1 N ⟨⟨⟨ra,rf⟩⟩,⟨oa,of'⟩,⟨va',vf'⟩⟩ b sg kn s1 O1∧gu b k s1=serve b s∧Wf b s1) ⟨s,O,rfl,by simp,rfl,Frm.refl (fun g hg=>(h.lt g hg).2),h,rfl,hw⟩ ?_
 rintro k ρ m H1 ⟨s1,O1,rfl,e0,rfl,hf,h1,hsv,hw1⟩
 have h1':=h1
 obtain ⟨vl,vo,vg,va,vw,vf,h1,hO⟩:=h1
 have hg:=h1.g
 have hsl:=h1.sgl.2
 obtain ⟨aw,fw,rfl,hE⟩:=h1.waits.elems (fun _=>rfl)
 simp (disch:=omega) [e0,hg]
 cases hws:s1.waits with
 |nil=>
  simp
  rw [hws] at hsv
  exact ⟨O1,hf,by rw [←hsv]; exact h1'⟩
 |cons w ws=>
  have hpos:(0:Int)<(ws.length:Int)+1:=by omega
  obtain ⟨aw,rfl,hwl,hwr⟩:=hE.at 0 (by rw [hws]; simp)
  have hw0:s1.waits[0]'(by rw [hws]; simp)=w:=by simp [hws]
  rw [hw0] at hwr
  obtain ⟨hwn0,hwn1⟩:=hw1.w w (by rw [hws]; simp)
  obtain ⟨av,rfl,hvl,hvr⟩:=h1.book.events.at w.toNat (by omega)
  have hev:db b w=b.events[w.toNat]:=bc (by omega)
  have hlw:s1.waits.length=ws.length+1:=by rw [hws]; rfl
  simp (disch:=omega) [hlw,e0,hg,hwr,hvr]
  generalize hH2:GH.put _ _ _=H2
  have hs2:Sub H1 H2:=by subst hH2; exact (Sub.push (.refl H1) _).put (Nat.le_refl _) _
  have hb2:H2.get H1.next=some (.arr { cells:=jb (db b w),ty:=57 }):=by subst hH2; rw [hev]; simp
  have hl2:H1.next<H2.next:=by subst hH2; simp
  clear hH2
  have h2:=h1.sub hs2
  rw [←hev]
  refine (z7 h2 (db b w).system (db b w).units).mono ?_
  rintro x H3 ⟨rfl,hk3⟩
  have h3:=h2.step hk3
  simp (disch:=omega) [e0]
  refine (acr h3 (by have:=hw1.len; omega)).mono ?_
  rintro x H4 ⟨rfl,hk4⟩
  have h4:=h3.step hk4
  have hknl:=h1.kl.2
  have hne:H1.next≠kn:=by omega
  have hl3:=hk3.next
  have hl4:=hk4.next
  have hb3:=(hk3.same _ hl2 hne).trans hb2
  have hb4:=(hk4.same _ (by omega) hne).trans hb3
  have hf4:Frm O1 O1 H1 H4:=by
   have:=ap.kstep ⟨_,_,_,_,_,_,h1,hO⟩ ((KnStep.of_sub hs2 h1.kl.2 h1.kno).trans (hk3.trans hk4))
   exact this.2
  simp
  refine ck (fun h5=>?_) (fun h5=>?_)<;>(try simp only [decide_eq_true_eq,decide_eq_false_iff_not] at h5)
  ·simp
   refine ⟨O1,hf.trans hf4,?_⟩
   have:serve b s=s1:=by rw [←hsv,hlw]; simp only [gu,hws]; rw [if_pos h5]
   rw [this]
   exact ⟨_,_,_,_,_,_,h4,hO⟩
  ·simp (disch:=omega) [e0,hb4]
   refine (abl ⟨_,_,_,_,_,_,h4,hO⟩ (by have:=hw1.len; omega) (by have:=hw1.len; have:=hw1.last; omega) _ _ _ _).mono ?_
   rintro x H5 ⟨rfl,O5,hf5,h5'⟩
   obtain ⟨vl5,vo5,vg5,va5,vw5,vf5,h6,hO5⟩:=h5'
   have hg6:=h6.g
   have hw6:=h6.waits
   have hsl6:=h6.sgl.2
   obtain ⟨a6,f6,rfl⟩:=hw6.slice
   have hlw6:(ek s1 (db b w).person (-1) (db b w).system (db b w).units).waits=w::ws:=hws
   rw [hlw6] at hw6
   cases a6 with
   |none=>
    obtain ⟨_,_,h7,h8⟩:=hw6.elems (fun _=>rfl)
    cases h7
    have:=h8.nil rfl
    cases this
   |some a6=>
   obtain ⟨hfl,_,ht6⟩:=hw6.tail (fun _=>rfl)
   subst hfl
   simp (disch:=omega) [e0,hg6,hlw6]
   have c1:(1:Int)≤(ws.length:Int)+1:=by omega
   simp (disch:=omega) [e0,hg6,hlw6,c1]
   have hS6:=h6.upd_waits (x:=ws) (Nat.le_refl _) ht6 (fun k hk hne=>rfl) (fun k hk=>.inl (by simpa [hlw6] using hk))
   simp only [bq,List.cons_append,List.nil_append,List.length_cons,Nat.add_sub_cancel] at hS6
   have hfin:=ap.of h6 hO5 hS6 (by simp) (fun k hk ho=>by
    have ho':=ho
    rw [hO5] at ho'
    rw [GH.get_put_ne _ _ (fun hc=>ho' (.inl hc))]) (fun k hk=>.inl hk) (fun k hk=>.inl hk) (fun k hk=>.inl hk) (fun k hk=>.inl hk) (fun k hk=>.inl (by simpa [hlw6] using hk)) (fun k hk=>.inl hk)
   obtain ⟨O7,hf7,h7⟩:=hfin
   have hlt:mr b s1≥ct b.tbl (db b w).system (db b w).units:=by omega
   refine ⟨ws.length,by omega,_,rfl,O7,((hf.trans hf4).trans hf5).trans hf7,h7,?_,?_⟩
   ·rw [←hsv,hlw]
    simp only [gu,hws]
    rw [if_neg h5]
   ·refine ⟨fun n hn=>hw1.w n (by rw [hws]; exact List.mem_cons_of_mem _ hn),?_,?_,hw1.own,hw1.ev,?_⟩
    ·have:=hw1.len
     simp [ek]; omega
    ·have:=hw1.last
     simp [ek]; omega
    ·have:=hw1.fe
     simpa [ek] using this
end Go.Gm.Tryz
end
section
namespace Go.Gm
theorem bg.blk_some {α:Type} {H:GH} {N:Nat} {ty:TypeId} {sz:Nat} {enc:α→List Value} {l:List α} {a:Addr} {n fl:Nat} (h:bg H N (.slice (some a) n fl) ty sz enc l):ak (.slice (some a) n fl)=some a.block:=by
 rcases h with ⟨_,h⟩|⟨g,ver,szs,pre,h0,_,_,h,_⟩
 ·cases h
 ·cases h; simp [h0]
end Go.Gm
namespace Go.Gm.Tryz
open Go.Proofs
def endG (s:Stand) (g:Nat) (day:Int):Stand:= { s with grants:=s.grants.set g { s.grants.getD g default with is:=3,person:= -1 },fell:=s.fell++ [((g:Int),day)] }
def endS (b:Book) (s:Stand) (g:Nat) (day:Int):Stand:=serve b (endG s g day)
theorem nm {α:Type} {p:α→Bool} {l:List α} {i:Nat} {y:α} (hi:i<l.length):(l.set i y).countP p+(if p l[i] then 1 else 0)=l.countP p+(if p y then 1 else 0):=by
 induction l generalizing i with
 |nil=>simp at hi
 |cons x l ih=>
  cases i with
  |zero=>simp only [List.set_cons_zero,List.countP_cons,List.getElem_cons_zero]; omega
  |succ i=>
   have:=ih (by simpa using hi)
   simp only [List.set_cons_succ,List.countP_cons,List.getElem_cons_succ]; omega
theorem af8 {b:Book} {s:Stand} {g:Nat} (h:Wf b s) (hgl:g<s.grants.length) (hg3:(s.grants[g]).is≠3) (day:Int):Wf b (endG s g day):=by
 refine ⟨h.w,by simpa [endG] using h.len,by simpa [endG] using h.last,h.own,h.ev,?_⟩
 have h1:=h.fe
 have h2:=nm (p:=fun x:GSt=>decide (x.is=3)) (y:= { s.grants[g] with is:=3,person:= -1 }) hgl
 have hge:s.grants.getD g default=s.grants[g]:=bc hgl
 simp [hg3] at h2
 simp only [endG,hge,List.length_append,List.length_cons,List.length_nil]
 omega
theorem abp {b:Book} {s:Stand} {g:Nat} (h:Wf b s) (hgl:g<s.grants.length) (hg3:(s.grants[g]).is≠3) (day:Int):Wf b (endS b s g day):=adl (af8 h hgl hg3 day)
theorem acn {b:Book} {s:Stand} {g:Nat} (hgl:g<s.grants.length) (hg2:(s.grants[g]).is=2) (day:Int):k9 (endS b s g day)+1=k9 s:=by
 unfold endS
 rw [ajw]
 have h2:=nm (p:=fun x:GSt=>decide (x.is=2)) (y:= { s.grants[g] with is:=3,person:= -1 }) hgl
 have hge:s.grants.getD g default=s.grants[g]:=bc hgl
 simp [hg2] at h2
 simp only [k9,endG,hge]
 omega
theorem aif {H:GH} {N:Nat} {l:BLoc} {b:Book} {sg kn:Nat} {s:Stand} {O:Nat→Prop} (h:ap H N l b sg kn s O) (hw:Wf b s) (g:Nat) (hgl:g<s.grants.length) (hge3:(s.grants[g]).is≠3) (day:Int):
  ay Tryz.prog 180 [.pointer (some (ga sg 0 0)),vi g,vi day] H fun x H'=>x=.ret (.tuple #[])∧∃O',Frm O O' H H'∧ap H' N l b sg kn (endS b s g day) O':=by
 rcases l with ⟨⟨⟨ra,rf⟩⟩,⟨oa,of'⟩,⟨va',vf'⟩⟩
 obtain ⟨vl,vo,vg,va,vw,vf,h,hO⟩:=h
 refine an tok mix ass (F:=axo) (c:=_) rfl (n:=34) rfl (rs:= []) rfl ?_
 have hg:=h.g
 have hsl:=h.sgl.2
 have hsN:=h.sgl.1
 have hlf:=h.fell.len
 have hfe:s.fell.length≤1000:=by have:=hw.fe; have:=hw.len; have:=List.countP_le_length (p:=fun x:GSt=>decide (x.is=3)) (l:=s.grants); omega
 obtain ⟨ag,fg,rfl,hE⟩:=h.grants.elems (fun _=>rfl)
 obtain ⟨ag,rfl,hgb,_⟩:=hE.at g hgl
 have hge:s.grants.getD g default=s.grants[g]:=bc hgl
 have hbk:=h.grants.blk_some
 have hbgs:ag.block≠sg:=fun hc=>h.sg_ne h.grants (by decide) (by rw [hbk,hc])
 obtain ⟨H1,hw1,ho1,hn1,hs1⟩:=h.grants.wr (fun _=>rfl) (i:=g) (k:=0) hgl (c:=vi 3) (new:= []) (by simp) (y:= { s.grants[g] with is:=3 }) (by simp [splice])
 have hE2:=ho1.elems' (fun _=>rfl)
 obtain ⟨H2,hw2,ho2,hn2,hs2⟩:=ho1.wr (fun _=>rfl) (i:=g) (k:=1) (by simpa using hgl) (c:=vi (-1)) (new:= []) (by simp) (y:= { s.grants[g] with is:=3,person:= -1 }) (by simp [splice])
 have hg1:=(hs1 sg (Ne.symm hbgs)).trans hg
 have hg2:=(hs2 sg (Ne.symm hbgs)).trans hg1
 have hlt:(g:Int)<s.grants.length:=by omega
 have hS1:=h.wr_grants (H1:=H2) (by omega) ho2 (fun k hk hne=>by
  have hka:k≠ag.block:=fun hc=>hne (by rw [hbk,hc])
  rw [hs2 k hka,hs1 k hka])
 obtain ⟨vf',H3,happ,ho3,hn3,hf3,hb3⟩:=(hS1.fell.push (.arr { cells:= [vi g,vi day],ty:=128 })).app (by simp) (by simp) (by decide) ((g:Int),day) (by simp; omega)
 simp only [a15] at happ
 have d8:16*(1+s.fell.length)≤1000000:=by omega
 have d9:1+s.fell.length≤1000000:=by omega
 have hsl2:=hS1.sgl.2
 simp only [GH.next_push] at hn3
 have hg3:=(hf3 sg (by simp; omega) (hS1.sg_ne hS1.fell (by decide))).trans ((GH.get_push_lt _ _ hsl2).trans hS1.g)
 obtain ⟨af,ff,rfl⟩:=ho3.slice
 simp (disch:=omega) [hg,hw1,hw2,hg2,hlf,d8,d9,happ,hg3]
 have hS2:=hS1.upd_fell (by omega) ho3 (fun k hk hne=>by rw [hf3 k (by simp; omega) hne,GH.get_push_lt _ _ hk]) (fun k hk=>(hb3 k hk).imp id fun h=>by simp at h; omega)
 simp only [bq,List.cons_append,List.nil_append,List.length_append,List.length_cons,List.length_nil,Nat.zero_add] at hS2 hb3
 have hfin:=ap.of h hO hS2 (by simp; omega) (fun k hk ho=>by
  have ho':=ho
  rw [hO] at ho'
  have hka:k≠ag.block:=fun hc=>ho' (.inr (.inr (.inr (.inr (.inl (by rw [hbk,hc]))))))
  rw [GH.get_put_ne _ _ (fun hc=>ho' (.inl hc)),hf3 k (by simp; omega) (fun hc=>ho' (.inr (.inr (.inr (.inr (.inr (.inr (.inr hc)))))))),GH.get_push_lt _ _ (by omega),hs2 k hka,hs1 k hka])
  (fun k hk=>.inl hk) (fun k hk=>.inl hk) (fun k hk=>.inl hk) (fun k hk=>.inl hk) (fun k hk=>.inl hk) (fun k hk=>(hb3 k hk).imp id fun h=>by simp at h; omega)
 obtain ⟨O4,hf4,h4⟩:=hfin
 have he:({ s with grants:=s.grants.set g { s.grants[g] with is:=3,person:= -1 },fell:=s.fell++ [((g:Int),day)] }:Stand)=endG s g day:=by unfold endG; rw [hge]
 have hset:(s.grants.set g { s.grants[g] with is:=3 }).set g { s.grants[g] with is:=3,person:= -1 }=s.grants.set g { s.grants[g] with is:=3,person:= -1 }:=by simp
 simp only [hset] at h4
 change ap _ N _ b sg kn { s with grants:=s.grants.set g { s.grants[g] with is:=3,person:= -1 },fell:=s.fell++ [((g:Int),day)] } O4 at h4
 rw [he] at h4
 refine (afo h4 (af8 hw hgl hge3 day)).mono ?_
 rintro x H5 ⟨rfl,O5,hf5,h5⟩
 simp
 exact ⟨O5,hf4.trans hf5,h5⟩
def ke {α:Type} (f:α→α) (l:List α) (i:Nat):List α:=(l.take i).map f++l.drop i
theorem kj {α:Type} (f:α→α) (l:List α):ke f l 0=l:=by simp [ke]
theorem p6 {α:Type} (f:α→α) (l:List α):ke f l l.length=l.map f:=by simp [ke]
theorem iy {α:Type} (f:α→α) (l:List α) (i:Nat):(ke f l i).length=l.length:=by simp [ke]; omega
theorem iv {α:Type} (f:α→α) {l:List α} {i:Nat} (hi:i<l.length):(ke f l i)[i]'(by rw [iy]; exact hi)=l[i]:=by
 unfold ke
 rw [List.getElem_append_right (by simp; omega)]
 simp only [List.getElem_drop,List.length_map,List.length_take]
 congr 1; omega
theorem ng {α:Type} (f:α→α) {l:List α} {i:Nat} (hi:i<l.length):ke f l (i+1)=(ke f l i).set i (f l[i]):=by
 unfold ke
 have:((l.take i).map f).length=i:=by simp; omega
 rw [List.set_append_right _ _ (by omega),this,Nat.sub_self,List.drop_eq_getElem_cons hi,List.set_cons_zero,List.take_succ_eq_append_getElem hi,List.map_append,List.append_assoc]
 rfl
def jz (s:Stand) (n:Nat) (p:Int):Stand:= { s with owners:=s.owners.set n p,grants:=s.grants.map fun x=>if x.estate=(n:Int) then { x with person:=p } else x }
theorem ayn {H:GH} {N:Nat} {l:BLoc} {b:Book} {sg kn:Nat} {s:Stand} {O:Nat→Prop} (h:ap H N l b sg kn s O) (hlen:s.grants.length≤1000) (n:Nat) (hn:n<s.owners.length) (p:Int):
  ay Tryz.prog 253 [.pointer (some (ga sg 0 0)),vi n,vi p] H fun x H'=>x=.ret (.tuple #[])∧∃O',Frm O O' H H'∧ap H' N l b sg kn (jz s n p) O':=by
 rcases l with ⟨⟨⟨ra,rf⟩⟩,⟨oa,of'⟩,⟨va',vf'⟩⟩
 have hOl:=fun g hg=>(h.lt g hg).2
 obtain ⟨vl,vo,vg,va,vw,vf,h,hO⟩:=h
 refine an tok mix ak9 (F:=axu) (c:=_) rfl (n:=38) rfl (rs:= []) rfl ?_
 have hg:=h.g
 have hsl:=h.sgl.2
 obtain ⟨ao,fo,rfl,hE⟩:=h.owners.elems (fun _=>rfl)
 obtain ⟨ao,rfl,hob,_⟩:=hE.at n hn
 obtain ⟨ag,fg,rfl,hEg⟩:=h.grants.elems (fun _=>rfl)
 have hbk:=h.owners.blk_some
 obtain ⟨H1,hw1,ho1,hn1,hs1⟩:=h.owners.wr (fun _=>rfl) (i:=n) (k:=0) hn (c:=vi p) (new:= []) (by simp) (y:=p) (by simp [splice])
 have hbgs:ao.block≠sg:=fun hc=>h.sg_ne h.owners (by decide) (by rw [hbk,hc])
 have hg1:=(hs1 sg (Ne.symm hbgs)).trans hg
 have hlt:(n:Int)<s.owners.length:=by omega
 simp (disch:=omega) [hg,hw1,hg1]
 have hS1:=h.wr_owners (H1:=H1) (by omega) ho1 (fun k hk hne=>hs1 k fun hc=>hne (by rw [hbk,hc]))
 refine cv tok mix (by kernel_rfl) s.grants.length (fun i ρ m H2=>ρ 0=.pointer (some (ga sg 0 0))∧ρ 1=vi n∧ρ 2=vi p∧ρ 18=.slice ag s.grants.length fg∧ρ 19=vi s.grants.length∧ρ 20=vi i∧m= []∧H.next≤H2.next∧(∀g,g<H.next→¬O g→H2.get g=H.get g)∧
  StIn H2 N ⟨⟨⟨ra,rf⟩⟩,⟨oa,of'⟩,⟨va',vf'⟩⟩ b sg kn { s with owners:=s.owners.set n p,grants:=ke (fun x=>if x.estate=(n:Int) then { x with person:=p } else x) s.grants i } vl (.slice (some ao) s.owners.length fo) (.slice ag s.grants.length fg) va vw vf) (i0:=0) (by omega)
  ⟨by simp,by simp,by simp,by simp,by simp,by simp,rfl,by omega,fun g hg ho=>hs1 g fun hc=>ho ((hO g).2 (.inr (.inr (.inr (.inl (by rw [hbk,hc])))))),by simpa [kj] using hS1⟩ ?_
 rintro i ρ m H2 hi ⟨e0,e1,e2,e18,e19,e20,rfl,hn2,hs2,h2⟩
 have hg2:=h2.g
 simp [e19,e20]
 refine ba (fun hlt2=>?_) (fun hge=>?_)
 ·obtain ⟨a2,rfl,hab,hrd⟩:=(h2.grants.elems' (fun _=>rfl)).at i (by rw [iy]; exact hlt2)
  rw [iv _ hlt2] at hrd
  have hltI:(i:Int)<s.grants.length:=by omega
  have hbk2:=h2.grants.blk_some
  simp (disch:=omega) [e1,e18,e20,hrd]
  have hsu:=ng (fun x:GSt=>if x.estate=(n:Int) then { x with person:=p } else x) hlt2
  generalize hH3:GH.put _ _ _=H3
  have hs3:Sub H2 H3:=by subst hH3; exact (Sub.push (.refl H2) _).put (Nat.le_refl _) _
  have hb3:H3.get H2.next=some (.arr { cells:=kg s.grants[i],ty:=53 }):=by subst hH3; simp
  have hl3:H2.next<H3.next:=by subst hH3; simp
  clear hH3
  have h3:=h2.sub hs3
  have hg3:=h3.g
  have hsl3:=h3.sgl.2
  have hs23:∀g,g<H.next→¬O g→H3.get g=H.get g:=fun g hg ho=>by rw [hs3.2 g (by omega),hs2 g hg ho]
  try simp (disch:=omega) [hb3,e1]
  refine ck (fun h5=>?_) (fun h5=>?_)<;>(try simp only [decide_eq_true_eq,decide_eq_false_iff_not] at h5)
  ·obtain ⟨H4,hw4,ho4,hn4,hs4⟩:=h3.grants.wr (fun _=>rfl) (i:=i) (k:=1) (by rw [iy]; exact hlt2) (c:=vi p) (new:= []) (by simp) (y:= { s.grants[i] with person:=p }) (by rw [iv _ hlt2]; simp [splice])
   simp (disch:=omega) [e0,e2,hg3,hw4]
   have h4:=h3.wr_grants (H1:=H4) (by omega) ho4 (fun k hk hne=>hs4 k fun hc=>hne (by rw [hbk2,hc]))
   simp (disch:=omega) [e0,e1,e2,e18,e19,e20,hlt2,aj]
   refine ⟨by omega,fun g hg ho=>?_,?_⟩
   ·rw [hs4 g fun hc=>ho ((hO g).2 (.inr (.inr (.inr (.inr (.inl (by rw [hbk2,hc])))))))]
    exact hs23 g hg ho
   ·rw [hsu,if_pos h5]; exact h4
  ·simp (disch:=omega) [e0,e1,e2,e18,e19,e20,hlt2,aj]
   refine ⟨by omega,hs23,?_⟩
   rw [hsu,if_neg h5]
   have:(ke (fun x:GSt=>if x.estate=(n:Int) then { x with person:=p } else x) s.grants i).set i s.grants[i]=ke (fun x:GSt=>if x.estate=(n:Int) then { x with person:=p } else x) s.grants i:=by
    conv=>lhs; rw [←iv (fun x:GSt=>if x.estate=(n:Int) then { x with person:=p } else x) hlt2]
    exact List.set_getElem_self _
   rw [this]; exact h3
 ·have:i=s.grants.length:=by omega
  subst this
  rw [p6] at h2
  simp
  exact ap.of h hO h2 hn2 hs2 (fun k hk=>.inl hk) (fun k hk=>.inl hk) (fun k hk=>.inl hk) (fun k hk=>.inl hk) (fun k hk=>.inl hk) (fun k hk=>.inl hk)
end Go.Gm.Tryz
end
section
namespace Go.Gm.Tryz
open Go.Proofs
def bl (s:Stand) (n:Int):Int:=s.last.getD n.toNat 0
def cb (s:Stand) (day:Int) (at_:Int) (g:Nat):Int:=
 if (s.grants.getD g default).is≠2∨day≤bl s g then at_ else if at_<0∨bl s g<bl s at_ then g else at_
def lm (s:Stand) (day:Int):Int:=(List.range s.grants.length).foldl (cb s day) (-1)
def lj (b:Book) (day:Int):Nat→Stand→Stand
 |0,s=>s
 |n+1,s=>if lm s day<0 then s else lj b day n (endS b s (lm s day).toNat (IntKind.i64.wrap (bl s (lm s day)+1)))
def pass (b:Book) (s:Stand) (day:Int):Stand:=lj b day (k9 s) s
theorem y9 (s:Stand) (day:Int) (i:Nat) (hi:i≤s.grants.length): -1≤(List.range i).foldl (cb s day) (-1)∧((List.range i).foldl (cb s day) (-1))<i∧
  (0≤(List.range i).foldl (cb s day) (-1)→(s.grants.getD ((List.range i).foldl (cb s day) (-1)).toNat default).is=2):=by
 induction i with
 |zero=>simp
 |succ i ih=>
  obtain ⟨h1,h2,h3⟩:=ih (by omega)
  rw [List.range_succ,List.foldl_append]
  simp only [List.foldl_cons,List.foldl_nil]
  generalize (List.range i).foldl (cb s day) (-1)=a at h1 h2 h3
  unfold cb
  by_cases c1:(s.grants.getD i default).is≠2∨day≤bl s i
  ·rw [if_pos c1]; exact ⟨h1,by omega,h3⟩
  ·rw [if_neg c1]
   by_cases c2:a<0∨bl s i<bl s a
   ·rw [if_pos c2]
    refine ⟨by omega,by omega,fun _=>?_⟩
    have:¬(s.grants.getD i default).is≠2:=fun h=>c1 (.inl h)
    simpa using this
   ·rw [if_neg c2]; exact ⟨h1,by omega,h3⟩
theorem ae5 (s:Stand) (day:Int): -1≤lm s day∧lm s day<s.grants.length∧(0≤lm s day→(s.grants.getD (lm s day).toNat default).is=2):=y9 s day _ (Nat.le_refl _)
theorem aux {b:Book} {day:Int}:∀ {n:Nat} {s:Stand},Wf b s→Wf b (lj b day n s):=by
 intro n
 induction n with
 |zero=>intro s h; exact h
 |succ n ih=>
  intro s h
  simp only [lj]
  split
  ·exact h
  ·rename_i hge
   obtain ⟨h1,h2,h3⟩:=ae5 s day
   refine ih (abp h (by omega) ?_ _)
   have:=h3 (by omega)
   rw [bc (by omega)] at this
   rw [this]; decide
theorem qr {b:Book} {s:Stand} {day:Int} (h:Wf b s):Wf b (pass b s day):=aux h
theorem ac8 {H:GH} {N:Nat} {l:BLoc} {b:Book} {sg kn:Nat} {s:Stand} {O:Nat→Prop} (h:ap H N l b sg kn s O) (hw:Wf b s) (day:Int):
  ay Tryz.prog 138 [.pointer (some (ga sg 0 0)),vi day] H fun x H'=>x=.ret (.tuple #[])∧∃O',Frm O O' H H'∧ap H' N l b sg kn (pass b s day) O':=by
 rcases l with ⟨⟨⟨ra,rf⟩⟩,⟨oa,of'⟩,⟨va',vf'⟩⟩
 refine an tok mix arx (F:=axg) (c:=_) rfl (n:=65) rfl (rs:= []) rfl ?_
 simp
 refine pb tok mix (by kernel_rfl) (fun k ρ m H1=>∃s1 O1,k=k9 s1∧ρ 0=.pointer (some (ga sg 0 0))∧ρ 1=vi day∧m= []∧Frm O O1 H H1∧ap H1 N ⟨⟨⟨ra,rf⟩⟩,⟨oa,of'⟩,⟨va',vf'⟩⟩ b sg kn s1 O1∧lj b day k s1=pass b s day∧Wf b s1) ⟨s,O,rfl,by simp,by simp,rfl,Frm.refl (fun g hg=>(h.lt g hg).2),h,rfl,hw⟩ ?_
 rintro k ρ m H1 ⟨s1,O1,rfl,e0,e1,rfl,hf,h1,hps,hw1⟩
 have h1':=h1
 obtain ⟨vl,vo,vg,va,vw,vf,h1,hO⟩:=h1
 have hg:=h1.g
 obtain ⟨ag,fg,rfl,hEg⟩:=h1.grants.elems (fun _=>rfl)
 obtain ⟨al,fl,rfl,hEl⟩:=h1.last.elems (fun _=>rfl)
 have hlen:=hw1.len
 have hlast:=hw1.last
 simp (disch:=omega) [e0,hg]
 refine cv tok mix (by kernel_rfl) s1.grants.length (fun i ρ m H2=>ρ 0=.pointer (some (ga sg 0 0))∧ρ 1=vi day∧ρ 10=.slice ag s1.grants.length fg∧ρ 11=vi s1.grants.length∧ρ 12=vi i∧ρ 4=vi ((List.range i).foldl (cb s1 day) (-1))∧m= []∧Sub H1 H2) (i0:=0) (by omega) (by simp [e0,e1]) ?_
 rintro i ρ m H2 hi ⟨f0,f1,f10,f11,f12,f4,rfl,hs2⟩
 have h2:=h1.sub hs2
 have hg2:=h2.g
 have hsl2:=h2.sgl.2
 obtain ⟨p1,p2,p3⟩:=y9 s1 day i hi
 have psucc:(List.range (i+1)).foldl (cb s1 day) (-1)=cb s1 day ((List.range i).foldl (cb s1 day) (-1)) i:=by rw [List.range_succ,List.foldl_append]; rfl
 generalize hat:(List.range i).foldl (cb s1 day) (-1)=at_ at f4 p1 p2 p3 psucc
 simp [f11,f12]
 refine ba (fun hlt=>?_) (fun hge=>?_)
 ·obtain ⟨a2,rfl,hab,hrd⟩:=(hEg.mono hs2).at i hlt
  obtain ⟨a3,rfl,hlb,hlr⟩:=(hEl.mono hs2).at i (by omega)
  have hltI:(i:Int)<s1.grants.length:=by omega
  have hltL:(i:Int)<s1.last.length:=by omega
  have hgi:s1.grants.getD i default=s1.grants[i]:=bc hlt
  have hli:bl s1 i=s1.last[i]'(by omega):=by unfold bl; rw [Int.toNat_natCast]; exact bc (by omega)
  simp (disch:=omega) [f10,f12,hrd]
  refine bh (fun h2=>?_) (fun h2=>?_)<;>(try simp only [decide_eq_true_eq,decide_eq_false_iff_not] at h2)
  ·simp (disch:=omega) [f0,f1,hg2,hlr,h2]
   refine ba (fun h3=>?_) (fun h3=>?_)
   ·simp (disch:=omega) [f0,f1,f10,f11,f12,f4,aj]
    refine ⟨hlt,?_,(hs2.push _).put (by have:=hs2.1; omega) _⟩
    rw [psucc]; unfold cb; rw [if_pos (.inr (by rw [hli]; exact h3))]
   ·simp [f4]
    refine bi (fun h4=>?_) (fun h4=>?_)<;>(try simp only [Bool.not_eq_true',Bool.not_eq_false',decide_eq_true_eq,decide_eq_false_iff_not] at h4)
    ·obtain ⟨j,rfl⟩:=Int.eq_ofNat_of_zero_le (show 0≤at_ by omega)
     have hjL:j<s1.last.length:=by omega
     have hj0:¬((j:Int)<0):=by omega
     have hjI:(j:Int)<s1.last.length:=by omega
     obtain ⟨a4,ha4,hjb,hjr⟩:=(hEl.mono hs2).at j hjL
     cases ha4
     have hlj:bl s1 j=s1.last[j]:=by unfold bl; rw [Int.toNat_natCast]; exact bc hjL
     simp (disch:=omega) [f0,f4,hg2,hlr,hjr,h4]
     refine ba (fun h5=>?_) (fun h5=>?_)
     ·simp (disch:=omega) [f0,f1,f10,f11,f12,aj]
      refine ⟨hlt,?_,(hs2.push _).put (by have:=hs2.1; omega) _⟩
      rw [psucc]; unfold cb; rw [if_neg (by rw [hgi,hli]; simp only [h2]; omega),if_pos (.inr (by rw [hli,hlj]; exact h5))]
     ·simp (disch:=omega) [f0,f1,f10,f11,f12,f4,aj]
      refine ⟨hlt,?_,(hs2.push _).put (by have:=hs2.1; omega) _⟩
      rw [psucc]; unfold cb; rw [if_neg (by rw [hgi,hli]; simp only [h2]; omega),if_neg (by rw [hli,hlj]; omega)]
    ·simp (disch:=omega) [f0,f1,f10,f11,f12,aj,h4]
     refine ⟨hlt,?_,(hs2.push _).put (by have:=hs2.1; omega) _⟩
     rw [psucc]; unfold cb; rw [if_neg (by rw [hgi,hli]; simp only [h2]; omega),if_pos (.inl h4)]
  ·simp (disch:=omega) [f0,f1,f10,f11,f12,f4,aj,h2]
   refine ⟨hlt,?_,(hs2.push _).put (by have:=hs2.1; omega) _⟩
   rw [psucc]; unfold cb; rw [if_pos (.inl (by rw [hgi]; exact h2))]
 ·have:i=s1.grants.length:=by omega
  subst this
  have hfa:lm s1 day=at_:=hat
  have hfr:Frm O O1 H H2:=hf.trans (h1'.sub hs2).2
  have h2':ap H2 N ⟨⟨⟨ra,rf⟩⟩,⟨oa,of'⟩,⟨va',vf'⟩⟩ b sg kn s1 O1:=(h1'.sub hs2).1
  simp [f4]
  refine ba (fun h4=>?_) (fun h4=>?_)
  ·simp
   refine ⟨O1,hfr,?_⟩
   have:lj b day (k9 s1) s1=s1:=by
    cases k9 s1 with
    |zero=>rfl
    |succ n=>simp only [lj]; rw [if_pos (by omega)]
   rw [←hps,this]; exact h2'
  ·obtain ⟨j,rfl⟩:=Int.eq_ofNat_of_zero_le (show 0≤at_ by omega)
   have hjL:j<s1.last.length:=by omega
   have hjG:j<s1.grants.length:=by omega
   have hjI:(j:Int)<s1.last.length:=by omega
   obtain ⟨a4,rfl,hjb,hjr⟩:=(hEl.mono hs2).at j hjL
   have hlj:bl s1 j=s1.last[j]:=by unfold bl; rw [Int.toNat_natCast]; exact bc hjL
   have hj2:(s1.grants[j]).is=2:=by have:=p3 (by omega); rwa [Int.toNat_natCast,bc hjG] at this
   have hop:=acn (b:=b) hjG hj2 (IntKind.i64.wrap (bl s1 j+1))
   have hps2:lj b day (k9 (endS b s1 j (IntKind.i64.wrap (bl s1 j+1)))) (endS b s1 j (IntKind.i64.wrap (bl s1 j+1)))=pass b s day:=by
    rw [←hps,←hop]; simp only [lj]; rw [hfa,if_neg (by omega)]; rfl
   have hw2:=abp (b:=b) hw1 hjG (by rw [hj2]; decide) (IntKind.i64.wrap (bl s1 j+1))
   simp (disch:=omega) [f0,f4,hg2,hjr]
   rw [←hlj]
   refine (aif h2' hw1 j hjG (by rw [hj2]; decide) _).mono ?_
   rintro x H5 ⟨rfl,O5,hf5,h5⟩
   simp [f0,f1]
   exact ⟨k9 (endS b s1 j (IntKind.i64.wrap (bl s1 j+1))),by omega,endS b s1 j (IntKind.i64.wrap (bl s1 j+1)),rfl,O5,hfr.trans hf5,h5,hps2,hw2⟩
end Go.Gm.Tryz
end
end
