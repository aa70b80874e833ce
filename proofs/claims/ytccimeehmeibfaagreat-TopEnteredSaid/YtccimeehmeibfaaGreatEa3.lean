/- Part 3 of the proof: GmTryz, GmTryzOk, Gc1, Gc2, Gc3, Gc4, GmOwn, Gc5, Gc6, GmIter, Gc7, GmIter2, Gc8, Gc9, Gc10, Gc11, Gc12, Gc13, Gc14. -/
import Derived.Test.YtccimeehmeibfaaGreatEa2
import Derived.Test.YtccimeehmeibfaaGreatProg
import Derived.KernelRfl
noncomputable section
section
namespace Go.Gm.Tryz
open Go.Proofs
def zeros (n:Nat):List Value:=List.replicate n (.int .i64 0)
def r1:TRow:= { size:=1,bytes:=8,zero:= [.nilFunc],agg:=false,kind:=.other }
def r2:TRow:= { size:=1,bytes:=8,zero:= [.int .i64 0],agg:=false,kind:=(.int .i64) }
def r3:TRow:= { size:=1,bytes:=8,zero:= [.int .i64 0],agg:=false,kind:=(.int .i64) }
def r4:TRow:= { size:=1,bytes:=1,zero:= [.bool false],agg:=false,kind:=.bool }
def r5:TRow:= { size:=1,bytes:=1,zero:= [.int .u8 0],agg:=false,kind:=(.int .u8) }
def r6:TRow:= { size:=1,bytes:=1,zero:= [.int .u8 0],agg:=false,kind:=(.int .u8) }
def r7:TRow:= { size:=4,bytes:=24,zero:= [.int .i64 0,.int .i64 0,.bool false,.int .u8 0],agg:=true,kind:=(.struct [(0,2),(1,3),(2,4),(3,6)]),flat:=some [(.int .i64),(.int .i64),.bool,(.int .u8)],key:=true }
def r8:TRow:= { size:=4,bytes:=24,zero:= [.int .i64 0,.int .i64 0,.bool false,.int .u8 0],agg:=true,kind:=(.struct [(0,2),(1,3),(2,4),(3,6)]),flat:=some [(.int .i64),(.int .i64),.bool,(.int .u8)],key:=true,meths:= [("Error",274),("RuntimeError",275)] }
def r9:TRow:= { size:=1,bytes:=16,zero:= [.string ⟨#[]⟩],agg:=false,kind:=.str }
def r10:TRow:= { size:=1,bytes:=16,zero:= [.string ⟨#[]⟩],agg:=false,kind:=.str,meths:= [("Error",276),("RuntimeError",277)] }
def r11:TRow:= { size:=1,bytes:=16,zero:= [.string ⟨#[]⟩],agg:=false,kind:=.str,meths:= [("Error",278),("RuntimeError",279)] }
def r12:TRow:= { size:=1,bytes:=8,zero:= [.int .u64 0],agg:=false,kind:=(.int .u64) }
def r13:TRow:= { size:=2,bytes:=24,zero:= [.string ⟨#[]⟩,.int .u64 0],agg:=true,kind:=(.struct [(0,9),(1,12)]) }
def r14:TRow:= { size:=2,bytes:=24,zero:= [.string ⟨#[]⟩,.int .u64 0],agg:=true,kind:=(.struct [(0,9),(1,12)]),meths:= [("Error",280),("RuntimeError",281)] }
def r15:TRow:= { size:=1,bytes:=8,zero:= [.pointer none],agg:=false,kind:=(.ptr 385),meths:= [("Error",282),("RuntimeError",283)] }
def r16:TRow:= { size:=1,bytes:=8,zero:= [.pointer none],agg:=false,kind:=(.ptr 388),meths:= [("Error",284),("RuntimeError",285)] }
def r17:TRow:= { size:=1,bytes:=8,zero:= [.pointer none],agg:=false,kind:=(.ptr 396),meths:= [("Align",286)] }
def r18:TRow:= { size:=1,bytes:=8,zero:= [.pointer none],agg:=true,kind:=(.struct [(0,17)]) }
def r19:TRow:= { size:=1,bytes:=8,zero:= [.pointer none],agg:=true,kind:=(.struct [(0,17)]),meths:= [("Error",287),("RuntimeError",288)] }
def r20:TRow:= { size:=1,bytes:=16,zero:= [.nilIface],agg:=false,kind:=(.iface false) }
def r21:TRow:= { size:=1,bytes:=4,zero:= [.int .i32 0],agg:=false,kind:=(.int .i32) }
def r22:TRow:= { size:=1,bytes:=24,zero:= [.slice none 0 0],agg:=false,kind:=(.slice 116) }
def r23:TRow:= { size:=2,bytes:=32,zero:= [.slice none 0 0,.int .i64 0],agg:=true,kind:=(.struct [(0,22),(1,3)]) }
def r24:TRow:= { size:=2,bytes:=32,zero:= [.slice none 0 0,.int .i64 0],agg:=true,kind:=(.struct [(0,22),(1,3)]) }
def r25:TRow:= { size:=1,bytes:=24,zero:= [.slice none 0 0],agg:=false,kind:=(.slice 3) }
def r26:TRow:= { size:=1,bytes:=24,zero:= [.slice none 0 0],agg:=false,kind:=(.slice 54) }
def r27:TRow:= { size:=7,bytes:=104,zero:= [.slice none 0 0,.int .i64 0,.int .i64 0,.int .i64 0,.int .i64 0,.slice none 0 0,.slice none 0 0],agg:=true,kind:=(.struct [(0,24),(2,3),(3,3),(4,3),(5,25),(6,26)]) }
def r28:TRow:= { size:=7,bytes:=104,zero:= [.slice none 0 0,.int .i64 0,.int .i64 0,.int .i64 0,.int .i64 0,.slice none 0 0,.slice none 0 0],agg:=true,kind:=(.struct [(0,24),(2,3),(3,3),(4,3),(5,25),(6,26)]) }
def r29:TRow:= { size:=1,bytes:=8,zero:= [.nilFunc],agg:=false,kind:=.other }
def r30:TRow:= { size:=1,bytes:=8,zero:= [.nilFunc],agg:=false,kind:=.other }
def r31:TRow:= { size:=1,bytes:=24,zero:= [.slice none 0 0],agg:=false,kind:=(.slice 141) }
def r32:TRow:= { size:=1,bytes:=24,zero:= [.slice none 0 0],agg:=false,kind:=(.slice 143) }
def r33:TRow:= { size:=2,bytes:=48,zero:= [.slice none 0 0,.slice none 0 0],agg:=true,kind:=(.struct [(0,31),(1,32)]) }
def r34:TRow:= { size:=2,bytes:=48,zero:= [.slice none 0 0,.slice none 0 0],agg:=true,kind:=(.struct [(0,31),(1,32)]) }
def r35:TRow:= { size:=1,bytes:=24,zero:= [.slice none 0 0],agg:=false,kind:=(.slice 145) }
def r36:TRow:= { size:=5,bytes:=72,zero:= [.slice none 0 0,.int .i64 0,.int .i64 0,.int .i64 0,.slice none 0 0],agg:=true,kind:=(.struct [(0,25),(1,3),(2,3),(3,3),(4,35)]) }
def r37:TRow:= { size:=5,bytes:=72,zero:= [.slice none 0 0,.int .i64 0,.int .i64 0,.int .i64 0,.slice none 0 0],agg:=true,kind:=(.struct [(0,25),(1,3),(2,3),(3,3),(4,35)]) }
def r38:TRow:= { size:=1,bytes:=24,zero:= [.slice none 0 0],agg:=false,kind:=(.slice 147) }
def r39:TRow:= { size:=1,bytes:=24,zero:= [.slice none 0 0],agg:=false,kind:=(.slice 149) }
def r40:TRow:= { size:=3,bytes:=56,zero:= [.int .i64 0,.slice none 0 0,.slice none 0 0],agg:=true,kind:=(.struct [(0,3),(1,38),(2,39)]) }
def r41:TRow:= { size:=3,bytes:=56,zero:= [.int .i64 0,.slice none 0 0,.slice none 0 0],agg:=true,kind:=(.struct [(0,3),(1,38),(2,39)]) }
def r42:TRow:= { size:=18,bytes:=304,zero:= [.slice none 0 0,.int .i64 0,.int .i64 0,.int .i64 0,.int .i64 0,.slice none 0 0,.slice none 0 0,.slice none 0 0,.slice none 0 0,.slice none 0 0,.slice none 0 0,.int .i64 0,.int .i64 0,.int .i64 0,.slice none 0 0,.int .i64 0,.slice none 0 0,.slice none 0 0],agg:=true,kind:=(.struct [(0,28),(7,34),(9,25),(10,37),(15,41)]) }
def r43:TRow:= { size:=18,bytes:=304,zero:= [.slice none 0 0,.int .i64 0,.int .i64 0,.int .i64 0,.int .i64 0,.slice none 0 0,.slice none 0 0,.slice none 0 0,.slice none 0 0,.slice none 0 0,.slice none 0 0,.int .i64 0,.int .i64 0,.int .i64 0,.slice none 0 0,.int .i64 0,.slice none 0 0,.slice none 0 0],agg:=true,kind:=(.struct [(0,28),(7,34),(9,25),(10,37),(15,41)]) }
def r44:TRow:= { size:=1,bytes:=8,zero:= [.nilFunc],agg:=false,kind:=.other }
def r45:TRow:= { size:=1,bytes:=8,zero:= [.int .i64 0],agg:=false,kind:=(.int .i64) }
def r47:TRow:= { size:=1,bytes:=8,zero:= [.nilFunc],agg:=false,kind:=.other }
def r48:TRow:= { size:=1,bytes:=8,zero:= [.pointer none],agg:=false,kind:=(.ptr 95),meths:= [("Ask",12),("Enter",9),("quinaria/curator.now",37),("quinaria/curator.standing",86),("quinaria/curator.stands",34),("quinaria/curator.there",32)] }
def r50:TRow:= { size:=1,bytes:=8,zero:= [.nilFunc],agg:=false,kind:=.other }
def r51:TRow:= { size:=1,bytes:=8,zero:= [.int .i64 0],agg:=false,kind:=(.int .i64) }
def r52:TRow:= { size:=1,bytes:=8,zero:= [.int .i64 0],agg:=false,kind:=(.int .i64) }
def r53:TRow:= { size:=8,bytes:=64,zero:= [.int .i64 0,.int .i64 0,.int .i64 0,.int .i64 0,.int .i64 0,.int .i64 0,.int .i64 0,.int .i64 0],agg:=true,kind:=(.struct [(0,51),(1,3),(2,3),(3,3),(4,3),(5,3),(6,52),(7,3)]),flat:=some [(.int .i64),(.int .i64),(.int .i64),(.int .i64),(.int .i64),(.int .i64),(.int .i64),(.int .i64)],key:=true }
def r54:TRow:= { size:=8,bytes:=64,zero:= [.int .i64 0,.int .i64 0,.int .i64 0,.int .i64 0,.int .i64 0,.int .i64 0,.int .i64 0,.int .i64 0],agg:=true,kind:=(.struct [(0,51),(1,3),(2,3),(3,3),(4,3),(5,3),(6,52),(7,3)]),flat:=some [(.int .i64),(.int .i64),(.int .i64),(.int .i64),(.int .i64),(.int .i64),(.int .i64),(.int .i64)],key:=true }
def r55:TRow:= { size:=1,bytes:=8,zero:= [.nilFunc],agg:=false,kind:=.other }
def r56:TRow:= { size:=1,bytes:=8,zero:= [.int .i64 0],agg:=false,kind:=(.int .i64) }
def r57:TRow:= { size:=2,bytes:=32,zero:= [.int .i64 0,.slice none 0 0],agg:=true,kind:=(.struct [(0,56),(1,25)]) }
def r58:TRow:= { size:=2,bytes:=32,zero:= [.int .i64 0,.slice none 0 0],agg:=true,kind:=(.struct [(0,56),(1,25)]) }
def r59:TRow:= { size:=1,bytes:=8,zero:= [.nilFunc],agg:=false,kind:=.other }
def r61:TRow:= { size:=1,bytes:=8,zero:= [.nilFunc],agg:=false,kind:=.other }
def r63:TRow:= { size:=1,bytes:=8,zero:= [.nilFunc],agg:=false,kind:=.other }
def r64:TRow:= { size:=1,bytes:=8,zero:= [.int .i64 0],agg:=false,kind:=(.int .i64) }
def r65:TRow:= { size:=2,bytes:=32,zero:= [.int .i64 0,.slice none 0 0],agg:=true,kind:=(.struct [(0,64),(1,25)]) }
def r66:TRow:= { size:=2,bytes:=32,zero:= [.int .i64 0,.slice none 0 0],agg:=true,kind:=(.struct [(0,64),(1,25)]) }
def r67:TRow:= { size:=1,bytes:=8,zero:= [.nilFunc],agg:=false,kind:=.other }
def r68:TRow:= { size:=1,bytes:=8,zero:= [.nilFunc],agg:=false,kind:=.other }
def r69:TRow:= { size:=1,bytes:=8,zero:= [.nilFunc],agg:=false,kind:=.other }
def r70:TRow:= { size:=1,bytes:=8,zero:= [.nilFunc],agg:=false,kind:=.other }
def r71:TRow:= { size:=1,bytes:=8,zero:= [.nilFunc],agg:=false,kind:=.other }
def r73:TRow:= { size:=1,bytes:=8,zero:= [.nilFunc],agg:=false,kind:=.other }
def r74:TRow:= { size:=1,bytes:=24,zero:= [.slice none 0 0],agg:=false,kind:=(.slice 130) }
def r75:TRow:= { size:=5,bytes:=72,zero:= [.slice none 0 0,.int .i64 0,.slice none 0 0,.int .i64 0,.int .i64 0],agg:=true,kind:=(.struct [(0,24),(2,74),(3,3),(4,3)]) }
def r76:TRow:= { size:=5,bytes:=72,zero:= [.slice none 0 0,.int .i64 0,.slice none 0 0,.int .i64 0,.int .i64 0],agg:=true,kind:=(.struct [(0,24),(2,74),(3,3),(4,3)]) }
def r77:TRow:= { size:=1,bytes:=8,zero:= [.nilFunc],agg:=false,kind:=.other }
def r78:TRow:= { size:=1,bytes:=8,zero:= [.nilFunc],agg:=false,kind:=.other }
def r79:TRow:= { size:=1,bytes:=24,zero:= [.slice none 0 0],agg:=false,kind:=(.slice 76) }
def r80:TRow:= { size:=1,bytes:=24,zero:= [.slice none 0 0],agg:=false,kind:=(.slice 137) }
def r81:TRow:= { size:=2,bytes:=48,zero:= [.slice none 0 0,.slice none 0 0],agg:=true,kind:=(.struct [(0,79),(1,80)]) }
def r82:TRow:= { size:=2,bytes:=48,zero:= [.slice none 0 0,.slice none 0 0],agg:=true,kind:=(.struct [(0,79),(1,80)]) }
def r83:TRow:= { size:=1,bytes:=8,zero:= [.nilFunc],agg:=false,kind:=.other }
def r84:TRow:= { size:=1,bytes:=8,zero:= [.nilFunc],agg:=false,kind:=.other }
def r85:TRow:= { size:=1,bytes:=8,zero:= [.nilFunc],agg:=false,kind:=.other }
def r86:TRow:= { size:=1,bytes:=8,zero:= [.nilFunc],agg:=false,kind:=.other }
def r87:TRow:= { size:=1,bytes:=8,zero:= [.nilFunc],agg:=false,kind:=.other }
def r88:TRow:= { size:=1,bytes:=8,zero:= [.nilFunc],agg:=false,kind:=.other }
def r89:TRow:= { size:=1,bytes:=8,zero:= [.pointer none],agg:=false,kind:=(.ptr 215),meths:= [("quinaria/grant.add",134),("quinaria/grant.ends",133),("quinaria/grant.exists",301),("quinaria/grant.fits",298),("quinaria/grant.free",41),("quinaria/grant.own",304),("quinaria/grant.pass",72),("quinaria/grant.serve",74),("quinaria/grant.water",101)] }
def r90:TRow:= { size:=1,bytes:=8,zero:= [.nilFunc],agg:=false,kind:=.other }
def r91:TRow:= { size:=1,bytes:=8,zero:= [.nilFunc],agg:=false,kind:=.other }
def r92:TRow:= { size:=1,bytes:=8,zero:= [.nilFunc],agg:=false,kind:=.other }
def r93:TRow:= { size:=1,bytes:=24,zero:= [.slice none 0 0],agg:=false,kind:=(.slice 58) }
def r94:TRow:= { size:=20,bytes:=336,zero:= [.slice none 0 0,.int .i64 0,.int .i64 0,.int .i64 0,.int .i64 0,.slice none 0 0,.slice none 0 0,.slice none 0 0,.slice none 0 0,.slice none 0 0,.slice none 0 0,.int .i64 0,.int .i64 0,.int .i64 0,.slice none 0 0,.int .i64 0,.slice none 0 0,.slice none 0 0,.slice none 0 0,.bool false],agg:=true,kind:=(.struct [(0,43),(18,93),(19,4)]) }
def r95:TRow:= { size:=20,bytes:=336,zero:= [.slice none 0 0,.int .i64 0,.int .i64 0,.int .i64 0,.int .i64 0,.slice none 0 0,.slice none 0 0,.slice none 0 0,.slice none 0 0,.slice none 0 0,.slice none 0 0,.int .i64 0,.int .i64 0,.int .i64 0,.slice none 0 0,.int .i64 0,.slice none 0 0,.slice none 0 0,.slice none 0 0,.bool false],agg:=true,kind:=(.struct [(0,43),(18,93),(19,4)]) }
def r96:TRow:= { size:=1,bytes:=8,zero:= [.nilFunc],agg:=false,kind:=.other }
def r97:TRow:= { size:=1,bytes:=8,zero:= [.nilFunc],agg:=false,kind:=.other }
def r98:TRow:= { size:=1,bytes:=8,zero:= [.nilFunc],agg:=false,kind:=.other }
def r99:TRow:= { size:=1,bytes:=8,zero:= [.map none],agg:=false,kind:=(.map 3 3) }
def r100:TRow:= { size:=20,bytes:=320,zero:= [.slice none 0 0,.int .i64 0,.int .i64 0,.int .i64 0,.int .i64 0,.slice none 0 0,.slice none 0 0,.slice none 0 0,.slice none 0 0,.slice none 0 0,.slice none 0 0,.int .i64 0,.int .i64 0,.int .i64 0,.slice none 0 0,.int .i64 0,.slice none 0 0,.slice none 0 0,.int .i64 0,.map none],agg:=true,kind:=(.struct [(0,43),(18,3),(19,99)]) }
def r101:TRow:= { size:=20,bytes:=320,zero:= [.slice none 0 0,.int .i64 0,.int .i64 0,.int .i64 0,.int .i64 0,.slice none 0 0,.slice none 0 0,.slice none 0 0,.slice none 0 0,.slice none 0 0,.slice none 0 0,.int .i64 0,.int .i64 0,.int .i64 0,.slice none 0 0,.int .i64 0,.slice none 0 0,.slice none 0 0,.int .i64 0,.map none],agg:=true,kind:=(.struct [(0,43),(18,3),(19,99)]),meths:= [("quinaria/curator.after",38)] }
def r102:TRow:= { size:=1,bytes:=8,zero:= [.nilFunc],agg:=false,kind:=.other }
def r103:TRow:= { size:=1,bytes:=8,zero:= [.nilFunc],agg:=false,kind:=.other }
def r104:TRow:= { size:=1,bytes:=8,zero:= [.nilFunc],agg:=false,kind:=.other }
def r106:TRow:= { size:=1,bytes:=8,zero:= [.nilFunc],agg:=false,kind:=.other }
def r107:TRow:= { size:=1,bytes:=8,zero:= [.nilFunc],agg:=false,kind:=.other }
def r108:TRow:= { size:=1,bytes:=8,zero:= [.nilFunc],agg:=false,kind:=.other }
def r109:TRow:= { size:=3,bytes:=32,zero:= [.string ⟨#[]⟩,.int .i64 0,.nilFunc],agg:=true,kind:=(.struct [(0,9),(1,3),(2,108)]) }
def r110:TRow:= { size:=3,bytes:=32,zero:= [.string ⟨#[]⟩,.int .i64 0,.nilFunc],agg:=true,kind:=(.struct [(0,9),(1,3),(2,108)]) }
def r111:TRow:= { size:=42,bytes:=448,zero:= [.string ⟨#[]⟩,.int .i64 0,.nilFunc,.string ⟨#[]⟩,.int .i64 0,.nilFunc,.string ⟨#[]⟩,.int .i64 0,.nilFunc,.string ⟨#[]⟩,.int .i64 0,.nilFunc,.string ⟨#[]⟩,.int .i64 0,.nilFunc,.string ⟨#[]⟩,.int .i64 0,.nilFunc,.string ⟨#[]⟩,.int .i64 0,.nilFunc,.string ⟨#[]⟩,.int .i64 0,.nilFunc,.string ⟨#[]⟩,.int .i64 0,.nilFunc,.string ⟨#[]⟩,.int .i64 0,.nilFunc,.string ⟨#[]⟩,.int .i64 0,.nilFunc,.string ⟨#[]⟩,.int .i64 0,.nilFunc,.string ⟨#[]⟩,.int .i64 0,.nilFunc,.string ⟨#[]⟩,.int .i64 0,.nilFunc],agg:=true,kind:=(.arr 14 110) }
def r112:TRow:= { size:=1,bytes:=8,zero:= [.nilFunc],agg:=false,kind:=.other }
def r113:TRow:= { size:=22,bytes:=352,zero:= [.slice none 0 0,.int .i64 0,.int .i64 0,.int .i64 0,.int .i64 0,.slice none 0 0,.slice none 0 0,.slice none 0 0,.slice none 0 0,.slice none 0 0,.slice none 0 0,.int .i64 0,.int .i64 0,.int .i64 0,.slice none 0 0,.int .i64 0,.slice none 0 0,.slice none 0 0,.int .i64 0,.map none,.pointer none,.slice none 0 0],agg:=true,kind:=(.struct [(0,101),(20,48),(21,25)]) }
def r114:TRow:= { size:=22,bytes:=352,zero:= [.slice none 0 0,.int .i64 0,.int .i64 0,.int .i64 0,.int .i64 0,.slice none 0 0,.slice none 0 0,.slice none 0 0,.slice none 0 0,.slice none 0 0,.slice none 0 0,.int .i64 0,.int .i64 0,.int .i64 0,.slice none 0 0,.int .i64 0,.slice none 0 0,.slice none 0 0,.int .i64 0,.map none,.pointer none,.slice none 0 0],agg:=true,kind:=(.struct [(0,101),(20,48),(21,25)]),meths:= [("quinaria/curator.gates",107),("quinaria/curator.grants",104),("quinaria/curator.holds",106),("quinaria/curator.moves",108),("quinaria/curator.next",112),("quinaria/curator.oldest",110),("quinaria/curator.shares",113),("quinaria/curator.since",109),("quinaria/curator.stands",115),("quinaria/curator.tapped",111),("quinaria/curator.today",102),("quinaria/curator.waiting",105),("quinaria/curator.water",103),("quinaria/curator.why",114)] }
def r115:TRow:= { size:=3,bytes:=24,zero:= [.int .i64 0,.int .i64 0,.int .i64 0],agg:=true,kind:=(.struct [(0,3),(1,3),(2,3)]),flat:=some [(.int .i64),(.int .i64),(.int .i64)],key:=true }
def r116:TRow:= { size:=3,bytes:=24,zero:= [.int .i64 0,.int .i64 0,.int .i64 0],agg:=true,kind:=(.struct [(0,3),(1,3),(2,3)]),flat:=some [(.int .i64),(.int .i64),(.int .i64)],key:=true }
def r117:TRow:= { size:=1,bytes:=8,zero:= [.nilFunc],agg:=false,kind:=.other }
def r118:TRow:= { size:=1,bytes:=8,zero:= [.nilFunc],agg:=false,kind:=.other }
def r119:TRow:= { size:=1,bytes:=8,zero:= [.nilFunc],agg:=false,kind:=.other }
def r120:TRow:= { size:=1,bytes:=8,zero:= [.nilFunc],agg:=false,kind:=.other }
def r121:TRow:= { size:=1,bytes:=8,zero:= [.nilFunc],agg:=false,kind:=.other }
def r123:TRow:= { size:=1,bytes:=24,zero:= [.slice none 0 0],agg:=false,kind:=(.slice 25) }
def r124:TRow:= { size:=6,bytes:=96,zero:= [.slice none 0 0,.int .i64 0,.slice none 0 0,.int .i64 0,.int .i64 0,.slice none 0 0],agg:=true,kind:=(.struct [(0,76),(5,123)]) }
def r125:TRow:= { size:=6,bytes:=96,zero:= [.slice none 0 0,.int .i64 0,.slice none 0 0,.int .i64 0,.int .i64 0,.slice none 0 0],agg:=true,kind:=(.struct [(0,76),(5,123)]),meths:= [("quinaria/castle.level",121),("quinaria/castle.nozzles",164),("quinaria/castle.out",122),("quinaria/castle.shares",55),("quinaria/castle.weir",165)] }
def r126:TRow:= { size:=1,bytes:=8,zero:= [.nilFunc],agg:=false,kind:=.other }
def r127:TRow:= { size:=1,bytes:=8,zero:= [.nilFunc],agg:=false,kind:=.other }
def r128:TRow:= { size:=1,bytes:=8,zero:= [.nilFunc],agg:=false,kind:=.other }
def r129:TRow:= { size:=2,bytes:=16,zero:= [.int .i64 0,.int .i64 0],agg:=true,kind:=(.struct [(0,3),(1,3)]),flat:=some [(.int .i64),(.int .i64)],key:=true }
def r130:TRow:= { size:=2,bytes:=16,zero:= [.int .i64 0,.int .i64 0],agg:=true,kind:=(.struct [(0,3),(1,3)]),flat:=some [(.int .i64),(.int .i64)],key:=true }
def r131:TRow:= { size:=1,bytes:=8,zero:= [.nilFunc],agg:=false,kind:=.other }
def r132:TRow:= { size:=1,bytes:=24,zero:= [.slice none 0 0],agg:=false,kind:=(.slice 125) }
def r133:TRow:= { size:=1,bytes:=8,zero:= [.nilFunc],agg:=false,kind:=.other }
def r135:TRow:= { size:=1,bytes:=8,zero:= [.nilFunc],agg:=false,kind:=.other }
def r136:TRow:= { size:=2,bytes:=16,zero:= [.int .i64 0,.int .i64 0],agg:=true,kind:=(.struct [(0,3),(1,3)]),flat:=some [(.int .i64),(.int .i64)],key:=true }
def r137:TRow:= { size:=2,bytes:=16,zero:= [.int .i64 0,.int .i64 0],agg:=true,kind:=(.struct [(0,3),(1,3)]),flat:=some [(.int .i64),(.int .i64)],key:=true }
def r138:TRow:= { size:=2,bytes:=16,zero:= [.int .i64 0,.int .i64 0],agg:=true,kind:=(.struct [(0,3),(1,3)]),flat:=some [(.int .i64),(.int .i64)],key:=true }
def r139:TRow:= { size:=2,bytes:=16,zero:= [.int .i64 0,.int .i64 0],agg:=true,kind:=(.struct [(0,3),(1,3)]),flat:=some [(.int .i64),(.int .i64)],key:=true }
def r140:TRow:= { size:=3,bytes:=24,zero:= [.int .i64 0,.int .i64 0,.int .i64 0],agg:=true,kind:=(.struct [(0,139),(2,3)]) }
def r141:TRow:= { size:=3,bytes:=24,zero:= [.int .i64 0,.int .i64 0,.int .i64 0],agg:=true,kind:=(.struct [(0,139),(2,3)]) }
def r142:TRow:= { size:=4,bytes:=32,zero:= [.int .i64 0,.int .i64 0,.int .i64 0,.bool false],agg:=true,kind:=(.struct [(0,3),(1,3),(2,3),(3,4)]),flat:=some [(.int .i64),(.int .i64),(.int .i64),.bool],key:=true }
def r143:TRow:= { size:=4,bytes:=32,zero:= [.int .i64 0,.int .i64 0,.int .i64 0,.bool false],agg:=true,kind:=(.struct [(0,3),(1,3),(2,3),(3,4)]),flat:=some [(.int .i64),(.int .i64),(.int .i64),.bool],key:=true }
def r144:TRow:= { size:=3,bytes:=24,zero:= [.int .i64 0,.int .i64 0,.int .i64 0],agg:=true,kind:=(.struct [(0,3),(1,3),(2,3)]),flat:=some [(.int .i64),(.int .i64),(.int .i64)],key:=true }
def r145:TRow:= { size:=3,bytes:=24,zero:= [.int .i64 0,.int .i64 0,.int .i64 0],agg:=true,kind:=(.struct [(0,3),(1,3),(2,3)]),flat:=some [(.int .i64),(.int .i64),(.int .i64)],key:=true }
def r146:TRow:= { size:=2,bytes:=16,zero:= [.int .i64 0,.int .i64 0],agg:=true,kind:=(.struct [(0,3),(1,3)]),flat:=some [(.int .i64),(.int .i64)],key:=true }
def r147:TRow:= { size:=2,bytes:=16,zero:= [.int .i64 0,.int .i64 0],agg:=true,kind:=(.struct [(0,3),(1,3)]),flat:=some [(.int .i64),(.int .i64)],key:=true }
def r148:TRow:= { size:=3,bytes:=24,zero:= [.int .i64 0,.int .i64 0,.int .i64 0],agg:=true,kind:=(.struct [(0,3),(1,3),(2,3)]),flat:=some [(.int .i64),(.int .i64),(.int .i64)],key:=true }
def r149:TRow:= { size:=3,bytes:=24,zero:= [.int .i64 0,.int .i64 0,.int .i64 0],agg:=true,kind:=(.struct [(0,3),(1,3),(2,3)]),flat:=some [(.int .i64),(.int .i64),(.int .i64)],key:=true }
def r150:TRow:= { size:=1,bytes:=8,zero:= [.nilFunc],agg:=false,kind:=.other }
def r151:TRow:= { size:=1,bytes:=8,zero:= [.nilFunc],agg:=false,kind:=.other }
def r152:TRow:= { size:=1,bytes:=8,zero:= [.int .i64 0],agg:=true,kind:=(.struct [(0,3)]),flat:=some [(.int .i64)],key:=true }
def r153:TRow:= { size:=1,bytes:=8,zero:= [.int .i64 0],agg:=true,kind:=(.struct [(0,3)]),flat:=some [(.int .i64)],key:=true }
def r154:TRow:= { size:=1,bytes:=16,zero:= [.string ⟨#[]⟩],agg:=true,kind:=(.struct [(0,9)]),flat:=some [.str],key:=true }
def r155:TRow:= { size:=1,bytes:=16,zero:= [.string ⟨#[]⟩],agg:=true,kind:=(.struct [(0,9)]),flat:=some [.str],key:=true }
def r156:TRow:= { size:=1,bytes:=8,zero:= [.nilFunc],agg:=false,kind:=.other }
def r157:TRow:= { size:=1,bytes:=8,zero:= [.nilFunc],agg:=false,kind:=.other }
def r158:TRow:= { size:=1,bytes:=16,zero:= [.nilIface],agg:=false,kind:=(.iface true) }
def r159:TRow:= { size:=1,bytes:=16,zero:= [.nilIface],agg:=false,kind:=(.iface true) }
def r160:TRow:= { size:=1,bytes:=8,zero:= [.nilFunc],agg:=false,kind:=.other }
def r161:TRow:= { size:=1,bytes:=8,zero:= [.nilFunc],agg:=false,kind:=.other }
def r162:TRow:= { size:=1,bytes:=8,zero:= [.nilFunc],agg:=false,kind:=.other }
def r163:TRow:= { size:=1,bytes:=8,zero:= [.nilFunc],agg:=false,kind:=.other }
def r164:TRow:= { size:=1,bytes:=8,zero:= [.nilFunc],agg:=false,kind:=.other }
def r165:TRow:= { size:=1,bytes:=8,zero:= [.nilFunc],agg:=false,kind:=.other }
def r166:TRow:= { size:=1,bytes:=8,zero:= [.int .i64 0],agg:=false,kind:=(.int .i64) }
def r168:TRow:= { size:=1,bytes:=8,zero:= [.nilFunc],agg:=false,kind:=.other }
def r169:TRow:= { size:=1,bytes:=8,zero:= [.nilFunc],agg:=false,kind:=.other }
def r170:TRow:= { size:=1,bytes:=8,zero:= [.nilFunc],agg:=false,kind:=.other }
def r171:TRow:= { size:=1,bytes:=8,zero:= [.nilFunc],agg:=false,kind:=.other }
def r172:TRow:= { size:=1,bytes:=8,zero:= [.nilFunc],agg:=false,kind:=.other }
def r173:TRow:= { size:=1,bytes:=8,zero:= [.nilFunc],agg:=false,kind:=.other }
def r175:TRow:= { size:=1,bytes:=8,zero:= [.nilFunc],agg:=false,kind:=.other }
def r176:TRow:= { size:=1,bytes:=8,zero:= [.nilFunc],agg:=false,kind:=.other }
def r177:TRow:= { size:=1,bytes:=8,zero:= [.nilFunc],agg:=false,kind:=.other }
def r178:TRow:= { size:=1,bytes:=8,zero:= [.nilFunc],agg:=false,kind:=.other }
def r179:TRow:= { size:=1,bytes:=8,zero:= [.int .i64 0],agg:=true,kind:=(.struct [(0,56)]),flat:=some [(.int .i64)],key:=true }
def r180:TRow:= { size:=1,bytes:=8,zero:= [.int .i64 0],agg:=true,kind:=(.struct [(0,56)]),flat:=some [(.int .i64)],key:=true }
def r182:TRow:= { size:=1,bytes:=8,zero:= [.nilFunc],agg:=false,kind:=.other }
def r183:TRow:= { size:=1,bytes:=16,zero:= [.nilIface],agg:=false,kind:=(.iface true) }
def r184:TRow:= { size:=1,bytes:=16,zero:= [.nilIface],agg:=false,kind:=(.iface true) }
def r185:TRow:= { size:=1,bytes:=8,zero:= [.nilFunc],agg:=false,kind:=.other }
def r186:TRow:= { size:=1,bytes:=8,zero:= [.nilFunc],agg:=false,kind:=.other }
def r187:TRow:= { size:=1,bytes:=8,zero:= [.nilFunc],agg:=false,kind:=.other }
def r188:TRow:= { size:=1,bytes:=8,zero:= [.int .i64 0],agg:=true,kind:=(.struct [(0,3)]),flat:=some [(.int .i64)],key:=true }
def r189:TRow:= { size:=1,bytes:=8,zero:= [.int .i64 0],agg:=true,kind:=(.struct [(0,3)]),flat:=some [(.int .i64)],key:=true,meths:= [("quinaria/curator.kind",289)] }
def r190:TRow:= { size:=8,bytes:=64,zero:= [.int .i64 0,.int .i64 0,.int .i64 0,.int .i64 0,.int .i64 0,.int .i64 0,.int .i64 0,.int .i64 0],agg:=true,kind:=(.struct [(0,54)]) }
def r191:TRow:= { size:=8,bytes:=64,zero:= [.int .i64 0,.int .i64 0,.int .i64 0,.int .i64 0,.int .i64 0,.int .i64 0,.int .i64 0,.int .i64 0],agg:=true,kind:=(.struct [(0,54)]),meths:= [("quinaria/curator.kind",290)] }
def r192:TRow:= { size:=1,bytes:=8,zero:= [.nilFunc],agg:=false,kind:=.other }
def r193:TRow:= { size:=1,bytes:=8,zero:= [.int .i64 0],agg:=true,kind:=(.struct [(0,3)]),flat:=some [(.int .i64)],key:=true }
def r194:TRow:= { size:=1,bytes:=8,zero:= [.int .i64 0],agg:=true,kind:=(.struct [(0,3)]),flat:=some [(.int .i64)],key:=true,meths:= [("quinaria/curator.kind",291)] }
def r195:TRow:= { size:=1,bytes:=8,zero:= [.nilFunc],agg:=false,kind:=.other }
def r196:TRow:= { size:=1,bytes:=8,zero:= [.nilFunc],agg:=false,kind:=.other }
def r197:TRow:= { size:=1,bytes:=8,zero:= [.nilFunc],agg:=false,kind:=.other }
def r198:TRow:= { size:=1,bytes:=8,zero:= [.nilFunc],agg:=false,kind:=.other }
def r199:TRow:= { size:=1,bytes:=8,zero:= [.int .i64 0],agg:=true,kind:=(.struct [(0,3)]),flat:=some [(.int .i64)],key:=true,meths:= [("quinaria/curator.kind",292)] }
def r200:TRow:= { size:=1,bytes:=8,zero:= [.nilFunc],agg:=false,kind:=.other }
def r201:TRow:= { size:=3,bytes:=24,zero:= [.int .i64 0,.int .i64 0,.int .i64 0],agg:=true,kind:=(.struct [(0,145)]) }
def r202:TRow:= { size:=3,bytes:=24,zero:= [.int .i64 0,.int .i64 0,.int .i64 0],agg:=true,kind:=(.struct [(0,145)]),meths:= [("quinaria/curator.kind",293)] }
def r203:TRow:= { size:=1,bytes:=8,zero:= [.nilFunc],agg:=false,kind:=.other }
def r205:TRow:= { size:=1,bytes:=8,zero:= [.nilFunc],agg:=false,kind:=.other }
def r206:TRow:= { size:=0,bytes:=0,zero:= [],agg:=true,kind:=(.struct []),flat:=some [],key:=true }
def r207:TRow:= { size:=0,bytes:=0,zero:= [],agg:=true,kind:=(.struct []),flat:=some [],key:=true,meths:= [("quinaria/curator.kind",294)] }
def r208:TRow:= { size:=1,bytes:=8,zero:= [.int .i64 0],agg:=true,kind:=(.struct [(0,3)]),flat:=some [(.int .i64)],key:=true }
def r209:TRow:= { size:=1,bytes:=8,zero:= [.int .i64 0],agg:=true,kind:=(.struct [(0,3)]),flat:=some [(.int .i64)],key:=true,meths:= [("quinaria/curator.kind",295)] }
def r210:TRow:= { size:=1,bytes:=8,zero:= [.map none],agg:=false,kind:=(.map 260 3) }
def r211:TRow:= { size:=1,bytes:=24,zero:= [.slice none 0 0],agg:=false,kind:=(.slice 4) }
def r212:TRow:= { size:=1,bytes:=24,zero:= [.slice none 0 0],agg:=false,kind:=(.slice 218) }
def r213:TRow:= { size:=1,bytes:=24,zero:= [.slice none 0 0],agg:=false,kind:=(.slice 285) }
def r214:TRow:= { size:=14,bytes:=256,zero:= [.slice none 0 0,.int .i64 0,.int .i64 0,.int .i64 0,.int .i64 0,.slice none 0 0,.slice none 0 0,.map none,.slice none 0 0,.slice none 0 0,.slice none 0 0,.slice none 0 0,.slice none 0 0,.slice none 0 0],agg:=true,kind:=(.struct [(0,28),(7,210),(8,211),(9,25),(10,212),(11,25),(12,25),(13,213)]) }
def r215:TRow:= { size:=14,bytes:=256,zero:= [.slice none 0 0,.int .i64 0,.int .i64 0,.int .i64 0,.int .i64 0,.slice none 0 0,.slice none 0 0,.map none,.slice none 0 0,.slice none 0 0,.slice none 0 0,.slice none 0 0,.slice none 0 0,.slice none 0 0],agg:=true,kind:=(.struct [(0,28),(7,210),(8,211),(9,25),(10,212),(11,25),(12,25),(13,213)]) }
def r216:TRow:= { size:=1,bytes:=8,zero:= [.int .i64 0],agg:=false,kind:=(.int .i64) }
def r217:TRow:= { size:=5,bytes:=40,zero:= [.int .i64 0,.int .i64 0,.int .i64 0,.int .i64 0,.int .i64 0],agg:=true,kind:=(.struct [(0,216),(1,3),(2,3),(3,52),(4,3)]),flat:=some [(.int .i64),(.int .i64),(.int .i64),(.int .i64),(.int .i64)],key:=true }
def r218:TRow:= { size:=5,bytes:=40,zero:= [.int .i64 0,.int .i64 0,.int .i64 0,.int .i64 0,.int .i64 0],agg:=true,kind:=(.struct [(0,216),(1,3),(2,3),(3,52),(4,3)]),flat:=some [(.int .i64),(.int .i64),(.int .i64),(.int .i64),(.int .i64)],key:=true }
def r219:TRow:= { size:=1,bytes:=8,zero:= [.nilFunc],agg:=false,kind:=.other }
def r220:TRow:= { size:=1,bytes:=8,zero:= [.nilFunc],agg:=false,kind:=.other }
def r221:TRow:= { size:=1,bytes:=24,zero:= [.slice none 0 0],agg:=false,kind:=(.slice 9) }
def r222:TRow:= { size:=1,bytes:=8,zero:= [.nilFunc],agg:=false,kind:=.other }
def r223:TRow:= { size:=1,bytes:=8,zero:= [.nilFunc],agg:=false,kind:=.other }
def r224:TRow:= { size:=1,bytes:=8,zero:= [.nilFunc],agg:=false,kind:=.other }
def r225:TRow:= { size:=1,bytes:=8,zero:= [.nilFunc],agg:=false,kind:=.other }
def r226:TRow:= { size:=1,bytes:=8,zero:= [.nilFunc],agg:=false,kind:=.other }
def r227:TRow:= { size:=1,bytes:=8,zero:= [.nilFunc],agg:=false,kind:=.other }
def r228:TRow:= { size:=1,bytes:=8,zero:= [.map none],agg:=false,kind:=(.map 137 206) }
def r230:TRow:= { size:=1,bytes:=8,zero:= [.nilFunc],agg:=false,kind:=.other }
def r231:TRow:= { size:=1,bytes:=8,zero:= [.nilFunc],agg:=false,kind:=.other }
def r232:TRow:= { size:=1,bytes:=8,zero:= [.nilFunc],agg:=false,kind:=.other }
def r233:TRow:= { size:=8,bytes:=64,zero:= [.int .i64 0,.int .i64 0,.int .i64 0,.int .i64 0,.int .i64 0,.int .i64 0,.int .i64 0,.int .i64 0],agg:=true,kind:=(.struct [(0,54)]),meths:= [("quinaria/grant.do",296),("quinaria/grant.goes",297)] }
def r234:TRow:= { size:=8,bytes:=64,zero:= [.int .i64 0,.int .i64 0,.int .i64 0,.int .i64 0,.int .i64 0,.int .i64 0,.int .i64 0,.int .i64 0],agg:=true,kind:=(.struct [(0,54)]),meths:= [("quinaria/grant.do",299),("quinaria/grant.goes",300)] }
def r235:TRow:= { size:=8,bytes:=64,zero:= [.int .i64 0,.int .i64 0,.int .i64 0,.int .i64 0,.int .i64 0,.int .i64 0,.int .i64 0,.int .i64 0],agg:=true,kind:=(.struct [(0,54)]),meths:= [("quinaria/grant.do",302),("quinaria/grant.goes",303)] }
def r236:TRow:= { size:=8,bytes:=64,zero:= [.int .i64 0,.int .i64 0,.int .i64 0,.int .i64 0,.int .i64 0,.int .i64 0,.int .i64 0,.int .i64 0],agg:=true,kind:=(.struct [(0,54)]),meths:= [("quinaria/grant.do",305),("quinaria/grant.goes",306)] }
def r237:TRow:= { size:=8,bytes:=64,zero:= [.int .i64 0,.int .i64 0,.int .i64 0,.int .i64 0,.int .i64 0,.int .i64 0,.int .i64 0,.int .i64 0],agg:=true,kind:=(.struct [(0,54)]),meths:= [("quinaria/grant.do",307),("quinaria/grant.goes",308)] }
def r238:TRow:= { size:=8,bytes:=64,zero:= [.int .i64 0,.int .i64 0,.int .i64 0,.int .i64 0,.int .i64 0,.int .i64 0,.int .i64 0,.int .i64 0],agg:=true,kind:=(.struct [(0,54)]),meths:= [("quinaria/grant.do",309),("quinaria/grant.goes",310)] }
def r239:TRow:= { size:=8,bytes:=64,zero:= [.int .i64 0,.int .i64 0,.int .i64 0,.int .i64 0,.int .i64 0,.int .i64 0,.int .i64 0,.int .i64 0],agg:=true,kind:=(.struct [(0,54)]),meths:= [("quinaria/grant.do",311),("quinaria/grant.goes",312)] }
def r240:TRow:= { size:=8,bytes:=64,zero:= [.int .i64 0,.int .i64 0,.int .i64 0,.int .i64 0,.int .i64 0,.int .i64 0,.int .i64 0,.int .i64 0],agg:=true,kind:=(.struct [(0,54)]),meths:= [("quinaria/grant.do",313),("quinaria/grant.goes",314)] }
def r241:TRow:= { size:=1,bytes:=8,zero:= [.nilFunc],agg:=false,kind:=.other }
def r242:TRow:= { size:=1,bytes:=8,zero:= [.nilFunc],agg:=false,kind:=.other }
def r243:TRow:= { size:=1,bytes:=8,zero:= [.nilFunc],agg:=false,kind:=.other }
def r244:TRow:= { size:=1,bytes:=8,zero:= [.nilFunc],agg:=false,kind:=.other }
def r245:TRow:= { size:=1,bytes:=8,zero:= [.nilFunc],agg:=false,kind:=.other }
def r247:TRow:= { size:=3,bytes:=72,zero:= [.slice none 0 0,.slice none 0 0,.slice none 0 0],agg:=true,kind:=(.struct [(0,34),(2,25)]) }
def r248:TRow:= { size:=3,bytes:=72,zero:= [.slice none 0 0,.slice none 0 0,.slice none 0 0],agg:=true,kind:=(.struct [(0,34),(2,25)]),meths:= [("quinaria/gate.carries",228),("quinaria/gate.cut",140),("quinaria/gate.short",195)] }
def r249:TRow:= { size:=1,bytes:=8,zero:= [.nilFunc],agg:=false,kind:=.other }
def r250:TRow:= { size:=2,bytes:=24,zero:= [.string ⟨#[]⟩,.int .i64 0],agg:=true,kind:=(.struct [(0,9),(1,3)]),flat:=some [.str,(.int .i64)],key:=true }
def r251:TRow:= { size:=2,bytes:=24,zero:= [.string ⟨#[]⟩,.int .i64 0],agg:=true,kind:=(.struct [(0,9),(1,3)]),flat:=some [.str,(.int .i64)],key:=true }
def r252:TRow:= { size:=1,bytes:=24,zero:= [.slice none 0 0],agg:=false,kind:=(.slice 251) }
def r253:TRow:= { size:=1,bytes:=8,zero:= [.nilFunc],agg:=false,kind:=.other }
def r254:TRow:= { size:=1,bytes:=8,zero:= [.nilFunc],agg:=false,kind:=.other }
def r255:TRow:= { size:=1,bytes:=8,zero:= [.int .u64 0],agg:=false,kind:=(.int .u64) }
def r256:TRow:= { size:=1,bytes:=8,zero:= [.nilFunc],agg:=false,kind:=.other }
def r257:TRow:= { size:=1,bytes:=8,zero:= [.nilFunc],agg:=false,kind:=.other }
def r258:TRow:= { size:=1,bytes:=8,zero:= [.nilFunc],agg:=false,kind:=.other }
def r259:TRow:= { size:=2,bytes:=16,zero:= [.int .i64 0,.int .i64 0],agg:=true,kind:=(.struct [(0,52),(1,3)]),flat:=some [(.int .i64),(.int .i64)],key:=true }
def r260:TRow:= { size:=2,bytes:=16,zero:= [.int .i64 0,.int .i64 0],agg:=true,kind:=(.struct [(0,52),(1,3)]),flat:=some [(.int .i64),(.int .i64)],key:=true }
def r261:TRow:= { size:=1,bytes:=8,zero:= [.nilFunc],agg:=false,kind:=.other }
def r263:TRow:= { size:=1,bytes:=8,zero:= [.nilFunc],agg:=false,kind:=.other }
def r264:TRow:= { size:=1,bytes:=8,zero:= [.nilFunc],agg:=false,kind:=.other }
def r265:TRow:= { size:=1,bytes:=8,zero:= [.nilFunc],agg:=false,kind:=.other }
def r267:TRow:= { size:=1,bytes:=8,zero:= [.nilFunc],agg:=false,kind:=.other }
def r268:TRow:= { size:=1,bytes:=8,zero:= [.nilFunc],agg:=false,kind:=.other }
def r269:TRow:= { size:=1,bytes:=8,zero:= [.nilFunc],agg:=false,kind:=.other }
def r270:TRow:= { size:=1,bytes:=24,zero:= [.slice none 0 0],agg:=false,kind:=(.slice 273) }
def r272:TRow:= { size:=1,bytes:=8,zero:= [.nilFunc],agg:=false,kind:=.other }
def r273:TRow:= { size:=1,bytes:=8,zero:= [.int .i64 0],agg:=false,kind:=(.int .i64) }
def r274:TRow:= { size:=1,bytes:=8,zero:= [.nilFunc],agg:=false,kind:=.other }
def r275:TRow:= { size:=1,bytes:=8,zero:= [.nilFunc],agg:=false,kind:=.other }
def r276:TRow:= { size:=1,bytes:=8,zero:= [.nilFunc],agg:=false,kind:=.other }
def r277:TRow:= { size:=1,bytes:=8,zero:= [.nilFunc],agg:=false,kind:=.other }
def r278:TRow:= { size:=1,bytes:=8,zero:= [.nilFunc],agg:=false,kind:=.other }
def r279:TRow:= { size:=1,bytes:=8,zero:= [.nilFunc],agg:=false,kind:=.other }
def r280:TRow:= { size:=2,bytes:=16,zero:= [.nilFunc,.nilFunc],agg:=true,kind:=(.arr 2 225) }
def r281:TRow:= { size:=1,bytes:=8,zero:= [.nilFunc],agg:=false,kind:=.other }
def r282:TRow:= { size:=1,bytes:=8,zero:= [.nilFunc],agg:=false,kind:=.other }
def r283:TRow:= { size:=1,bytes:=8,zero:= [.nilFunc],agg:=false,kind:=.other }
def r284:TRow:= { size:=2,bytes:=16,zero:= [.int .i64 0,.int .i64 0],agg:=true,kind:=(.struct [(0,3),(1,3)]),flat:=some [(.int .i64),(.int .i64)],key:=true }
def r285:TRow:= { size:=2,bytes:=16,zero:= [.int .i64 0,.int .i64 0],agg:=true,kind:=(.struct [(0,3),(1,3)]),flat:=some [(.int .i64),(.int .i64)],key:=true }
def r286:TRow:= { size:=1,bytes:=8,zero:= [.nilFunc],agg:=false,kind:=.other }
def r287:TRow:= { size:=1,bytes:=8,zero:= [.nilFunc],agg:=false,kind:=.other }
def r288:TRow:= { size:=1,bytes:=8,zero:= [.nilFunc],agg:=false,kind:=.other }
def r289:TRow:= { size:=1,bytes:=8,zero:= [.nilFunc],agg:=false,kind:=.other }
def r290:TRow:= { size:=1,bytes:=8,zero:= [.nilFunc],agg:=false,kind:=.other }
def r291:TRow:= { size:=1,bytes:=8,zero:= [.nilFunc],agg:=false,kind:=.other }
def r292:TRow:= { size:=1,bytes:=8,zero:= [.nilFunc],agg:=false,kind:=.other }
def r293:TRow:= { size:=1,bytes:=8,zero:= [.nilFunc],agg:=false,kind:=.other }
def r294:TRow:= { size:=1,bytes:=8,zero:= [.nilFunc],agg:=false,kind:=.other }
def r295:TRow:= { size:=1,bytes:=8,zero:= [.nilFunc],agg:=false,kind:=.other }
def r296:TRow:= { size:=1,bytes:=8,zero:= [.nilFunc],agg:=false,kind:=.other }
def r297:TRow:= { size:=1,bytes:=8,zero:= [.nilFunc],agg:=false,kind:=.other }
def r298:TRow:= { size:=1,bytes:=8,zero:= [.nilFunc],agg:=false,kind:=.other }
def r299:TRow:= { size:=1,bytes:=8,zero:= [.nilFunc],agg:=false,kind:=.other }
def r300:TRow:= { size:=1,bytes:=8,zero:= [.nilFunc],agg:=false,kind:=.other }
def r301:TRow:= { size:=1,bytes:=24,zero:= [.slice none 0 0],agg:=false,kind:=(.slice 316) }
def r302:TRow:= { size:=6,bytes:=96,zero:= [.slice none 0 0,.int .i64 0,.int .i64 0,.int .i64 0,.slice none 0 0,.slice none 0 0],agg:=true,kind:=(.struct [(0,37),(5,301)]) }
def r303:TRow:= { size:=6,bytes:=96,zero:= [.slice none 0 0,.int .i64 0,.int .i64 0,.int .i64 0,.slice none 0 0,.slice none 0 0],agg:=true,kind:=(.struct [(0,37),(5,301)]),meths:= [("quinaria/leak.suspects",210)] }
def r304:TRow:= { size:=1,bytes:=8,zero:= [.nilFunc],agg:=false,kind:=.other }
def r305:TRow:= { size:=1,bytes:=8,zero:= [.nilFunc],agg:=false,kind:=.other }
def r306:TRow:= { size:=1,bytes:=8,zero:= [.nilFunc],agg:=false,kind:=.other }
def r307:TRow:= { size:=1,bytes:=8,zero:= [.nilFunc],agg:=false,kind:=.other }
def r308:TRow:= { size:=7,bytes:=72,zero:= [.slice none 0 0,.int .i64 0,.int .i64 0,.int .i64 0,.int .i64 0,.int .i64 0,.int .i64 0],agg:=true,kind:=(.struct [(0,24),(2,218)]) }
def r309:TRow:= { size:=7,bytes:=72,zero:= [.slice none 0 0,.int .i64 0,.int .i64 0,.int .i64 0,.int .i64 0,.int .i64 0,.int .i64 0],agg:=true,kind:=(.struct [(0,24),(2,218)]),meths:= [("quinaria/grant.own",203),("quinaria/grant.turned",204)] }
def r310:TRow:= { size:=2,bytes:=16,zero:= [.nilFunc,.nilFunc],agg:=true,kind:=(.arr 2 306) }
def r311:TRow:= { size:=1,bytes:=8,zero:= [.nilFunc],agg:=false,kind:=.other }
def r313:TRow:= { size:=1,bytes:=8,zero:= [.nilFunc],agg:=false,kind:=.other }
def r314:TRow:= { size:=1,bytes:=24,zero:= [.slice none 0 0],agg:=false,kind:=(.slice 25),meths:= [("quinaria/leak.greatest",254),("quinaria/leak.least",253),("quinaria/leak.span",238)] }
def r315:TRow:= { size:=2,bytes:=48,zero:= [.slice none 0 0,.slice none 0 0],agg:=true,kind:=(.struct [(0,25),(1,314)]) }
def r316:TRow:= { size:=2,bytes:=48,zero:= [.slice none 0 0,.slice none 0 0],agg:=true,kind:=(.struct [(0,25),(1,314)]) }
def r317:TRow:= { size:=1,bytes:=24,zero:= [.slice none 0 0],agg:=false,kind:=(.slice 319) }
def r318:TRow:= { size:=2,bytes:=16,zero:= [.int .i64 0,.int .i64 0],agg:=true,kind:=(.struct [(0,3),(1,3)]),flat:=some [(.int .i64),(.int .i64)],key:=true }
def r319:TRow:= { size:=2,bytes:=16,zero:= [.int .i64 0,.int .i64 0],agg:=true,kind:=(.struct [(0,3),(1,3)]),flat:=some [(.int .i64),(.int .i64)],key:=true }
def r320:TRow:= { size:=1,bytes:=8,zero:= [.nilFunc],agg:=false,kind:=.other }
def r321:TRow:= { size:=1,bytes:=8,zero:= [.nilFunc],agg:=false,kind:=.other }
def r322:TRow:= { size:=1,bytes:=8,zero:= [.nilFunc],agg:=false,kind:=.other }
def r323:TRow:= { size:=4,bytes:=80,zero:= [.int .i64 0,.slice none 0 0,.slice none 0 0,.slice none 0 0],agg:=true,kind:=(.struct [(0,41),(3,25)]) }
def r324:TRow:= { size:=4,bytes:=80,zero:= [.int .i64 0,.slice none 0 0,.slice none 0 0,.slice none 0 0],agg:=true,kind:=(.struct [(0,41),(3,25)]),meths:= [("quinaria/drought.binds",215),("quinaria/drought.tight",241)] }
def r325:TRow:= { size:=1,bytes:=8,zero:= [.nilFunc],agg:=false,kind:=.other }
def r326:TRow:= { size:=1,bytes:=8,zero:= [.nilFunc],agg:=false,kind:=.other }
def r327:TRow:= { size:=1,bytes:=8,zero:= [.nilFunc],agg:=false,kind:=.other }
def r328:TRow:= { size:=1,bytes:=8,zero:= [.nilFunc],agg:=false,kind:=.other }
def r329:TRow:= { size:=1,bytes:=8,zero:= [.nilFunc],agg:=false,kind:=.other }
def r330:TRow:= { size:=1,bytes:=8,zero:= [.nilFunc],agg:=false,kind:=.other }
def r331:TRow:= { size:=1,bytes:=8,zero:= [.nilFunc],agg:=false,kind:=.other }
def r332:TRow:= { size:=1,bytes:=8,zero:= [.nilFunc],agg:=false,kind:=.other }
def r333:TRow:= { size:=1,bytes:=8,zero:= [.nilFunc],agg:=false,kind:=.other }
def r334:TRow:= { size:=1,bytes:=8,zero:= [.nilFunc],agg:=false,kind:=.other }
def r335:TRow:= { size:=2,bytes:=16,zero:= [.nilFunc,.nilFunc],agg:=true,kind:=(.arr 2 334) }
def r336:TRow:= { size:=1,bytes:=8,zero:= [.nilFunc],agg:=false,kind:=.other }
def r337:TRow:= { size:=2,bytes:=16,zero:= [.int .i64 0,.int .i64 0],agg:=true,kind:=(.struct [(0,139)]) }
def r338:TRow:= { size:=2,bytes:=16,zero:= [.int .i64 0,.int .i64 0],agg:=true,kind:=(.struct [(0,139)]),meths:= [("quinaria/gate.greatest",245),("quinaria/gate.least",244)] }
def r339:TRow:= { size:=1,bytes:=8,zero:= [.nilFunc],agg:=false,kind:=.other }
def r340:TRow:= { size:=1,bytes:=8,zero:= [.nilFunc],agg:=false,kind:=.other }
def r342:TRow:= { size:=1,bytes:=8,zero:= [.nilFunc],agg:=false,kind:=.other }
def r343:TRow:= { size:=1,bytes:=8,zero:= [.nilFunc],agg:=false,kind:=.other }
def r344:TRow:= { size:=1,bytes:=8,zero:= [.nilFunc],agg:=false,kind:=.other }
def r345:TRow:= { size:=1,bytes:=8,zero:= [.nilFunc],agg:=false,kind:=.other }
def r346:TRow:= { size:=1,bytes:=8,zero:= [.nilFunc],agg:=false,kind:=.other }
def r347:TRow:= { size:=1,bytes:=8,zero:= [.map none],agg:=false,kind:=(.map 3 4) }
def r348:TRow:= { size:=1,bytes:=8,zero:= [.nilFunc],agg:=false,kind:=.other }
def r349:TRow:= { size:=1,bytes:=8,zero:= [.nilFunc],agg:=false,kind:=.other }
def r350:TRow:= { size:=1,bytes:=8,zero:= [.nilFunc],agg:=false,kind:=.other }
def r351:TRow:= { size:=1,bytes:=8,zero:= [.nilFunc],agg:=false,kind:=.other }
def r352:TRow:= { size:=1,bytes:=24,zero:= [.slice none 0 0],agg:=false,kind:=(.slice 365) }
def r353:TRow:= { size:=1,bytes:=8,zero:= [.nilFunc],agg:=false,kind:=.other }
def r354:TRow:= { size:=1,bytes:=8,zero:= [.nilFunc],agg:=false,kind:=.other }
def r355:TRow:= { size:=1,bytes:=8,zero:= [.nilFunc],agg:=false,kind:=.other }
def r356:TRow:= { size:=2,bytes:=16,zero:= [.int .i64 0,.int .i64 0],agg:=true,kind:=(.arr 2 3) }
def r357:TRow:= { size:=1,bytes:=8,zero:= [.nilFunc],agg:=false,kind:=.other }
def r358:TRow:= { size:=2,bytes:=16,zero:= [.nilFunc,.nilFunc],agg:=true,kind:=(.arr 2 357) }
def r359:TRow:= { size:=1,bytes:=8,zero:= [.nilFunc],agg:=false,kind:=.other }
def r360:TRow:= { size:=1,bytes:=8,zero:= [.nilFunc],agg:=false,kind:=.other }
def r361:TRow:= { size:=1,bytes:=8,zero:= [.nilFunc],agg:=false,kind:=.other }
def r362:TRow:= { size:=1,bytes:=8,zero:= [.nilFunc],agg:=false,kind:=.other }
def r363:TRow:= { size:=1,bytes:=8,zero:= [.nilFunc],agg:=false,kind:=.other }
def r364:TRow:= { size:=3,bytes:=24,zero:= [.int .i64 0,.int .i64 0,.int .i64 0],agg:=true,kind:=(.struct [(0,3),(1,3),(2,3)]),flat:=some [(.int .i64),(.int .i64),(.int .i64)],key:=true }
def r365:TRow:= { size:=3,bytes:=24,zero:= [.int .i64 0,.int .i64 0,.int .i64 0],agg:=true,kind:=(.struct [(0,3),(1,3),(2,3)]),flat:=some [(.int .i64),(.int .i64),(.int .i64)],key:=true }
def r366:TRow:= { size:=1,bytes:=8,zero:= [.nilFunc],agg:=false,kind:=.other }
def r367:TRow:= { size:=3,bytes:=24,zero:= [.int .i64 0,.int .i64 0,.int .i64 0],agg:=true,kind:=(.struct [(0,116)]) }
def r368:TRow:= { size:=3,bytes:=24,zero:= [.int .i64 0,.int .i64 0,.int .i64 0],agg:=true,kind:=(.struct [(0,116)]),meths:= [("quinaria/nozzle.first",263),("quinaria/nozzle.second",264)] }
def r369:TRow:= { size:=2,bytes:=16,zero:= [.nilFunc,.nilFunc],agg:=true,kind:=(.arr 2 366) }
def r370:TRow:= { size:=1,bytes:=8,zero:= [.nilFunc],agg:=false,kind:=.other }
def r372:TRow:= { size:=1,bytes:=8,zero:= [.nilFunc],agg:=false,kind:=.other }
def r373:TRow:= { size:=1,bytes:=8,zero:= [.int .i64 0],agg:=true,kind:=(.struct [(0,3)]),flat:=some [(.int .i64)],key:=true }
def r374:TRow:= { size:=1,bytes:=8,zero:= [.int .i64 0],agg:=true,kind:=(.struct [(0,3)]),flat:=some [(.int .i64)],key:=true }
def r375:TRow:= { size:=1,bytes:=16,zero:= [.string ⟨#[]⟩],agg:=true,kind:=(.struct [(0,9)]),flat:=some [.str],key:=true }
def r376:TRow:= { size:=1,bytes:=16,zero:= [.string ⟨#[]⟩],agg:=true,kind:=(.struct [(0,9)]),flat:=some [.str],key:=true }
def r377:TRow:= { size:=1,bytes:=4,zero:= [.int .u32 0],agg:=false,kind:=(.int .u32) }
def r379:TRow:= { size:=1,bytes:=8,zero:= [.nilFunc],agg:=false,kind:=.other }
def r380:TRow:= { size:=1,bytes:=8,zero:= [.int .u64 0],agg:=false,kind:=(.int .u64) }
def r382:TRow:= { size:=1,bytes:=8,zero:= [.nilFunc],agg:=false,kind:=.other }
def r383:TRow:= { size:=1,bytes:=8,zero:= [.nilFunc],agg:=false,kind:=.other }
def r384:TRow:= { size:=4,bytes:=40,zero:= [.pointer none,.pointer none,.pointer none,.string ⟨#[]⟩],agg:=true,kind:=(.struct [(0,17),(1,17),(2,17),(3,9)]) }
def r385:TRow:= { size:=4,bytes:=40,zero:= [.pointer none,.pointer none,.pointer none,.string ⟨#[]⟩],agg:=true,kind:=(.struct [(0,17),(1,17),(2,17),(3,9)]) }
def r386:TRow:= { size:=0,bytes:=0,zero:= [],agg:=true,kind:=(.arr 0 16) }
def r389:TRow:= { size:=1,bytes:=1,zero:= [.int .u8 0],agg:=false,kind:=(.int .u8) }
def r390:TRow:= { size:=1,bytes:=1,zero:= [.int .u8 0],agg:=false,kind:=(.int .u8),meths:= [("String",315)] }
def r391:TRow:= { size:=1,bytes:=8,zero:= [.nilFunc],agg:=false,kind:=.other }
def r392:TRow:= { size:=1,bytes:=8,zero:= [.pointer none],agg:=false,kind:=(.ptr 5) }
def r393:TRow:= { size:=1,bytes:=4,zero:= [.int .i32 0],agg:=false,kind:=(.int .i32) }
def r394:TRow:= { size:=1,bytes:=4,zero:= [.int .i32 0],agg:=false,kind:=(.int .i32) }
def r395:TRow:= { size:=11,bytes:=48,zero:= [.int .u64 0,.int .u64 0,.int .u32 0,.int .u8 0,.int .u8 0,.int .u8 0,.int .u8 0,.nilFunc,.pointer none,.int .i32 0,.int .i32 0],agg:=true,kind:=(.struct [(0,12),(1,12),(2,377),(3,389),(4,5),(5,5),(6,390),(7,391),(8,392),(9,393),(10,394)]) }
def r396:TRow:= { size:=11,bytes:=48,zero:= [.int .u64 0,.int .u64 0,.int .u32 0,.int .u8 0,.int .u8 0,.int .u8 0,.int .u8 0,.nilFunc,.pointer none,.int .i32 0,.int .i32 0],agg:=true,kind:=(.struct [(0,12),(1,12),(2,377),(3,389),(4,5),(5,5),(6,390),(7,391),(8,392),(9,393),(10,394)]) }
def r397:TRow:= { size:=1,bytes:=8,zero:= [.nilFunc],agg:=false,kind:=.other }
def r398:TRow:= { size:=1,bytes:=8,zero:= [.pointer none],agg:=false,kind:=(.ptr 218) }
def r399:TRow:= { size:=1,bytes:=8,zero:= [.pointer none],agg:=false,kind:=.other }
def T:Tab:=(.node (.node (.node (.node (.node (.node (.node (.node (.node .nil (some r255) .nil) (some r127) (.node .nil (some r383) .nil)) (some r63) (.node (.node .nil (some r319) .nil) (some r191) .nil)) (some r31) (.node (.node (.node .nil (some r287) .nil) (some r159) .nil) (some r95) (.node (.node .nil (some r351) .nil) (some r223) .nil))) (some r15) (.node (.node (.node .nil (some r143) (.node .nil (some r399) .nil)) (some r79) (.node (.node .nil (some r335) .nil) (some r207) .nil)) (some r47) (.node (.node (.node .nil (some r303) .nil) (some r175) .nil) (some r111) (.node (.node .nil (some r367) .nil) (some r239) .nil)))) (some r7) (.node (.node (.node (.node (.node .nil (some r263) .nil) (some r135) (.node .nil (some r391) .nil)) (some r71) (.node (.node .nil (some r327) .nil) (some r199) .nil)) (some r39) (.node (.node (.node .nil (some r295) .nil) none .nil) (some r103) (.node (.node .nil (some r359) .nil) (some r231) .nil))) (some r23) (.node (.node (.node (.node .nil (some r279) .nil) (some r151) .nil) (some r87) (.node (.node .nil (some r343) .nil) (some r215) .nil)) (some r55) (.node (.node (.node .nil (some r311) .nil) (some r183) .nil) (some r119) (.node (.node .nil (some r375) .nil) (some r247) .nil))))) (some r3) (.node (.node (.node (.node (.node (.node .nil (some r259) .nil) (some r131) .nil) (some r67) (.node (.node .nil (some r323) .nil) (some r195) .nil)) (some r35) (.node (.node (.node .nil (some r291) .nil) (some r163) .nil) (some r99) (.node (.node .nil (some r355) .nil) (some r227) .nil))) (some r19) (.node (.node (.node (.node .nil (some r275) .nil) (some r147) .nil) (some r83) (.node (.node .nil (some r339) .nil) (some r211) .nil)) (some r51) (.node (.node (.node .nil (some r307) .nil) (some r179) .nil) (some r115) (.node .nil (some r243) .nil)))) (some r11) (.node (.node (.node (.node (.node .nil (some r267) .nil) (some r139) (.node .nil (some r395) .nil)) (some r75) (.node (.node .nil (some r331) .nil) (some r203) .nil)) (some r43) (.node (.node (.node .nil (some r299) .nil) (some r171) .nil) (some r107) (.node (.node .nil (some r363) .nil) (some r235) .nil))) (some r27) (.node (.node (.node (.node .nil (some r283) .nil) (some r155) .nil) (some r91) (.node (.node .nil (some r347) .nil) (some r219) .nil)) (some r59) (.node (.node (.node .nil (some r315) .nil) (some r187) .nil) (some r123) (.node (.node .nil (some r379) .nil) (some r251) .nil)))))) (some r1) (.node (.node (.node (.node (.node (.node (.node .nil (some r257) .nil) (some r129) (.node .nil (some r385) .nil)) (some r65) (.node (.node .nil (some r321) .nil) (some r193) .nil)) (some r33) (.node (.node (.node .nil (some r289) .nil) (some r161) .nil) (some r97) (.node (.node .nil (some r353) .nil) (some r225) .nil))) (some r17) (.node (.node (.node (.node .nil (some r273) .nil) (some r145) .nil) (some r81) (.node (.node .nil (some r337) .nil) (some r209) .nil)) none (.node (.node (.node .nil (some r305) .nil) (some r177) .nil) (some r113) (.node (.node .nil (some r369) .nil) (some r241) .nil)))) (some r9) (.node (.node (.node (.node (.node .nil (some r265) .nil) (some r137) (.node .nil (some r393) .nil)) (some r73) (.node (.node .nil (some r329) .nil) (some r201) .nil)) (some r41) (.node (.node (.node .nil (some r297) .nil) (some r169) .nil) none (.node (.node .nil (some r361) .nil) (some r233) .nil))) (some r25) (.node (.node (.node (.node .nil (some r281) .nil) (some r153) .nil) (some r89) (.node (.node .nil (some r345) .nil) (some r217) .nil)) (some r57) (.node (.node (.node .nil (some r313) .nil) (some r185) .nil) (some r121) (.node (.node .nil (some r377) .nil) (some r249) .nil))))) (some r5) (.node (.node (.node (.node (.node (.node .nil (some r261) .nil) (some r133) (.node .nil (some r389) .nil)) (some r69) (.node (.node .nil (some r325) .nil) (some r197) .nil)) (some r37) (.node (.node (.node .nil (some r293) .nil) (some r165) .nil) (some r101) (.node (.node .nil (some r357) .nil) none .nil))) (some r21) (.node (.node (.node (.node .nil (some r277) .nil) (some r149) .nil) (some r85) (.node .nil (some r213) .nil)) (some r53) (.node (.node (.node .nil (some r309) .nil) none .nil) (some r117) (.node (.node .nil (some r373) .nil) (some r245) .nil)))) (some r13) (.node (.node (.node (.node (.node .nil (some r269) .nil) (some r141) (.node .nil (some r397) .nil)) (some r77) (.node (.node .nil (some r333) .nil) (some r205) .nil)) (some r45) (.node (.node (.node .nil (some r301) .nil) (some r173) .nil) (some r109) (.node (.node .nil (some r365) .nil) (some r237) .nil))) (some r29) (.node (.node (.node (.node .nil (some r285) .nil) (some r157) .nil) (some r93) (.node (.node .nil (some r349) .nil) (some r221) .nil)) (some r61) (.node (.node (.node .nil (some r317) .nil) (some r189) .nil) (some r125) (.node .nil (some r253) .nil))))))) none (.node (.node (.node (.node (.node (.node (.node (.node .nil (some r256) .nil) (some r128) (.node .nil (some r384) .nil)) (some r64) (.node (.node .nil (some r320) .nil) (some r192) .nil)) (some r32) (.node (.node (.node .nil (some r288) .nil) (some r160) .nil) (some r96) (.node (.node .nil (some r352) .nil) (some r224) .nil))) (some r16) (.node (.node (.node (.node .nil (some r272) .nil) (some r144) .nil) (some r80) (.node (.node .nil (some r336) .nil) (some r208) .nil)) (some r48) (.node (.node (.node .nil (some r304) .nil) (some r176) .nil) (some r112) (.node (.node .nil (some r368) .nil) (some r240) .nil)))) (some r8) (.node (.node (.node (.node (.node .nil (some r264) .nil) (some r136) (.node .nil (some r392) .nil)) none (.node (.node .nil (some r328) .nil) (some r200) .nil)) (some r40) (.node (.node (.node .nil (some r296) .nil) (some r168) .nil) (some r104) (.node (.node .nil (some r360) .nil) (some r232) .nil))) (some r24) (.node (.node (.node (.node .nil (some r280) .nil) (some r152) .nil) (some r88) (.node (.node .nil (some r344) .nil) (some r216) .nil)) (some r56) (.node (.node .nil (some r184) .nil) (some r120) (.node (.node .nil (some r376) .nil) (some r248) .nil))))) (some r4) (.node (.node (.node (.node (.node (.node .nil (some r260) .nil) (some r132) .nil) (some r68) (.node (.node .nil (some r324) .nil) (some r196) .nil)) (some r36) (.node (.node (.node .nil (some r292) .nil) (some r164) .nil) (some r100) (.node (.node .nil (some r356) .nil) (some r228) .nil))) (some r20) (.node (.node (.node (.node .nil (some r276) .nil) (some r148) .nil) (some r84) (.node (.node .nil (some r340) .nil) (some r212) .nil)) (some r52) (.node (.node (.node .nil (some r308) .nil) (some r180) .nil) (some r116) (.node (.node .nil (some r372) .nil) (some r244) .nil)))) (some r12) (.node (.node (.node (.node (.node .nil (some r268) .nil) (some r140) (.node .nil (some r396) .nil)) (some r76) (.node (.node .nil (some r332) .nil) none .nil)) (some r44) (.node (.node (.node .nil (some r300) .nil) (some r172) .nil) (some r108) (.node (.node .nil (some r364) .nil) (some r236) .nil))) (some r28) (.node (.node (.node (.node .nil (some r284) .nil) (some r156) .nil) (some r92) (.node (.node .nil (some r348) .nil) (some r220) .nil)) none (.node (.node (.node .nil (some r316) .nil) (some r188) .nil) (some r124) (.node (.node .nil (some r380) .nil) (some r252) .nil)))))) (some r2) (.node (.node (.node (.node (.node (.node (.node .nil (some r258) .nil) (some r130) (.node .nil (some r386) .nil)) (some r66) (.node (.node .nil (some r322) .nil) (some r194) .nil)) (some r34) (.node (.node (.node .nil (some r290) .nil) (some r162) .nil) (some r98) (.node (.node .nil (some r354) .nil) (some r226) .nil))) (some r18) (.node (.node (.node (.node .nil (some r274) .nil) (some r146) .nil) (some r82) (.node (.node .nil (some r338) .nil) (some r210) .nil)) (some r50) (.node (.node (.node .nil (some r306) .nil) (some r178) .nil) (some r114) (.node (.node .nil (some r370) .nil) (some r242) .nil)))) (some r10) (.node (.node (.node (.node .nil (some r138) (.node .nil (some r394) .nil)) (some r74) (.node (.node .nil (some r330) .nil) (some r202) .nil)) (some r42) (.node (.node (.node .nil (some r298) .nil) (some r170) .nil) (some r106) (.node (.node .nil (some r362) .nil) (some r234) .nil))) (some r26) (.node (.node (.node (.node .nil (some r282) .nil) (some r154) .nil) (some r90) (.node (.node .nil (some r346) .nil) (some r218) .nil)) (some r58) (.node (.node (.node .nil (some r314) .nil) (some r186) .nil) none (.node .nil (some r250) .nil))))) (some r6) (.node (.node (.node (.node (.node .nil none (.node .nil (some r390) .nil)) (some r70) (.node (.node .nil (some r326) .nil) (some r198) .nil)) (some r38) (.node (.node (.node .nil (some r294) .nil) (some r166) .nil) (some r102) (.node (.node .nil (some r358) .nil) (some r230) .nil))) (some r22) (.node (.node (.node (.node .nil (some r278) .nil) (some r150) .nil) (some r86) (.node (.node .nil (some r342) .nil) (some r214) .nil)) (some r54) (.node (.node (.node .nil (some r310) .nil) (some r182) .nil) (some r118) (.node (.node .nil (some r374) .nil) none .nil)))) (some r14) (.node (.node (.node (.node (.node .nil (some r270) .nil) (some r142) (.node .nil (some r398) .nil)) (some r78) (.node (.node .nil (some r334) .nil) (some r206) .nil)) none (.node (.node (.node .nil (some r302) .nil) none .nil) (some r110) (.node (.node .nil (some r366) .nil) (some r238) .nil))) (some r30) (.node (.node (.node (.node .nil (some r286) .nil) (some r158) .nil) (some r94) (.node (.node .nil (some r350) .nil) (some r222) .nil)) none (.node (.node (.node .nil (some r318) .nil) (some r190) .nil) (some r126) (.node (.node .nil (some r382) .nil) (some r254) .nil))))))))
noncomputable def g2:GF:=⟨Tryz.f2,[]⟩
noncomputable def g3:GF:=⟨Tryz.f3,[]⟩
noncomputable def g4:GF:=⟨Tryz.f4,[(6,[(0,[]),(1,[]),(2,[]),(3,[]),(4,[]),(5,[]),(6,[]),(7,[])]),(11,[(0,[]),(1,[]),(2,[]),(3,[]),(4,[]),(5,[]),(6,[]),(7,[]),(8,[]),(9,[]),(10,[]),(11,[]),(12,[]),(13,[]),(14,[]),(15,[]),(16,[]),(17,[]),(18,[]),(19,[]),(20,[]),(21,[]),(22,[]),(23,[]),(24,[]),(25,[]),(26,[]),(27,[])])]⟩
noncomputable def g5:GF:=⟨Tryz.f5,[]⟩
noncomputable def g6:GF:=⟨Tryz.f6,[]⟩
noncomputable def g7:GF:=⟨Tryz.f7,[]⟩
noncomputable def g8:GF:=⟨Tryz.f8,[]⟩
noncomputable def g9:GF:=⟨Tryz.f9,[(13,[(0,[]),(1,[]),(2,[]),(3,[]),(4,[]),(5,[]),(6,[]),(7,[]),(8,[]),(9,[0,1,4,6]),(10,[]),(11,[]),(12,[0]),(13,[]),(14,[]),(15,[])])]⟩
noncomputable def g10:GF:=⟨Tryz.f10,[]⟩
noncomputable def g11:GF:=⟨Tryz.f11,[]⟩
noncomputable def g12:GF:=⟨Tryz.f12,[(5,[(1,[]),(2,[]),(3,[]),(5,[]),(0,[2]),(4,[]),(6,[])]),(8,[(0,[]),(1,[]),(2,[]),(4,[]),(5,[]),(6,[]),(3,[1,6]),(7,[1]),(8,[]),(9,[]),(10,[]),(11,[]),(12,[]),(13,[]),(14,[])])]⟩
noncomputable def g13:GF:=⟨Tryz.f13,[(6,[(0,[]),(1,[]),(2,[]),(3,[]),(4,[]),(5,[]),(6,[]),(7,[]),(8,[])])]⟩
noncomputable def g14:GF:=⟨Tryz.f14,[]⟩
noncomputable def g15:GF:=⟨Tryz.f15,[]⟩
noncomputable def g16:GF:=⟨Tryz.f16,[]⟩
noncomputable def g17:GF:=⟨Tryz.f17,[]⟩
noncomputable def g18:GF:=⟨Tryz.f18,[]⟩
noncomputable def g19:GF:=⟨Tryz.f19,[]⟩
noncomputable def g20:GF:=⟨Tryz.f20,[(1,[(0,[]),(1,[]),(2,[]),(3,[]),(4,[]),(5,[]),(6,[]),(7,[]),(8,[]),(9,[]),(10,[]),(11,[]),(12,[]),(13,[]),(14,[]),(15,[]),(16,[]),(17,[]),(18,[]),(19,[]),(20,[]),(21,[]),(22,[]),(23,[]),(24,[]),(25,[]),(26,[]),(27,[]),(28,[]),(29,[])])]⟩
noncomputable def g21:GF:=⟨Tryz.f21,[]⟩
noncomputable def g22:GF:=⟨Tryz.f22,[]⟩
noncomputable def g23:GF:=⟨Tryz.f23,[]⟩
noncomputable def g24:GF:=⟨Tryz.f24,[]⟩
noncomputable def g25:GF:=⟨Tryz.f25,[]⟩
noncomputable def g26:GF:=⟨Tryz.f26,[(6,[(0,[]),(1,[]),(2,[]),(3,[]),(4,[]),(5,[]),(6,[]),(7,[]),(8,[]),(9,[]),(10,[]),(11,[]),(12,[]),(13,[]),(14,[]),(15,[]),(16,[]),(17,[]),(18,[]),(19,[])])]⟩
noncomputable def g28:GF:=⟨Tryz.f28,[]⟩
noncomputable def g29:GF:=⟨Tryz.f29,[]⟩
noncomputable def g30:GF:=⟨Tryz.f30,[]⟩
noncomputable def g31:GF:=⟨Tryz.f31,[(3,[(0,[]),(1,[]),(2,[]),(4,[]),(5,[]),(6,[]),(3,[6]),(8,[]),(9,[]),(7,[]),(10,[]),(11,[]),(12,[]),(13,[])]),(6,[(0,[]),(1,[]),(2,[]),(4,[]),(5,[]),(6,[]),(3,[6]),(8,[]),(9,[]),(7,[]),(10,[]),(11,[]),(12,[]),(13,[])])]⟩
noncomputable def g32:GF:=⟨Tryz.f32,[]⟩
noncomputable def g33:GF:=⟨Tryz.f33,[]⟩
noncomputable def g34:GF:=⟨Tryz.f34,[]⟩
noncomputable def g36:GF:=⟨Tryz.f36,[(0,[(0,[]),(2,[]),(1,[2]),(3,[])])]⟩
noncomputable def g37:GF:=⟨Tryz.f37,[]⟩
noncomputable def g38:GF:=⟨Tryz.f38,[(10,[(0,[]),(1,[]),(2,[]),(3,[]),(5,[]),(6,[]),(7,[]),(4,[6]),(8,[]),(9,[]),(10,[]),(11,[]),(12,[])]),(19,[(0,[]),(1,[]),(2,[]),(4,[]),(5,[]),(6,[]),(7,[]),(3,[6]),(8,[]),(9,[]),(10,[]),(11,[])]),(28,[(0,[]),(1,[]),(2,[]),(3,[]),(5,[]),(6,[]),(7,[]),(4,[6]),(8,[]),(9,[]),(10,[]),(11,[]),(12,[])])]⟩
noncomputable def g39:GF:=⟨Tryz.f39,[]⟩
noncomputable def g40:GF:=⟨Tryz.f40,[]⟩
noncomputable def g41:GF:=⟨Tryz.f41,[]⟩
noncomputable def g42:GF:=⟨Tryz.f42,[]⟩
noncomputable def g43:GF:=⟨Tryz.f43,[]⟩
noncomputable def g44:GF:=⟨Tryz.f44,[]⟩
noncomputable def g45:GF:=⟨Tryz.f45,[]⟩
noncomputable def g46:GF:=⟨Tryz.f46,[]⟩
noncomputable def g47:GF:=⟨Tryz.f47,[]⟩
noncomputable def g48:GF:=⟨Tryz.f48,[]⟩
noncomputable def g49:GF:=⟨Tryz.f49,[]⟩
noncomputable def g50:GF:=⟨Tryz.f50,[]⟩
noncomputable def g51:GF:=⟨Tryz.f51,[]⟩
noncomputable def g52:GF:=⟨Tryz.f52,[]⟩
noncomputable def g53:GF:=⟨Tryz.f53,[]⟩
noncomputable def g54:GF:=⟨Tryz.f54,[(16,[(0,[]),(1,[]),(2,[]),(3,[]),(4,[]),(5,[]),(6,[]),(7,[]),(8,[]),(9,[]),(10,[]),(11,[]),(12,[]),(13,[]),(14,[]),(15,[])])]⟩
noncomputable def g55:GF:=⟨Tryz.f55,[]⟩
noncomputable def g56:GF:=⟨Tryz.f56,[]⟩
noncomputable def g57:GF:=⟨Tryz.f57,[(8,[(0,[]),(1,[]),(2,[]),(3,[]),(4,[]),(5,[]),(6,[]),(7,[]),(8,[]),(9,[]),(10,[]),(11,[]),(12,[]),(13,[]),(14,[]),(15,[]),(16,[]),(17,[]),(18,[]),(19,[]),(20,[]),(21,[]),(22,[])])]⟩
noncomputable def g58:GF:=⟨Tryz.f58,[]⟩
noncomputable def g59:GF:=⟨Tryz.f59,[]⟩
noncomputable def g60:GF:=⟨Tryz.f60,[(2,[(0,[]),(1,[]),(2,[]),(3,[]),(4,[]),(5,[]),(6,[]),(7,[]),(8,[]),(9,[])])]⟩
noncomputable def g61:GF:=⟨Tryz.f61,[(10,[(0,[]),(1,[]),(2,[]),(3,[]),(4,[]),(5,[]),(6,[]),(7,[]),(8,[]),(9,[])])]⟩
noncomputable def g62:GF:=⟨Tryz.f62,[]⟩
noncomputable def g63:GF:=⟨Tryz.f63,[]⟩
noncomputable def g64:GF:=⟨Tryz.f64,[]⟩
noncomputable def g65:GF:=⟨Tryz.f65,[]⟩
noncomputable def g66:GF:=⟨Tryz.f66,[(3,[(0,[]),(1,[]),(2,[]),(4,[]),(5,[]),(6,[]),(8,[]),(9,[]),(3,[4,6,9]),(7,[9]),(10,[]),(11,[]),(12,[]),(13,[]),(14,[]),(15,[]),(16,[]),(17,[]),(18,[])])]⟩
noncomputable def g67:GF:=⟨Tryz.f67,[]⟩
noncomputable def g68:GF:=⟨Tryz.f68,[]⟩
noncomputable def g69:GF:=⟨Tryz.f69,[]⟩
noncomputable def g70:GF:=⟨Tryz.f70,[]⟩
noncomputable def g71:GF:=⟨Tryz.f71,[(1,[(0,[]),(1,[]),(2,[]),(3,[]),(4,[0]),(5,[]),(6,[]),(7,[])])]⟩
noncomputable def g72:GF:=⟨Tryz.f72,[(5,[(0,[]),(1,[]),(2,[]),(3,[]),(4,[]),(5,[]),(6,[]),(7,[]),(8,[]),(9,[]),(10,[]),(11,[]),(12,[]),(13,[]),(14,[]),(15,[]),(16,[]),(17,[]),(18,[])])]⟩
noncomputable def g73:GF:=⟨Tryz.f73,[]⟩
noncomputable def g74:GF:=⟨Tryz.f74,[(1,[(0,[]),(1,[]),(2,[]),(3,[]),(4,[]),(5,[]),(6,[]),(7,[]),(8,[]),(9,[]),(10,[]),(11,[]),(12,[]),(13,[]),(14,[])])]⟩
noncomputable def g75:GF:=⟨Tryz.f75,[]⟩
noncomputable def g76:GF:=⟨Tryz.f76,[]⟩
noncomputable def g77:GF:=⟨Tryz.f77,[]⟩
noncomputable def g78:GF:=⟨Tryz.f78,[]⟩
noncomputable def g79:GF:=⟨Tryz.f79,[]⟩
noncomputable def g80:GF:=⟨Tryz.f80,[]⟩
noncomputable def g81:GF:=⟨Tryz.f81,[]⟩
noncomputable def g82:GF:=⟨Tryz.f82,[]⟩
noncomputable def g83:GF:=⟨Tryz.f83,[]⟩
noncomputable def g84:GF:=⟨Tryz.f84,[]⟩
noncomputable def g85:GF:=⟨Tryz.f85,[]⟩
noncomputable def g86:GF:=⟨Tryz.f86,[]⟩
noncomputable def g87:GF:=⟨Tryz.f87,[]⟩
noncomputable def g88:GF:=⟨Tryz.f88,[]⟩
noncomputable def g89:GF:=⟨Tryz.f89,[(10,[(0,[]),(1,[]),(2,[]),(3,[]),(4,[]),(5,[]),(6,[]),(7,[]),(8,[]),(9,[]),(10,[]),(11,[]),(12,[])]),(19,[(0,[]),(1,[]),(2,[]),(3,[]),(4,[]),(5,[]),(6,[]),(7,[]),(8,[]),(9,[]),(10,[5,8]),(11,[]),(12,[8]),(13,[]),(14,[])]),(21,[(0,[]),(1,[]),(2,[]),(3,[]),(4,[]),(5,[]),(6,[]),(7,[]),(8,[]),(9,[]),(10,[5,8]),(11,[]),(12,[8]),(13,[]),(14,[])]),(23,[(0,[]),(1,[]),(2,[]),(3,[]),(4,[]),(5,[]),(6,[]),(7,[5]),(8,[]),(9,[])]),(25,[(0,[]),(1,[]),(2,[]),(3,[]),(4,[]),(5,[]),(6,[]),(7,[5]),(8,[]),(9,[])]),(27,[(0,[]),(1,[]),(2,[]),(3,[]),(4,[]),(5,[]),(6,[]),(7,[]),(8,[]),(9,[]),(10,[5,8]),(11,[]),(12,[8]),(13,[]),(14,[])]),(29,[(0,[]),(1,[]),(2,[]),(3,[]),(4,[]),(5,[]),(6,[]),(7,[5]),(8,[]),(9,[])]),(31,[(0,[]),(1,[]),(2,[]),(3,[]),(4,[]),(5,[]),(6,[]),(7,[5]),(8,[]),(9,[])])]⟩
noncomputable def g90:GF:=⟨Tryz.f90,[]⟩
noncomputable def g91:GF:=⟨Tryz.f91,[]⟩
noncomputable def g92:GF:=⟨Tryz.f92,[]⟩
noncomputable def g93:GF:=⟨Tryz.f93,[]⟩
noncomputable def g94:GF:=⟨Tryz.f94,[(5,[(0,[]),(1,[]),(2,[]),(3,[]),(4,[]),(5,[]),(6,[]),(7,[])])]⟩
noncomputable def g95:GF:=⟨Tryz.f95,[(11,[(0,[]),(1,[]),(2,[]),(3,[]),(4,[]),(5,[]),(6,[]),(7,[]),(8,[])]),(15,[(0,[]),(1,[]),(2,[]),(3,[]),(4,[]),(5,[]),(6,[]),(7,[]),(8,[])])]⟩
noncomputable def g96:GF:=⟨Tryz.f96,[]⟩
noncomputable def g97:GF:=⟨Tryz.f97,[]⟩
noncomputable def g98:GF:=⟨Tryz.f98,[]⟩
noncomputable def g99:GF:=⟨Tryz.f99,[]⟩
noncomputable def g100:GF:=⟨Tryz.f100,[]⟩
noncomputable def g101:GF:=⟨Tryz.f101,[(2,[(0,[]),(1,[]),(2,[]),(3,[]),(4,[]),(5,[]),(6,[]),(7,[]),(8,[]),(9,[]),(10,[])]),(9,[(0,[]),(1,[]),(2,[]),(3,[]),(4,[]),(5,[]),(6,[])])]⟩
noncomputable def g102:GF:=⟨Tryz.f102,[]⟩
noncomputable def g103:GF:=⟨Tryz.f103,[]⟩
noncomputable def g104:GF:=⟨Tryz.f104,[]⟩
noncomputable def g105:GF:=⟨Tryz.f105,[]⟩
noncomputable def g106:GF:=⟨Tryz.f106,[(1,[(0,[]),(1,[]),(2,[]),(3,[]),(4,[]),(5,[]),(6,[]),(7,[]),(8,[]),(9,[]),(10,[]),(11,[]),(12,[]),(13,[]),(14,[]),(19,[]),(15,[]),(16,[]),(17,[]),(18,[]),(20,[]),(21,[])])]⟩
noncomputable def g107:GF:=⟨Tryz.f107,[]⟩
noncomputable def g108:GF:=⟨Tryz.f108,[(1,[(0,[]),(1,[]),(2,[]),(3,[]),(4,[]),(5,[]),(6,[]),(7,[]),(8,[]),(9,[])]),(3,[(0,[]),(1,[]),(2,[]),(3,[]),(4,[]),(5,[]),(6,[]),(7,[]),(8,[]),(9,[]),(10,[]),(11,[]),(12,[]),(13,[]),(14,[]),(15,[]),(16,[]),(17,[])])]⟩
noncomputable def g109:GF:=⟨Tryz.f109,[(1,[(0,[]),(1,[]),(2,[]),(3,[]),(4,[]),(5,[]),(6,[]),(7,[]),(8,[]),(9,[])]),(3,[(0,[]),(1,[]),(2,[]),(3,[]),(4,[]),(5,[]),(6,[]),(7,[]),(8,[]),(9,[]),(10,[]),(11,[]),(12,[]),(13,[]),(14,[])])]⟩
noncomputable def g110:GF:=⟨Tryz.f110,[]⟩
noncomputable def g111:GF:=⟨Tryz.f111,[]⟩
noncomputable def g112:GF:=⟨Tryz.f112,[(1,[(0,[]),(1,[]),(2,[]),(3,[]),(4,[]),(5,[]),(6,[]),(7,[]),(8,[]),(9,[]),(10,[]),(11,[]),(12,[]),(13,[]),(14,[]),(15,[])])]⟩
noncomputable def g113:GF:=⟨Tryz.f113,[]⟩
noncomputable def g114:GF:=⟨Tryz.f114,[(1,[(0,[]),(1,[]),(2,[]),(3,[]),(4,[]),(5,[]),(6,[]),(7,[]),(8,[]),(9,[]),(10,[]),(11,[]),(12,[]),(13,[])])]⟩
noncomputable def g115:GF:=⟨Tryz.f115,[]⟩
noncomputable def g116:GF:=⟨Tryz.f116,[]⟩
noncomputable def g117:GF:=⟨Tryz.f117,[]⟩
noncomputable def g118:GF:=⟨Tryz.f118,[]⟩
noncomputable def g119:GF:=⟨Tryz.f119,[]⟩
noncomputable def g120:GF:=⟨Tryz.f120,[]⟩
noncomputable def g121:GF:=⟨Tryz.f121,[]⟩
noncomputable def g122:GF:=⟨Tryz.f122,[]⟩
noncomputable def g123:GF:=⟨Tryz.f123,[]⟩
noncomputable def g124:GF:=⟨Tryz.f124,[]⟩
noncomputable def g125:GF:=⟨Tryz.f125,[]⟩
noncomputable def g126:GF:=⟨Tryz.f126,[]⟩
noncomputable def g127:GF:=⟨Tryz.f127,[]⟩
noncomputable def g128:GF:=⟨Tryz.f128,[]⟩
noncomputable def g129:GF:=⟨Tryz.f129,[]⟩
noncomputable def g130:GF:=⟨Tryz.f130,[]⟩
noncomputable def g131:GF:=⟨Tryz.f131,[]⟩
noncomputable def g132:GF:=⟨Tryz.f132,[]⟩
noncomputable def g133:GF:=⟨Tryz.f133,[(0,[(0,[]),(1,[]),(2,[]),(3,[]),(4,[]),(5,[]),(6,[]),(7,[]),(8,[]),(9,[]),(10,[]),(11,[]),(12,[]),(13,[]),(14,[]),(15,[])])]⟩
noncomputable def g134:GF:=⟨Tryz.f134,[]⟩
noncomputable def g135:GF:=⟨Tryz.f135,[]⟩
noncomputable def g136:GF:=⟨Tryz.f136,[]⟩
noncomputable def g137:GF:=⟨Tryz.f137,[]⟩
noncomputable def g138:GF:=⟨Tryz.f138,[]⟩
noncomputable def g139:GF:=⟨Tryz.f139,[]⟩
noncomputable def g140:GF:=⟨Tryz.f140,[]⟩
noncomputable def g141:GF:=⟨Tryz.f141,[]⟩
noncomputable def g142:GF:=⟨Tryz.f142,[]⟩
noncomputable def g143:GF:=⟨Tryz.f143,[]⟩
noncomputable def g144:GF:=⟨Tryz.f144,[]⟩
noncomputable def g146:GF:=⟨Tryz.f146,[]⟩
noncomputable def g147:GF:=⟨Tryz.f147,[]⟩
noncomputable def g148:GF:=⟨Tryz.f148,[]⟩
noncomputable def g149:GF:=⟨Tryz.f149,[]⟩
noncomputable def g150:GF:=⟨Tryz.f150,[]⟩
noncomputable def g151:GF:=⟨Tryz.f151,[]⟩
noncomputable def g152:GF:=⟨Tryz.f152,[]⟩
noncomputable def g153:GF:=⟨Tryz.f153,[(1,[(0,[]),(1,[]),(2,[]),(3,[]),(4,[0]),(5,[]),(6,[]),(7,[0]),(8,[]),(9,[]),(10,[]),(11,[]),(12,[]),(13,[]),(14,[])]),(13,[(0,[]),(1,[]),(2,[]),(3,[]),(4,[]),(5,[]),(6,[]),(8,[]),(7,[]),(9,[])])]⟩
noncomputable def g154:GF:=⟨Tryz.f154,[]⟩
noncomputable def g155:GF:=⟨Tryz.f155,[]⟩
noncomputable def g156:GF:=⟨Tryz.f156,[]⟩
noncomputable def g157:GF:=⟨Tryz.f157,[]⟩
noncomputable def g158:GF:=⟨Tryz.f158,[(1,[(0,[]),(1,[]),(7,[]),(2,[0]),(3,[]),(4,[]),(5,[]),(6,[]),(8,[]),(9,[])]),(12,[(0,[]),(1,[]),(2,[]),(3,[]),(4,[]),(5,[]),(6,[1]),(7,[]),(8,[]),(9,[])]),(17,[(0,[]),(1,[]),(2,[]),(3,[]),(4,[3]),(5,[]),(6,[])])]⟩
noncomputable def g159:GF:=⟨Tryz.f159,[]⟩
noncomputable def g160:GF:=⟨Tryz.f160,[(4,[(0,[]),(1,[]),(2,[]),(3,[]),(4,[]),(5,[]),(6,[]),(7,[]),(8,[]),(9,[]),(10,[]),(11,[])])]⟩
noncomputable def g161:GF:=⟨Tryz.f161,[]⟩
noncomputable def g162:GF:=⟨Tryz.f162,[]⟩
noncomputable def g163:GF:=⟨Tryz.f163,[]⟩
noncomputable def g164:GF:=⟨Tryz.f164,[]⟩
noncomputable def g165:GF:=⟨Tryz.f165,[]⟩
noncomputable def g166:GF:=⟨Tryz.f166,[]⟩
noncomputable def g167:GF:=⟨Tryz.f167,[]⟩
noncomputable def g168:GF:=⟨Tryz.f168,[]⟩
noncomputable def g169:GF:=⟨Tryz.f169,[]⟩
noncomputable def g170:GF:=⟨Tryz.f170,[]⟩
noncomputable def g171:GF:=⟨Tryz.f171,[]⟩
noncomputable def g172:GF:=⟨Tryz.f172,[]⟩
noncomputable def g173:GF:=⟨Tryz.f173,[]⟩
noncomputable def g174:GF:=⟨Tryz.f174,[]⟩
noncomputable def g175:GF:=⟨Tryz.f175,[]⟩
noncomputable def g176:GF:=⟨Tryz.f176,[]⟩
noncomputable def g177:GF:=⟨Tryz.f177,[]⟩
noncomputable def g178:GF:=⟨Tryz.f178,[]⟩
noncomputable def g179:GF:=⟨Tryz.f179,[]⟩
noncomputable def g180:GF:=⟨Tryz.f180,[]⟩
noncomputable def g181:GF:=⟨Tryz.f181,[]⟩
noncomputable def g182:GF:=⟨Tryz.f182,[]⟩
noncomputable def g183:GF:=⟨Tryz.f183,[]⟩
noncomputable def g184:GF:=⟨Tryz.f184,[]⟩
noncomputable def g185:GF:=⟨Tryz.f185,[]⟩
noncomputable def g186:GF:=⟨Tryz.f186,[]⟩
noncomputable def g187:GF:=⟨Tryz.f187,[]⟩
noncomputable def g188:GF:=⟨Tryz.f188,[]⟩
noncomputable def g189:GF:=⟨Tryz.f189,[]⟩
noncomputable def g190:GF:=⟨Tryz.f190,[]⟩
noncomputable def g191:GF:=⟨Tryz.f191,[]⟩
noncomputable def g192:GF:=⟨Tryz.f192,[]⟩
noncomputable def g193:GF:=⟨Tryz.f193,[]⟩
noncomputable def g194:GF:=⟨Tryz.f194,[]⟩
noncomputable def g195:GF:=⟨Tryz.f195,[(5,[(0,[]),(1,[]),(2,[]),(3,[]),(4,[]),(5,[]),(6,[]),(7,[]),(9,[]),(11,[]),(12,[]),(13,[]),(14,[]),(15,[]),(16,[]),(17,[]),(18,[]),(8,[3,7,13,17]),(10,[]),(19,[3,7]),(20,[]),(21,[]),(22,[]),(23,[])])]⟩
noncomputable def g196:GF:=⟨Tryz.f196,[]⟩
noncomputable def g197:GF:=⟨Tryz.f197,[]⟩
noncomputable def g198:GF:=⟨Tryz.f198,[]⟩
noncomputable def g199:GF:=⟨Tryz.f199,[]⟩
noncomputable def g200:GF:=⟨Tryz.f200,[]⟩
noncomputable def g201:GF:=⟨Tryz.f201,[]⟩
noncomputable def g202:GF:=⟨Tryz.f202,[]⟩
noncomputable def g203:GF:=⟨Tryz.f203,[]⟩
noncomputable def g204:GF:=⟨Tryz.f204,[]⟩
noncomputable def g205:GF:=⟨Tryz.f205,[]⟩
noncomputable def g206:GF:=⟨Tryz.f206,[]⟩
noncomputable def g207:GF:=⟨Tryz.f207,[]⟩
noncomputable def g208:GF:=⟨Tryz.f208,[]⟩
noncomputable def g209:GF:=⟨Tryz.f209,[]⟩
noncomputable def g210:GF:=⟨Tryz.f210,[]⟩
noncomputable def g211:GF:=⟨Tryz.f211,[]⟩
noncomputable def g212:GF:=⟨Tryz.f212,[]⟩
noncomputable def g213:GF:=⟨Tryz.f213,[]⟩
noncomputable def g214:GF:=⟨Tryz.f214,[]⟩
noncomputable def g215:GF:=⟨Tryz.f215,[(7,[(0,[]),(1,[]),(2,[]),(3,[]),(4,[]),(5,[]),(6,[]),(7,[]),(8,[]),(9,[]),(10,[]),(11,[]),(12,[]),(13,[]),(14,[]),(15,[]),(16,[]),(17,[]),(18,[]),(19,[]),(20,[]),(21,[]),(22,[]),(23,[]),(24,[]),(25,[]),(26,[]),(27,[]),(28,[]),(29,[]),(30,[]),(31,[]),(32,[]),(33,[]),(34,[]),(35,[]),(36,[]),(37,[]),(38,[])])]⟩
noncomputable def g216:GF:=⟨Tryz.f216,[(4,[(0,[]),(1,[]),(2,[]),(3,[]),(4,[]),(5,[]),(6,[]),(7,[]),(8,[]),(9,[])])]⟩
noncomputable def g217:GF:=⟨Tryz.f217,[]⟩
noncomputable def g218:GF:=⟨Tryz.f218,[]⟩
noncomputable def g219:GF:=⟨Tryz.f219,[]⟩
noncomputable def g220:GF:=⟨Tryz.f220,[]⟩
noncomputable def g221:GF:=⟨Tryz.f221,[]⟩
noncomputable def g222:GF:=⟨Tryz.f222,[]⟩
noncomputable def g223:GF:=⟨Tryz.f223,[]⟩
noncomputable def g224:GF:=⟨Tryz.f224,[]⟩
noncomputable def g225:GF:=⟨Tryz.f225,[]⟩
noncomputable def g226:GF:=⟨Tryz.f226,[]⟩
noncomputable def g227:GF:=⟨Tryz.f227,[]⟩
noncomputable def g228:GF:=⟨Tryz.f228,[]⟩
noncomputable def g229:GF:=⟨Tryz.f229,[]⟩
noncomputable def g230:GF:=⟨Tryz.f230,[(3,[(0,[]),(1,[]),(2,[]),(3,[]),(4,[]),(5,[]),(6,[]),(7,[]),(8,[]),(9,[]),(10,[]),(11,[]),(12,[]),(13,[]),(14,[]),(15,[])])]⟩
noncomputable def g231:GF:=⟨Tryz.f231,[]⟩
noncomputable def g232:GF:=⟨Tryz.f232,[]⟩
noncomputable def g233:GF:=⟨Tryz.f233,[(3,[(0,[]),(1,[]),(2,[]),(4,[]),(3,[4]),(5,[]),(6,[]),(7,[]),(8,[]),(9,[]),(10,[]),(11,[])])]⟩
noncomputable def g234:GF:=⟨Tryz.f234,[]⟩
noncomputable def g235:GF:=⟨Tryz.f235,[]⟩
noncomputable def g236:GF:=⟨Tryz.f236,[]⟩
noncomputable def g237:GF:=⟨Tryz.f237,[(7,[(0,[]),(1,[]),(3,[]),(2,[0]),(4,[]),(5,[])])]⟩
noncomputable def g238:GF:=⟨Tryz.f238,[]⟩
noncomputable def g239:GF:=⟨Tryz.f239,[(1,[(0,[]),(1,[]),(2,[]),(3,[]),(4,[]),(5,[]),(6,[]),(7,[])])]⟩
noncomputable def g240:GF:=⟨Tryz.f240,[(1,[(0,[]),(1,[]),(2,[]),(3,[]),(4,[]),(5,[]),(6,[]),(7,[])])]⟩
noncomputable def g241:GF:=⟨Tryz.f241,[(1,[(0,[]),(1,[]),(2,[]),(3,[]),(5,[]),(8,[]),(9,[]),(10,[]),(4,[9]),(6,[]),(7,[]),(11,[7]),(12,[]),(13,[])])]⟩
noncomputable def g242:GF:=⟨Tryz.f242,[]⟩
noncomputable def g243:GF:=⟨Tryz.f243,[(2,[(0,[]),(1,[]),(2,[0]),(3,[]),(4,[])]),(6,[(0,[]),(1,[]),(2,[]),(3,[]),(4,[]),(5,[]),(6,[]),(7,[])])]⟩
noncomputable def g244:GF:=⟨Tryz.f244,[]⟩
noncomputable def g245:GF:=⟨Tryz.f245,[]⟩
noncomputable def g246:GF:=⟨Tryz.f246,[]⟩
noncomputable def g247:GF:=⟨Tryz.f247,[(11,[(0,[]),(1,[]),(2,[]),(3,[]),(4,[]),(5,[]),(6,[]),(7,[]),(8,[]),(9,[]),(10,[]),(11,[]),(12,[]),(13,[]),(14,[]),(15,[]),(16,[]),(17,[]),(18,[]),(19,[]),(20,[])]),(23,[(0,[]),(1,[]),(2,[]),(3,[]),(4,[]),(5,[]),(6,[]),(7,[]),(8,[]),(9,[]),(10,[]),(11,[]),(12,[]),(13,[]),(14,[]),(15,[]),(16,[]),(17,[]),(18,[]),(19,[]),(20,[]),(21,[]),(22,[]),(23,[]),(24,[]),(25,[]),(26,[]),(27,[]),(28,[]),(29,[])])]⟩
noncomputable def g248:GF:=⟨Tryz.f248,[(7,[(0,[]),(1,[]),(2,[]),(3,[]),(5,[]),(6,[]),(7,[]),(8,[]),(4,[7]),(9,[]),(10,[]),(11,[])])]⟩
noncomputable def g249:GF:=⟨Tryz.f249,[]⟩
noncomputable def g250:GF:=⟨Tryz.f250,[(9,[(0,[]),(1,[]),(3,[]),(4,[]),(6,[]),(7,[]),(2,[0]),(5,[0]),(8,[]),(9,[])])]⟩
noncomputable def g251:GF:=⟨Tryz.f251,[(2,[(0,[]),(1,[]),(2,[]),(3,[]),(4,[]),(5,[]),(6,[]),(7,[])])]⟩
noncomputable def g252:GF:=⟨Tryz.f252,[]⟩
noncomputable def g253:GF:=⟨Tryz.f253,[]⟩
noncomputable def g254:GF:=⟨Tryz.f254,[]⟩
noncomputable def g255:GF:=⟨Tryz.f255,[]⟩
noncomputable def g256:GF:=⟨Tryz.f256,[]⟩
noncomputable def g257:GF:=⟨Tryz.f257,[]⟩
noncomputable def g258:GF:=⟨Tryz.f258,[]⟩
noncomputable def g259:GF:=⟨Tryz.f259,[(7,[(0,[]),(1,[]),(2,[]),(3,[]),(4,[]),(5,[]),(6,[]),(7,[]),(8,[]),(9,[]),(10,[]),(11,[0]),(12,[]),(13,[])])]⟩
noncomputable def g260:GF:=⟨Tryz.f260,[]⟩
noncomputable def g261:GF:=⟨Tryz.f261,[(9,[(0,[]),(1,[]),(2,[]),(3,[]),(4,[]),(5,[]),(6,[]),(7,[]),(8,[]),(9,[])])]⟩
noncomputable def g262:GF:=⟨Tryz.f262,[]⟩
noncomputable def g263:GF:=⟨Tryz.f263,[]⟩
noncomputable def g264:GF:=⟨Tryz.f264,[]⟩
noncomputable def g266:GF:=⟨Tryz.f266,[]⟩
noncomputable def g267:GF:=⟨Tryz.f267,[]⟩
noncomputable def g268:GF:=⟨Tryz.f268,[]⟩
noncomputable def g269:GF:=⟨Tryz.f269,[]⟩
noncomputable def g270:GF:=⟨Tryz.f270,[]⟩
noncomputable def g271:GF:=⟨Tryz.f271,[]⟩
noncomputable def g272:GF:=⟨Tryz.f272,[]⟩
noncomputable def g273:GF:=⟨Tryz.f273,[]⟩
noncomputable def g289:GF:=⟨Tryz.f289,[]⟩
noncomputable def g290:GF:=⟨Tryz.f290,[]⟩
noncomputable def g291:GF:=⟨Tryz.f291,[]⟩
noncomputable def g292:GF:=⟨Tryz.f292,[]⟩
noncomputable def g293:GF:=⟨Tryz.f293,[]⟩
noncomputable def g294:GF:=⟨Tryz.f294,[]⟩
noncomputable def g295:GF:=⟨Tryz.f295,[]⟩
noncomputable def g296:GF:=⟨Tryz.f296,[]⟩
noncomputable def g297:GF:=⟨Tryz.f297,[(1,[(0,[]),(1,[]),(2,[]),(3,[]),(4,[]),(5,[]),(6,[]),(7,[]),(8,[]),(9,[]),(10,[]),(11,[]),(12,[]),(13,[]),(14,[]),(15,[])])]⟩
noncomputable def g298:GF:=⟨Tryz.f298,[]⟩
noncomputable def g299:GF:=⟨Tryz.f299,[(1,[(0,[]),(1,[]),(2,[]),(3,[]),(4,[]),(5,[]),(6,[]),(7,[]),(8,[]),(9,[]),(10,[]),(11,[]),(12,[]),(13,[]),(14,[]),(15,[]),(16,[]),(17,[]),(18,[]),(19,[])])]⟩
noncomputable def g300:GF:=⟨Tryz.f300,[]⟩
noncomputable def g301:GF:=⟨Tryz.f301,[]⟩
noncomputable def g302:GF:=⟨Tryz.f302,[(1,[(0,[]),(1,[]),(2,[]),(3,[]),(4,[]),(5,[]),(6,[]),(7,[]),(8,[])]),(12,[(0,[]),(1,[]),(2,[]),(3,[]),(4,[]),(5,[]),(6,[]),(7,[]),(8,[]),(9,[]),(10,[]),(11,[]),(12,[])]),(27,[(0,[]),(1,[]),(2,[]),(3,[]),(4,[]),(5,[]),(6,[]),(7,[]),(8,[]),(9,[]),(10,[]),(11,[]),(12,[]),(13,[]),(14,[]),(15,[12]),(16,[]),(17,[]),(18,[])]),(28,[(0,[]),(1,[]),(2,[]),(3,[]),(4,[]),(5,[]),(6,[]),(7,[]),(8,[]),(9,[]),(10,[]),(11,[]),(12,[]),(13,[]),(14,[]),(15,[])])]⟩
noncomputable def g303:GF:=⟨Tryz.f303,[(1,[(0,[]),(1,[]),(2,[]),(3,[]),(4,[]),(5,[]),(6,[]),(7,[]),(8,[]),(9,[]),(10,[]),(11,[]),(12,[]),(13,[]),(14,[]),(15,[]),(16,[]),(17,[]),(18,[]),(19,[]),(20,[]),(21,[]),(22,[]),(23,[]),(24,[]),(25,[]),(26,[]),(27,[]),(28,[]),(29,[])])]⟩
noncomputable def g304:GF:=⟨Tryz.f304,[]⟩
noncomputable def g305:GF:=⟨Tryz.f305,[]⟩
noncomputable def g306:GF:=⟨Tryz.f306,[(1,[(0,[]),(1,[]),(2,[]),(3,[]),(4,[]),(5,[]),(6,[]),(7,[]),(8,[]),(9,[]),(10,[]),(11,[]),(12,[]),(13,[]),(14,[]),(15,[]),(16,[]),(17,[]),(18,[]),(19,[]),(20,[]),(21,[]),(22,[]),(23,[]),(24,[]),(25,[]),(26,[]),(27,[]),(28,[]),(29,[]),(30,[]),(31,[])])]⟩
noncomputable def g307:GF:=⟨Tryz.f307,[(1,[(0,[]),(1,[]),(2,[]),(3,[]),(4,[]),(5,[]),(6,[]),(7,[]),(8,[])]),(2,[(0,[]),(1,[]),(2,[]),(3,[]),(4,[]),(5,[]),(6,[]),(7,[]),(8,[]),(9,[]),(10,[])]),(4,[(0,[]),(1,[]),(2,[]),(3,[]),(4,[]),(5,[]),(6,[]),(7,[]),(8,[]),(9,[]),(10,[]),(11,[]),(12,[])]),(5,[(0,[]),(1,[]),(2,[]),(3,[]),(4,[]),(5,[]),(6,[]),(7,[]),(8,[]),(9,[]),(10,[]),(11,[]),(12,[]),(13,[]),(14,[])])]⟩
noncomputable def g308:GF:=⟨Tryz.f308,[(1,[(0,[]),(1,[]),(2,[]),(3,[]),(4,[]),(5,[]),(6,[]),(7,[]),(8,[]),(9,[]),(10,[]),(11,[]),(12,[]),(13,[]),(14,[]),(15,[]),(16,[]),(17,[]),(18,[]),(19,[]),(20,[]),(21,[]),(22,[]),(23,[]),(24,[]),(25,[]),(26,[]),(27,[]),(28,[]),(29,[]),(30,[]),(31,[]),(32,[]),(33,[]),(34,[]),(35,[]),(36,[]),(37,[]),(38,[]),(39,[]),(40,[]),(41,[]),(42,[]),(43,[]),(44,[]),(45,[]),(46,[]),(47,[]),(48,[]),(49,[])]),(3,[(0,[]),(1,[]),(2,[]),(3,[]),(4,[]),(5,[]),(6,[]),(7,[]),(8,[]),(9,[]),(10,[])]),(4,[(0,[]),(1,[]),(2,[]),(3,[]),(4,[]),(5,[]),(7,[]),(8,[]),(9,[]),(10,[]),(11,[]),(12,[]),(13,[]),(14,[]),(15,[]),(6,[9,11,14]),(16,[]),(17,[]),(18,[])])]⟩
noncomputable def g309:GF:=⟨Tryz.f309,[(1,[(0,[]),(1,[]),(2,[]),(3,[]),(4,[]),(5,[]),(6,[]),(7,[]),(8,[])]),(6,[(0,[]),(1,[]),(2,[]),(3,[]),(4,[]),(5,[]),(6,[]),(7,[]),(8,[]),(9,[]),(10,[])])]⟩
noncomputable def g310:GF:=⟨Tryz.f310,[(1,[(0,[]),(1,[]),(2,[]),(3,[]),(4,[]),(5,[]),(6,[]),(7,[]),(8,[]),(9,[]),(10,[]),(11,[]),(12,[]),(13,[]),(14,[]),(15,[]),(16,[]),(17,[]),(18,[]),(19,[]),(20,[]),(21,[]),(22,[]),(23,[]),(24,[]),(25,[]),(26,[]),(27,[]),(28,[]),(29,[]),(30,[]),(31,[]),(32,[]),(33,[]),(34,[]),(35,[]),(36,[]),(37,[]),(38,[]),(39,[]),(40,[]),(41,[]),(42,[])])]⟩
noncomputable def g311:GF:=⟨Tryz.f311,[(1,[(0,[]),(1,[]),(2,[]),(3,[]),(4,[]),(5,[]),(6,[]),(7,[]),(8,[]),(9,[])])]⟩
noncomputable def g312:GF:=⟨Tryz.f312,[(1,[(0,[]),(1,[]),(2,[]),(3,[]),(4,[]),(5,[]),(6,[]),(7,[]),(8,[]),(9,[]),(10,[]),(11,[]),(12,[]),(13,[]),(14,[]),(15,[]),(16,[]),(17,[]),(18,[]),(19,[]),(20,[]),(21,[]),(22,[]),(23,[]),(24,[]),(25,[]),(26,[]),(27,[]),(28,[]),(29,[]),(30,[]),(31,[]),(32,[]),(33,[]),(34,[]),(35,[]),(36,[]),(37,[]),(38,[])])]⟩
noncomputable def g313:GF:=⟨Tryz.f313,[]⟩
noncomputable def g314:GF:=⟨Tryz.f314,[(1,[(0,[]),(1,[]),(2,[]),(3,[]),(4,[]),(5,[]),(6,[]),(7,[]),(8,[]),(9,[]),(10,[]),(11,[]),(12,[]),(13,[]),(14,[]),(15,[]),(16,[]),(17,[]),(18,[]),(19,[]),(20,[])])]⟩
noncomputable def F:Tr GF:=(.node (.node (.node (.node (.node (.node (.node (.node (.node .nil (some g255) .nil) (some g127) .nil) (some g63) (.node .nil (some g191) .nil)) (some g31) (.node (.node .nil (some g159) .nil) (some g95) (.node .nil (some g223) .nil))) (some g15) (.node (.node (.node (.node .nil (some g271) .nil) (some g143) .nil) (some g79) (.node .nil (some g207) .nil)) (some g47) (.node (.node (.node .nil (some g303) .nil) (some g175) .nil) (some g111) (.node .nil (some g239) .nil)))) (some g7) (.node (.node (.node (.node (.node .nil (some g263) .nil) (some g135) .nil) (some g71) (.node .nil (some g199) .nil)) (some g39) (.node (.node (.node .nil (some g295) .nil) (some g167) .nil) (some g103) (.node .nil (some g231) .nil))) (some g23) (.node (.node (.node .nil (some g151) .nil) (some g87) (.node .nil (some g215) .nil)) (some g55) (.node (.node (.node .nil (some g311) .nil) (some g183) .nil) (some g119) (.node .nil (some g247) .nil))))) (some g3) (.node (.node (.node (.node (.node (.node .nil (some g259) .nil) (some g131) .nil) (some g67) (.node .nil (some g195) .nil)) none (.node (.node (.node .nil (some g291) .nil) (some g163) .nil) (some g99) (.node .nil (some g227) .nil))) (some g19) (.node (.node (.node .nil (some g147) .nil) (some g83) (.node .nil (some g211) .nil)) (some g51) (.node (.node (.node .nil (some g307) .nil) (some g179) .nil) (some g115) (.node .nil (some g243) .nil)))) (some g11) (.node (.node (.node (.node (.node .nil (some g267) .nil) (some g139) .nil) (some g75) (.node .nil (some g203) .nil)) (some g43) (.node (.node (.node .nil (some g299) .nil) (some g171) .nil) (some g107) (.node .nil (some g235) .nil))) none (.node (.node (.node .nil (some g155) .nil) (some g91) (.node .nil (some g219) .nil)) (some g59) (.node (.node .nil (some g187) .nil) (some g123) (.node .nil (some g251) .nil)))))) none (.node (.node (.node (.node (.node (.node (.node .nil (some g257) .nil) (some g129) .nil) (some g65) (.node .nil (some g193) .nil)) (some g33) (.node (.node (.node .nil (some g289) .nil) (some g161) .nil) (some g97) (.node .nil (some g225) .nil))) (some g17) (.node (.node (.node (.node .nil (some g273) .nil) none .nil) (some g81) (.node .nil (some g209) .nil)) (some g49) (.node (.node (.node .nil (some g305) .nil) (some g177) .nil) (some g113) (.node .nil (some g241) .nil)))) (some g9) (.node (.node (.node (.node .nil (some g137) .nil) (some g73) (.node .nil (some g201) .nil)) (some g41) (.node (.node (.node .nil (some g297) .nil) (some g169) .nil) (some g105) (.node .nil (some g233) .nil))) (some g25) (.node (.node (.node .nil (some g153) .nil) (some g89) (.node .nil (some g217) .nil)) (some g57) (.node (.node (.node .nil (some g313) .nil) (some g185) .nil) (some g121) (.node .nil (some g249) .nil))))) (some g5) (.node (.node (.node (.node (.node (.node .nil (some g261) .nil) (some g133) .nil) (some g69) (.node .nil (some g197) .nil)) (some g37) (.node (.node (.node .nil (some g293) .nil) (some g165) .nil) (some g101) (.node .nil (some g229) .nil))) (some g21) (.node (.node (.node .nil (some g149) .nil) (some g85) (.node .nil (some g213) .nil)) (some g53) (.node (.node (.node .nil (some g309) .nil) (some g181) .nil) (some g117) (.node .nil (some g245) .nil)))) (some g13) (.node (.node (.node (.node (.node .nil (some g269) .nil) (some g141) .nil) (some g77) (.node .nil (some g205) .nil)) (some g45) (.node (.node (.node .nil (some g301) .nil) (some g173) .nil) (some g109) (.node .nil (some g237) .nil))) (some g29) (.node (.node (.node .nil (some g157) .nil) (some g93) (.node .nil (some g221) .nil)) (some g61) (.node (.node .nil (some g189) .nil) (some g125) (.node .nil (some g253) .nil))))))) none (.node (.node (.node (.node (.node (.node (.node (.node .nil (some g256) .nil) (some g128) .nil) (some g64) (.node .nil (some g192) .nil)) (some g32) (.node (.node .nil (some g160) .nil) (some g96) (.node .nil (some g224) .nil))) (some g16) (.node (.node (.node (.node .nil (some g272) .nil) (some g144) .nil) (some g80) (.node .nil (some g208) .nil)) (some g48) (.node (.node (.node .nil (some g304) .nil) (some g176) .nil) (some g112) (.node .nil (some g240) .nil)))) (some g8) (.node (.node (.node (.node (.node .nil (some g264) .nil) (some g136) .nil) (some g72) (.node .nil (some g200) .nil)) (some g40) (.node (.node (.node .nil (some g296) .nil) (some g168) .nil) (some g104) (.node .nil (some g232) .nil))) (some g24) (.node (.node (.node .nil (some g152) .nil) (some g88) (.node .nil (some g216) .nil)) (some g56) (.node (.node (.node .nil (some g312) .nil) (some g184) .nil) (some g120) (.node .nil (some g248) .nil))))) (some g4) (.node (.node (.node (.node (.node (.node .nil (some g260) .nil) (some g132) .nil) (some g68) (.node .nil (some g196) .nil)) (some g36) (.node (.node (.node .nil (some g292) .nil) (some g164) .nil) (some g100) (.node .nil (some g228) .nil))) (some g20) (.node (.node (.node .nil (some g148) .nil) (some g84) (.node .nil (some g212) .nil)) (some g52) (.node (.node (.node .nil (some g308) .nil) (some g180) .nil) (some g116) (.node .nil (some g244) .nil)))) (some g12) (.node (.node (.node (.node (.node .nil (some g268) .nil) (some g140) .nil) (some g76) (.node .nil (some g204) .nil)) (some g44) (.node (.node (.node .nil (some g300) .nil) (some g172) .nil) (some g108) (.node .nil (some g236) .nil))) (some g28) (.node (.node (.node .nil (some g156) .nil) (some g92) (.node .nil (some g220) .nil)) (some g60) (.node (.node .nil (some g188) .nil) (some g124) (.node .nil (some g252) .nil)))))) (some g2) (.node (.node (.node (.node (.node (.node (.node .nil (some g258) .nil) (some g130) .nil) (some g66) (.node .nil (some g194) .nil)) (some g34) (.node (.node (.node .nil (some g290) .nil) (some g162) .nil) (some g98) (.node .nil (some g226) .nil))) (some g18) (.node (.node (.node .nil (some g146) .nil) (some g82) (.node .nil (some g210) .nil)) (some g50) (.node (.node (.node .nil (some g306) .nil) (some g178) .nil) (some g114) (.node .nil (some g242) .nil)))) (some g10) (.node (.node (.node (.node (.node .nil (some g266) .nil) (some g138) .nil) (some g74) (.node .nil (some g202) .nil)) (some g42) (.node (.node (.node .nil (some g298) .nil) (some g170) .nil) (some g106) (.node .nil (some g234) .nil))) (some g26) (.node (.node (.node .nil (some g154) .nil) (some g90) (.node .nil (some g218) .nil)) (some g58) (.node (.node (.node .nil (some g314) .nil) (some g186) .nil) (some g122) (.node .nil (some g250) .nil))))) (some g6) (.node (.node (.node (.node (.node (.node .nil (some g262) .nil) (some g134) .nil) (some g70) (.node .nil (some g198) .nil)) (some g38) (.node (.node (.node .nil (some g294) .nil) (some g166) .nil) (some g102) (.node .nil (some g230) .nil))) (some g22) (.node (.node (.node .nil (some g150) .nil) (some g86) (.node .nil (some g214) .nil)) (some g54) (.node (.node (.node .nil (some g310) .nil) (some g182) .nil) (some g118) (.node .nil (some g246) .nil)))) (some g14) (.node (.node (.node (.node (.node .nil (some g270) .nil) (some g142) .nil) (some g78) (.node .nil (some g206) .nil)) (some g46) (.node (.node (.node .nil (some g302) .nil) (some g174) .nil) (some g110) (.node .nil (some g238) .nil))) (some g30) (.node (.node (.node .nil (some g158) .nil) (some g94) (.node .nil (some g222) .nil)) (some g62) (.node (.node .nil (some g190) .nil) (some g126) (.node .nil (some g254) .nil))))))))
end Go.Gm.Tryz
end
section
namespace Go.Gm.Tryz
open Go.Proofs
theorem tok:TabOk Tryz.prog T:=tabOk (by kernel_rfl)
theorem mix:Tryz.prog.follows .mixedOrders=true:=by kernel_rfl
theorem fok2:FnOk Tryz.prog T 2 g2:=.of Tryz.func2 (by kernel_rfl) (by kernel_rfl)
theorem fok3:FnOk Tryz.prog T 3 g3:=.of Tryz.func3 (by kernel_rfl) (by kernel_rfl)
theorem fok4:FnOk Tryz.prog T 4 g4:=.of Tryz.func4 (by kernel_rfl) (by kernel_rfl)
theorem fok5:FnOk Tryz.prog T 5 g5:=.of Tryz.func5 (by kernel_rfl) (by kernel_rfl)
theorem fok6:FnOk Tryz.prog T 6 g6:=.of Tryz.func6 (by kernel_rfl) (by kernel_rfl)
theorem fok7:FnOk Tryz.prog T 7 g7:=.of Tryz.func7 (by kernel_rfl) (by kernel_rfl)
theorem fok8:FnOk Tryz.prog T 8 g8:=.of Tryz.func8 (by kernel_rfl) (by kernel_rfl)
theorem fok9:FnOk Tryz.prog T 9 g9:=.of Tryz.func9 (by kernel_rfl) (by kernel_rfl)
theorem fok10:FnOk Tryz.prog T 10 g10:=.of Tryz.func10 (by kernel_rfl) (by kernel_rfl)
theorem fok11:FnOk Tryz.prog T 11 g11:=.of Tryz.func11 (by kernel_rfl) (by kernel_rfl)
theorem fok12:FnOk Tryz.prog T 12 g12:=.of Tryz.func12 (by kernel_rfl) (by kernel_rfl)
theorem fok13:FnOk Tryz.prog T 13 g13:=.of Tryz.func13 (by kernel_rfl) (by kernel_rfl)
theorem fok14:FnOk Tryz.prog T 14 g14:=.of Tryz.func14 (by kernel_rfl) (by kernel_rfl)
theorem fok15:FnOk Tryz.prog T 15 g15:=.of Tryz.func15 (by kernel_rfl) (by kernel_rfl)
theorem fok16:FnOk Tryz.prog T 16 g16:=.of Tryz.func16 (by kernel_rfl) (by kernel_rfl)
theorem fok17:FnOk Tryz.prog T 17 g17:=.of Tryz.func17 (by kernel_rfl) (by kernel_rfl)
theorem fok18:FnOk Tryz.prog T 18 g18:=.of Tryz.func18 (by kernel_rfl) (by kernel_rfl)
theorem fok19:FnOk Tryz.prog T 19 g19:=.of Tryz.func19 (by kernel_rfl) (by kernel_rfl)
theorem fok20:FnOk Tryz.prog T 20 g20:=.of Tryz.func20 (by kernel_rfl) (by kernel_rfl)
theorem fok21:FnOk Tryz.prog T 21 g21:=.of Tryz.func21 (by kernel_rfl) (by kernel_rfl)
theorem fok22:FnOk Tryz.prog T 22 g22:=.of Tryz.func22 (by kernel_rfl) (by kernel_rfl)
theorem fok23:FnOk Tryz.prog T 23 g23:=.of Tryz.func23 (by kernel_rfl) (by kernel_rfl)
theorem fok24:FnOk Tryz.prog T 24 g24:=.of Tryz.func24 (by kernel_rfl) (by kernel_rfl)
theorem fok25:FnOk Tryz.prog T 25 g25:=.of Tryz.func25 (by kernel_rfl) (by kernel_rfl)
theorem fok26:FnOk Tryz.prog T 26 g26:=.of Tryz.func26 (by kernel_rfl) (by kernel_rfl)
theorem fok28:FnOk Tryz.prog T 28 g28:=.of Tryz.func28 (by kernel_rfl) (by kernel_rfl)
theorem fok29:FnOk Tryz.prog T 29 g29:=.of Tryz.func29 (by kernel_rfl) (by kernel_rfl)
theorem fok30:FnOk Tryz.prog T 30 g30:=.of Tryz.func30 (by kernel_rfl) (by kernel_rfl)
theorem fok31:FnOk Tryz.prog T 31 g31:=.of Tryz.func31 (by kernel_rfl) (by kernel_rfl)
theorem fok32:FnOk Tryz.prog T 32 g32:=.of Tryz.func32 (by kernel_rfl) (by kernel_rfl)
theorem fok33:FnOk Tryz.prog T 33 g33:=.of Tryz.func33 (by kernel_rfl) (by kernel_rfl)
theorem fok34:FnOk Tryz.prog T 34 g34:=.of Tryz.func34 (by kernel_rfl) (by kernel_rfl)
theorem fok36:FnOk Tryz.prog T 36 g36:=.of Tryz.func36 (by kernel_rfl) (by kernel_rfl)
theorem fok37:FnOk Tryz.prog T 37 g37:=.of Tryz.func37 (by kernel_rfl) (by kernel_rfl)
theorem fok38:FnOk Tryz.prog T 38 g38:=.of Tryz.func38 (by kernel_rfl) (by kernel_rfl)
theorem fok39:FnOk Tryz.prog T 39 g39:=.of Tryz.func39 (by kernel_rfl) (by kernel_rfl)
theorem fok40:FnOk Tryz.prog T 40 g40:=.of Tryz.func40 (by kernel_rfl) (by kernel_rfl)
theorem fok41:FnOk Tryz.prog T 41 g41:=.of Tryz.func41 (by kernel_rfl) (by kernel_rfl)
theorem fok42:FnOk Tryz.prog T 42 g42:=.of Tryz.func42 (by kernel_rfl) (by kernel_rfl)
theorem fok43:FnOk Tryz.prog T 43 g43:=.of Tryz.func43 (by kernel_rfl) (by kernel_rfl)
theorem fok44:FnOk Tryz.prog T 44 g44:=.of Tryz.func44 (by kernel_rfl) (by kernel_rfl)
theorem fok45:FnOk Tryz.prog T 45 g45:=.of Tryz.func45 (by kernel_rfl) (by kernel_rfl)
theorem fok46:FnOk Tryz.prog T 46 g46:=.of Tryz.func46 (by kernel_rfl) (by kernel_rfl)
theorem fok47:FnOk Tryz.prog T 47 g47:=.of Tryz.func47 (by kernel_rfl) (by kernel_rfl)
theorem fok48:FnOk Tryz.prog T 48 g48:=.of Tryz.func48 (by kernel_rfl) (by kernel_rfl)
theorem fok49:FnOk Tryz.prog T 49 g49:=.of Tryz.func49 (by kernel_rfl) (by kernel_rfl)
theorem fok50:FnOk Tryz.prog T 50 g50:=.of Tryz.func50 (by kernel_rfl) (by kernel_rfl)
theorem fok51:FnOk Tryz.prog T 51 g51:=.of Tryz.func51 (by kernel_rfl) (by kernel_rfl)
theorem fok52:FnOk Tryz.prog T 52 g52:=.of Tryz.func52 (by kernel_rfl) (by kernel_rfl)
theorem fok53:FnOk Tryz.prog T 53 g53:=.of Tryz.func53 (by kernel_rfl) (by kernel_rfl)
theorem fok54:FnOk Tryz.prog T 54 g54:=.of Tryz.func54 (by kernel_rfl) (by kernel_rfl)
theorem fok55:FnOk Tryz.prog T 55 g55:=.of Tryz.func55 (by kernel_rfl) (by kernel_rfl)
theorem fok56:FnOk Tryz.prog T 56 g56:=.of Tryz.func56 (by kernel_rfl) (by kernel_rfl)
theorem fok57:FnOk Tryz.prog T 57 g57:=.of Tryz.func57 (by kernel_rfl) (by kernel_rfl)
theorem fok58:FnOk Tryz.prog T 58 g58:=.of Tryz.func58 (by kernel_rfl) (by kernel_rfl)
theorem fok59:FnOk Tryz.prog T 59 g59:=.of Tryz.func59 (by kernel_rfl) (by kernel_rfl)
theorem fok60:FnOk Tryz.prog T 60 g60:=.of Tryz.func60 (by kernel_rfl) (by kernel_rfl)
theorem fok61:FnOk Tryz.prog T 61 g61:=.of Tryz.func61 (by kernel_rfl) (by kernel_rfl)
theorem fok62:FnOk Tryz.prog T 62 g62:=.of Tryz.func62 (by kernel_rfl) (by kernel_rfl)
theorem fok63:FnOk Tryz.prog T 63 g63:=.of Tryz.func63 (by kernel_rfl) (by kernel_rfl)
theorem fok64:FnOk Tryz.prog T 64 g64:=.of Tryz.func64 (by kernel_rfl) (by kernel_rfl)
theorem fok65:FnOk Tryz.prog T 65 g65:=.of Tryz.func65 (by kernel_rfl) (by kernel_rfl)
theorem fok66:FnOk Tryz.prog T 66 g66:=.of Tryz.func66 (by kernel_rfl) (by kernel_rfl)
theorem fok67:FnOk Tryz.prog T 67 g67:=.of Tryz.func67 (by kernel_rfl) (by kernel_rfl)
theorem fok68:FnOk Tryz.prog T 68 g68:=.of Tryz.func68 (by kernel_rfl) (by kernel_rfl)
theorem fok69:FnOk Tryz.prog T 69 g69:=.of Tryz.func69 (by kernel_rfl) (by kernel_rfl)
theorem fok70:FnOk Tryz.prog T 70 g70:=.of Tryz.func70 (by kernel_rfl) (by kernel_rfl)
theorem fok71:FnOk Tryz.prog T 71 g71:=.of Tryz.func71 (by kernel_rfl) (by kernel_rfl)
theorem fok72:FnOk Tryz.prog T 72 g72:=.of Tryz.func72 (by kernel_rfl) (by kernel_rfl)
theorem fok73:FnOk Tryz.prog T 73 g73:=.of Tryz.func73 (by kernel_rfl) (by kernel_rfl)
theorem fok74:FnOk Tryz.prog T 74 g74:=.of Tryz.func74 (by kernel_rfl) (by kernel_rfl)
theorem fok75:FnOk Tryz.prog T 75 g75:=.of Tryz.func75 (by kernel_rfl) (by kernel_rfl)
theorem fok76:FnOk Tryz.prog T 76 g76:=.of Tryz.func76 (by kernel_rfl) (by kernel_rfl)
theorem fok77:FnOk Tryz.prog T 77 g77:=.of Tryz.func77 (by kernel_rfl) (by kernel_rfl)
theorem fok78:FnOk Tryz.prog T 78 g78:=.of Tryz.func78 (by kernel_rfl) (by kernel_rfl)
theorem fok79:FnOk Tryz.prog T 79 g79:=.of Tryz.func79 (by kernel_rfl) (by kernel_rfl)
theorem fok80:FnOk Tryz.prog T 80 g80:=.of Tryz.func80 (by kernel_rfl) (by kernel_rfl)
theorem fok81:FnOk Tryz.prog T 81 g81:=.of Tryz.func81 (by kernel_rfl) (by kernel_rfl)
theorem fok82:FnOk Tryz.prog T 82 g82:=.of Tryz.func82 (by kernel_rfl) (by kernel_rfl)
theorem fok83:FnOk Tryz.prog T 83 g83:=.of Tryz.func83 (by kernel_rfl) (by kernel_rfl)
theorem fok84:FnOk Tryz.prog T 84 g84:=.of Tryz.func84 (by kernel_rfl) (by kernel_rfl)
theorem fok85:FnOk Tryz.prog T 85 g85:=.of Tryz.func85 (by kernel_rfl) (by kernel_rfl)
theorem fok86:FnOk Tryz.prog T 86 g86:=.of Tryz.func86 (by kernel_rfl) (by kernel_rfl)
theorem fok87:FnOk Tryz.prog T 87 g87:=.of Tryz.func87 (by kernel_rfl) (by kernel_rfl)
theorem fok88:FnOk Tryz.prog T 88 g88:=.of Tryz.func88 (by kernel_rfl) (by kernel_rfl)
theorem fok89:FnOk Tryz.prog T 89 g89:=.of Tryz.func89 (by kernel_rfl) (by kernel_rfl)
theorem fok90:FnOk Tryz.prog T 90 g90:=.of Tryz.func90 (by kernel_rfl) (by kernel_rfl)
theorem fok91:FnOk Tryz.prog T 91 g91:=.of Tryz.func91 (by kernel_rfl) (by kernel_rfl)
theorem fok92:FnOk Tryz.prog T 92 g92:=.of Tryz.func92 (by kernel_rfl) (by kernel_rfl)
theorem fok93:FnOk Tryz.prog T 93 g93:=.of Tryz.func93 (by kernel_rfl) (by kernel_rfl)
theorem fok94:FnOk Tryz.prog T 94 g94:=.of Tryz.func94 (by kernel_rfl) (by kernel_rfl)
theorem fok95:FnOk Tryz.prog T 95 g95:=.of Tryz.func95 (by kernel_rfl) (by kernel_rfl)
theorem fok96:FnOk Tryz.prog T 96 g96:=.of Tryz.func96 (by kernel_rfl) (by kernel_rfl)
theorem fok97:FnOk Tryz.prog T 97 g97:=.of Tryz.func97 (by kernel_rfl) (by kernel_rfl)
theorem fok98:FnOk Tryz.prog T 98 g98:=.of Tryz.func98 (by kernel_rfl) (by kernel_rfl)
theorem fok99:FnOk Tryz.prog T 99 g99:=.of Tryz.func99 (by kernel_rfl) (by kernel_rfl)
theorem fok100:FnOk Tryz.prog T 100 g100:=.of Tryz.func100 (by kernel_rfl) (by kernel_rfl)
theorem fok101:FnOk Tryz.prog T 101 g101:=.of Tryz.func101 (by kernel_rfl) (by kernel_rfl)
theorem fok102:FnOk Tryz.prog T 102 g102:=.of Tryz.func102 (by kernel_rfl) (by kernel_rfl)
theorem fok103:FnOk Tryz.prog T 103 g103:=.of Tryz.func103 (by kernel_rfl) (by kernel_rfl)
theorem fok104:FnOk Tryz.prog T 104 g104:=.of Tryz.func104 (by kernel_rfl) (by kernel_rfl)
theorem fok105:FnOk Tryz.prog T 105 g105:=.of Tryz.func105 (by kernel_rfl) (by kernel_rfl)
theorem fok106:FnOk Tryz.prog T 106 g106:=.of Tryz.func106 (by kernel_rfl) (by kernel_rfl)
theorem fok107:FnOk Tryz.prog T 107 g107:=.of Tryz.func107 (by kernel_rfl) (by kernel_rfl)
theorem fok108:FnOk Tryz.prog T 108 g108:=.of Tryz.func108 (by kernel_rfl) (by kernel_rfl)
theorem fok109:FnOk Tryz.prog T 109 g109:=.of Tryz.func109 (by kernel_rfl) (by kernel_rfl)
theorem fok110:FnOk Tryz.prog T 110 g110:=.of Tryz.func110 (by kernel_rfl) (by kernel_rfl)
theorem fok111:FnOk Tryz.prog T 111 g111:=.of Tryz.func111 (by kernel_rfl) (by kernel_rfl)
theorem fok112:FnOk Tryz.prog T 112 g112:=.of Tryz.func112 (by kernel_rfl) (by kernel_rfl)
theorem fok113:FnOk Tryz.prog T 113 g113:=.of Tryz.func113 (by kernel_rfl) (by kernel_rfl)
theorem fok114:FnOk Tryz.prog T 114 g114:=.of Tryz.func114 (by kernel_rfl) (by kernel_rfl)
theorem fok115:FnOk Tryz.prog T 115 g115:=.of Tryz.func115 (by kernel_rfl) (by kernel_rfl)
theorem fok116:FnOk Tryz.prog T 116 g116:=.of Tryz.func116 (by kernel_rfl) (by kernel_rfl)
theorem fok117:FnOk Tryz.prog T 117 g117:=.of Tryz.func117 (by kernel_rfl) (by kernel_rfl)
theorem fok118:FnOk Tryz.prog T 118 g118:=.of Tryz.func118 (by kernel_rfl) (by kernel_rfl)
theorem fok119:FnOk Tryz.prog T 119 g119:=.of Tryz.func119 (by kernel_rfl) (by kernel_rfl)
theorem fok120:FnOk Tryz.prog T 120 g120:=.of Tryz.func120 (by kernel_rfl) (by kernel_rfl)
theorem fok121:FnOk Tryz.prog T 121 g121:=.of Tryz.func121 (by kernel_rfl) (by kernel_rfl)
theorem fok122:FnOk Tryz.prog T 122 g122:=.of Tryz.func122 (by kernel_rfl) (by kernel_rfl)
theorem fok123:FnOk Tryz.prog T 123 g123:=.of Tryz.func123 (by kernel_rfl) (by kernel_rfl)
theorem fok124:FnOk Tryz.prog T 124 g124:=.of Tryz.func124 (by kernel_rfl) (by kernel_rfl)
theorem fok125:FnOk Tryz.prog T 125 g125:=.of Tryz.func125 (by kernel_rfl) (by kernel_rfl)
theorem fok126:FnOk Tryz.prog T 126 g126:=.of Tryz.func126 (by kernel_rfl) (by kernel_rfl)
theorem fok127:FnOk Tryz.prog T 127 g127:=.of Tryz.func127 (by kernel_rfl) (by kernel_rfl)
theorem fok128:FnOk Tryz.prog T 128 g128:=.of Tryz.func128 (by kernel_rfl) (by kernel_rfl)
theorem fok129:FnOk Tryz.prog T 129 g129:=.of Tryz.func129 (by kernel_rfl) (by kernel_rfl)
theorem fok130:FnOk Tryz.prog T 130 g130:=.of Tryz.func130 (by kernel_rfl) (by kernel_rfl)
theorem fok131:FnOk Tryz.prog T 131 g131:=.of Tryz.func131 (by kernel_rfl) (by kernel_rfl)
theorem fok132:FnOk Tryz.prog T 132 g132:=.of Tryz.func132 (by kernel_rfl) (by kernel_rfl)
theorem fok133:FnOk Tryz.prog T 133 g133:=.of Tryz.func133 (by kernel_rfl) (by kernel_rfl)
theorem fok134:FnOk Tryz.prog T 134 g134:=.of Tryz.func134 (by kernel_rfl) (by kernel_rfl)
theorem fok135:FnOk Tryz.prog T 135 g135:=.of Tryz.func135 (by kernel_rfl) (by kernel_rfl)
theorem fok136:FnOk Tryz.prog T 136 g136:=.of Tryz.func136 (by kernel_rfl) (by kernel_rfl)
theorem fok137:FnOk Tryz.prog T 137 g137:=.of Tryz.func137 (by kernel_rfl) (by kernel_rfl)
theorem fok138:FnOk Tryz.prog T 138 g138:=.of Tryz.func138 (by kernel_rfl) (by kernel_rfl)
theorem fok139:FnOk Tryz.prog T 139 g139:=.of Tryz.func139 (by kernel_rfl) (by kernel_rfl)
theorem fok140:FnOk Tryz.prog T 140 g140:=.of Tryz.func140 (by kernel_rfl) (by kernel_rfl)
theorem fok141:FnOk Tryz.prog T 141 g141:=.of Tryz.func141 (by kernel_rfl) (by kernel_rfl)
theorem fok142:FnOk Tryz.prog T 142 g142:=.of Tryz.func142 (by kernel_rfl) (by kernel_rfl)
theorem fok143:FnOk Tryz.prog T 143 g143:=.of Tryz.func143 (by kernel_rfl) (by kernel_rfl)
theorem fok144:FnOk Tryz.prog T 144 g144:=.of Tryz.func144 (by kernel_rfl) (by kernel_rfl)
theorem fok146:FnOk Tryz.prog T 146 g146:=.of Tryz.func146 (by kernel_rfl) (by kernel_rfl)
theorem fok147:FnOk Tryz.prog T 147 g147:=.of Tryz.func147 (by kernel_rfl) (by kernel_rfl)
theorem fok148:FnOk Tryz.prog T 148 g148:=.of Tryz.func148 (by kernel_rfl) (by kernel_rfl)
theorem fok149:FnOk Tryz.prog T 149 g149:=.of Tryz.func149 (by kernel_rfl) (by kernel_rfl)
theorem fok150:FnOk Tryz.prog T 150 g150:=.of Tryz.func150 (by kernel_rfl) (by kernel_rfl)
theorem fok151:FnOk Tryz.prog T 151 g151:=.of Tryz.func151 (by kernel_rfl) (by kernel_rfl)
theorem fok152:FnOk Tryz.prog T 152 g152:=.of Tryz.func152 (by kernel_rfl) (by kernel_rfl)
theorem fok153:FnOk Tryz.prog T 153 g153:=.of Tryz.func153 (by kernel_rfl) (by kernel_rfl)
theorem fok154:FnOk Tryz.prog T 154 g154:=.of Tryz.func154 (by kernel_rfl) (by kernel_rfl)
theorem fok155:FnOk Tryz.prog T 155 g155:=.of Tryz.func155 (by kernel_rfl) (by kernel_rfl)
theorem fok156:FnOk Tryz.prog T 156 g156:=.of Tryz.func156 (by kernel_rfl) (by kernel_rfl)
theorem fok157:FnOk Tryz.prog T 157 g157:=.of Tryz.func157 (by kernel_rfl) (by kernel_rfl)
theorem fok158:FnOk Tryz.prog T 158 g158:=.of Tryz.func158 (by kernel_rfl) (by kernel_rfl)
theorem fok159:FnOk Tryz.prog T 159 g159:=.of Tryz.func159 (by kernel_rfl) (by kernel_rfl)
theorem fok160:FnOk Tryz.prog T 160 g160:=.of Tryz.func160 (by kernel_rfl) (by kernel_rfl)
theorem fok161:FnOk Tryz.prog T 161 g161:=.of Tryz.func161 (by kernel_rfl) (by kernel_rfl)
theorem fok162:FnOk Tryz.prog T 162 g162:=.of Tryz.func162 (by kernel_rfl) (by kernel_rfl)
theorem fok163:FnOk Tryz.prog T 163 g163:=.of Tryz.func163 (by kernel_rfl) (by kernel_rfl)
theorem fok164:FnOk Tryz.prog T 164 g164:=.of Tryz.func164 (by kernel_rfl) (by kernel_rfl)
theorem fok165:FnOk Tryz.prog T 165 g165:=.of Tryz.func165 (by kernel_rfl) (by kernel_rfl)
theorem fok166:FnOk Tryz.prog T 166 g166:=.of Tryz.func166 (by kernel_rfl) (by kernel_rfl)
theorem fok167:FnOk Tryz.prog T 167 g167:=.of Tryz.func167 (by kernel_rfl) (by kernel_rfl)
theorem fok168:FnOk Tryz.prog T 168 g168:=.of Tryz.func168 (by kernel_rfl) (by kernel_rfl)
theorem fok169:FnOk Tryz.prog T 169 g169:=.of Tryz.func169 (by kernel_rfl) (by kernel_rfl)
theorem fok170:FnOk Tryz.prog T 170 g170:=.of Tryz.func170 (by kernel_rfl) (by kernel_rfl)
theorem fok171:FnOk Tryz.prog T 171 g171:=.of Tryz.func171 (by kernel_rfl) (by kernel_rfl)
theorem fok172:FnOk Tryz.prog T 172 g172:=.of Tryz.func172 (by kernel_rfl) (by kernel_rfl)
theorem fok173:FnOk Tryz.prog T 173 g173:=.of Tryz.func173 (by kernel_rfl) (by kernel_rfl)
theorem fok174:FnOk Tryz.prog T 174 g174:=.of Tryz.func174 (by kernel_rfl) (by kernel_rfl)
theorem fok175:FnOk Tryz.prog T 175 g175:=.of Tryz.func175 (by kernel_rfl) (by kernel_rfl)
theorem fok176:FnOk Tryz.prog T 176 g176:=.of Tryz.func176 (by kernel_rfl) (by kernel_rfl)
theorem fok177:FnOk Tryz.prog T 177 g177:=.of Tryz.func177 (by kernel_rfl) (by kernel_rfl)
theorem fok178:FnOk Tryz.prog T 178 g178:=.of Tryz.func178 (by kernel_rfl) (by kernel_rfl)
theorem fok179:FnOk Tryz.prog T 179 g179:=.of Tryz.func179 (by kernel_rfl) (by kernel_rfl)
theorem fok180:FnOk Tryz.prog T 180 g180:=.of Tryz.func180 (by kernel_rfl) (by kernel_rfl)
theorem fok181:FnOk Tryz.prog T 181 g181:=.of Tryz.func181 (by kernel_rfl) (by kernel_rfl)
theorem fok182:FnOk Tryz.prog T 182 g182:=.of Tryz.func182 (by kernel_rfl) (by kernel_rfl)
theorem fok183:FnOk Tryz.prog T 183 g183:=.of Tryz.func183 (by kernel_rfl) (by kernel_rfl)
theorem fok184:FnOk Tryz.prog T 184 g184:=.of Tryz.func184 (by kernel_rfl) (by kernel_rfl)
theorem fok185:FnOk Tryz.prog T 185 g185:=.of Tryz.func185 (by kernel_rfl) (by kernel_rfl)
theorem fok186:FnOk Tryz.prog T 186 g186:=.of Tryz.func186 (by kernel_rfl) (by kernel_rfl)
theorem fok187:FnOk Tryz.prog T 187 g187:=.of Tryz.func187 (by kernel_rfl) (by kernel_rfl)
theorem fok188:FnOk Tryz.prog T 188 g188:=.of Tryz.func188 (by kernel_rfl) (by kernel_rfl)
theorem fok189:FnOk Tryz.prog T 189 g189:=.of Tryz.func189 (by kernel_rfl) (by kernel_rfl)
theorem fok190:FnOk Tryz.prog T 190 g190:=.of Tryz.func190 (by kernel_rfl) (by kernel_rfl)
theorem fok191:FnOk Tryz.prog T 191 g191:=.of Tryz.func191 (by kernel_rfl) (by kernel_rfl)
theorem fok192:FnOk Tryz.prog T 192 g192:=.of Tryz.func192 (by kernel_rfl) (by kernel_rfl)
theorem fok193:FnOk Tryz.prog T 193 g193:=.of Tryz.func193 (by kernel_rfl) (by kernel_rfl)
theorem fok194:FnOk Tryz.prog T 194 g194:=.of Tryz.func194 (by kernel_rfl) (by kernel_rfl)
theorem fok195:FnOk Tryz.prog T 195 g195:=.of Tryz.func195 (by kernel_rfl) (by kernel_rfl)
theorem fok196:FnOk Tryz.prog T 196 g196:=.of Tryz.func196 (by kernel_rfl) (by kernel_rfl)
theorem fok197:FnOk Tryz.prog T 197 g197:=.of Tryz.func197 (by kernel_rfl) (by kernel_rfl)
theorem fok198:FnOk Tryz.prog T 198 g198:=.of Tryz.func198 (by kernel_rfl) (by kernel_rfl)
theorem fok199:FnOk Tryz.prog T 199 g199:=.of Tryz.func199 (by kernel_rfl) (by kernel_rfl)
theorem fok200:FnOk Tryz.prog T 200 g200:=.of Tryz.func200 (by kernel_rfl) (by kernel_rfl)
theorem fok201:FnOk Tryz.prog T 201 g201:=.of Tryz.func201 (by kernel_rfl) (by kernel_rfl)
theorem fok202:FnOk Tryz.prog T 202 g202:=.of Tryz.func202 (by kernel_rfl) (by kernel_rfl)
theorem fok203:FnOk Tryz.prog T 203 g203:=.of Tryz.func203 (by kernel_rfl) (by kernel_rfl)
theorem fok204:FnOk Tryz.prog T 204 g204:=.of Tryz.func204 (by kernel_rfl) (by kernel_rfl)
theorem fok205:FnOk Tryz.prog T 205 g205:=.of Tryz.func205 (by kernel_rfl) (by kernel_rfl)
theorem fok206:FnOk Tryz.prog T 206 g206:=.of Tryz.func206 (by kernel_rfl) (by kernel_rfl)
theorem fok207:FnOk Tryz.prog T 207 g207:=.of Tryz.func207 (by kernel_rfl) (by kernel_rfl)
theorem fok208:FnOk Tryz.prog T 208 g208:=.of Tryz.func208 (by kernel_rfl) (by kernel_rfl)
theorem fok209:FnOk Tryz.prog T 209 g209:=.of Tryz.func209 (by kernel_rfl) (by kernel_rfl)
theorem fok210:FnOk Tryz.prog T 210 g210:=.of Tryz.func210 (by kernel_rfl) (by kernel_rfl)
theorem fok211:FnOk Tryz.prog T 211 g211:=.of Tryz.func211 (by kernel_rfl) (by kernel_rfl)
theorem fok212:FnOk Tryz.prog T 212 g212:=.of Tryz.func212 (by kernel_rfl) (by kernel_rfl)
theorem fok213:FnOk Tryz.prog T 213 g213:=.of Tryz.func213 (by kernel_rfl) (by kernel_rfl)
theorem fok214:FnOk Tryz.prog T 214 g214:=.of Tryz.func214 (by kernel_rfl) (by kernel_rfl)
theorem fok215:FnOk Tryz.prog T 215 g215:=.of Tryz.func215 (by kernel_rfl) (by kernel_rfl)
theorem fok216:FnOk Tryz.prog T 216 g216:=.of Tryz.func216 (by kernel_rfl) (by kernel_rfl)
theorem fok217:FnOk Tryz.prog T 217 g217:=.of Tryz.func217 (by kernel_rfl) (by kernel_rfl)
theorem fok218:FnOk Tryz.prog T 218 g218:=.of Tryz.func218 (by kernel_rfl) (by kernel_rfl)
theorem fok219:FnOk Tryz.prog T 219 g219:=.of Tryz.func219 (by kernel_rfl) (by kernel_rfl)
theorem fok220:FnOk Tryz.prog T 220 g220:=.of Tryz.func220 (by kernel_rfl) (by kernel_rfl)
theorem fok221:FnOk Tryz.prog T 221 g221:=.of Tryz.func221 (by kernel_rfl) (by kernel_rfl)
theorem fok222:FnOk Tryz.prog T 222 g222:=.of Tryz.func222 (by kernel_rfl) (by kernel_rfl)
theorem fok223:FnOk Tryz.prog T 223 g223:=.of Tryz.func223 (by kernel_rfl) (by kernel_rfl)
theorem fok224:FnOk Tryz.prog T 224 g224:=.of Tryz.func224 (by kernel_rfl) (by kernel_rfl)
theorem fok225:FnOk Tryz.prog T 225 g225:=.of Tryz.func225 (by kernel_rfl) (by kernel_rfl)
theorem fok226:FnOk Tryz.prog T 226 g226:=.of Tryz.func226 (by kernel_rfl) (by kernel_rfl)
theorem fok227:FnOk Tryz.prog T 227 g227:=.of Tryz.func227 (by kernel_rfl) (by kernel_rfl)
theorem fok228:FnOk Tryz.prog T 228 g228:=.of Tryz.func228 (by kernel_rfl) (by kernel_rfl)
theorem fok229:FnOk Tryz.prog T 229 g229:=.of Tryz.func229 (by kernel_rfl) (by kernel_rfl)
theorem fok230:FnOk Tryz.prog T 230 g230:=.of Tryz.func230 (by kernel_rfl) (by kernel_rfl)
theorem fok231:FnOk Tryz.prog T 231 g231:=.of Tryz.func231 (by kernel_rfl) (by kernel_rfl)
theorem fok232:FnOk Tryz.prog T 232 g232:=.of Tryz.func232 (by kernel_rfl) (by kernel_rfl)
theorem fok233:FnOk Tryz.prog T 233 g233:=.of Tryz.func233 (by kernel_rfl) (by kernel_rfl)
theorem fok234:FnOk Tryz.prog T 234 g234:=.of Tryz.func234 (by kernel_rfl) (by kernel_rfl)
theorem fok235:FnOk Tryz.prog T 235 g235:=.of Tryz.func235 (by kernel_rfl) (by kernel_rfl)
theorem fok236:FnOk Tryz.prog T 236 g236:=.of Tryz.func236 (by kernel_rfl) (by kernel_rfl)
theorem fok237:FnOk Tryz.prog T 237 g237:=.of Tryz.func237 (by kernel_rfl) (by kernel_rfl)
theorem fok238:FnOk Tryz.prog T 238 g238:=.of Tryz.func238 (by kernel_rfl) (by kernel_rfl)
theorem fok239:FnOk Tryz.prog T 239 g239:=.of Tryz.func239 (by kernel_rfl) (by kernel_rfl)
theorem fok240:FnOk Tryz.prog T 240 g240:=.of Tryz.func240 (by kernel_rfl) (by kernel_rfl)
theorem fok241:FnOk Tryz.prog T 241 g241:=.of Tryz.func241 (by kernel_rfl) (by kernel_rfl)
theorem fok242:FnOk Tryz.prog T 242 g242:=.of Tryz.func242 (by kernel_rfl) (by kernel_rfl)
theorem fok243:FnOk Tryz.prog T 243 g243:=.of Tryz.func243 (by kernel_rfl) (by kernel_rfl)
theorem fok244:FnOk Tryz.prog T 244 g244:=.of Tryz.func244 (by kernel_rfl) (by kernel_rfl)
theorem fok245:FnOk Tryz.prog T 245 g245:=.of Tryz.func245 (by kernel_rfl) (by kernel_rfl)
theorem fok246:FnOk Tryz.prog T 246 g246:=.of Tryz.func246 (by kernel_rfl) (by kernel_rfl)
theorem fok247:FnOk Tryz.prog T 247 g247:=.of Tryz.func247 (by kernel_rfl) (by kernel_rfl)
theorem fok248:FnOk Tryz.prog T 248 g248:=.of Tryz.func248 (by kernel_rfl) (by kernel_rfl)
theorem fok249:FnOk Tryz.prog T 249 g249:=.of Tryz.func249 (by kernel_rfl) (by kernel_rfl)
theorem fok250:FnOk Tryz.prog T 250 g250:=.of Tryz.func250 (by kernel_rfl) (by kernel_rfl)
theorem fok251:FnOk Tryz.prog T 251 g251:=.of Tryz.func251 (by kernel_rfl) (by kernel_rfl)
theorem fok252:FnOk Tryz.prog T 252 g252:=.of Tryz.func252 (by kernel_rfl) (by kernel_rfl)
theorem fok253:FnOk Tryz.prog T 253 g253:=.of Tryz.func253 (by kernel_rfl) (by kernel_rfl)
theorem fok254:FnOk Tryz.prog T 254 g254:=.of Tryz.func254 (by kernel_rfl) (by kernel_rfl)
theorem fok255:FnOk Tryz.prog T 255 g255:=.of Tryz.func255 (by kernel_rfl) (by kernel_rfl)
theorem fok256:FnOk Tryz.prog T 256 g256:=.of Tryz.func256 (by kernel_rfl) (by kernel_rfl)
theorem fok257:FnOk Tryz.prog T 257 g257:=.of Tryz.func257 (by kernel_rfl) (by kernel_rfl)
theorem fok258:FnOk Tryz.prog T 258 g258:=.of Tryz.func258 (by kernel_rfl) (by kernel_rfl)
theorem fok259:FnOk Tryz.prog T 259 g259:=.of Tryz.func259 (by kernel_rfl) (by kernel_rfl)
theorem fok260:FnOk Tryz.prog T 260 g260:=.of Tryz.func260 (by kernel_rfl) (by kernel_rfl)
theorem fok261:FnOk Tryz.prog T 261 g261:=.of Tryz.func261 (by kernel_rfl) (by kernel_rfl)
theorem fok262:FnOk Tryz.prog T 262 g262:=.of Tryz.func262 (by kernel_rfl) (by kernel_rfl)
theorem fok263:FnOk Tryz.prog T 263 g263:=.of Tryz.func263 (by kernel_rfl) (by kernel_rfl)
theorem fok264:FnOk Tryz.prog T 264 g264:=.of Tryz.func264 (by kernel_rfl) (by kernel_rfl)
theorem fok266:FnOk Tryz.prog T 266 g266:=.of Tryz.func266 (by kernel_rfl) (by kernel_rfl)
theorem fok267:FnOk Tryz.prog T 267 g267:=.of Tryz.func267 (by kernel_rfl) (by kernel_rfl)
theorem fok268:FnOk Tryz.prog T 268 g268:=.of Tryz.func268 (by kernel_rfl) (by kernel_rfl)
theorem fok269:FnOk Tryz.prog T 269 g269:=.of Tryz.func269 (by kernel_rfl) (by kernel_rfl)
theorem fok270:FnOk Tryz.prog T 270 g270:=.of Tryz.func270 (by kernel_rfl) (by kernel_rfl)
theorem fok271:FnOk Tryz.prog T 271 g271:=.of Tryz.func271 (by kernel_rfl) (by kernel_rfl)
theorem fok272:FnOk Tryz.prog T 272 g272:=.of Tryz.func272 (by kernel_rfl) (by kernel_rfl)
theorem fok273:FnOk Tryz.prog T 273 g273:=.of Tryz.func273 (by kernel_rfl) (by kernel_rfl)
theorem fok289:FnOk Tryz.prog T 289 g289:=.of Tryz.func289 (by kernel_rfl) (by kernel_rfl)
theorem fok290:FnOk Tryz.prog T 290 g290:=.of Tryz.func290 (by kernel_rfl) (by kernel_rfl)
theorem fok291:FnOk Tryz.prog T 291 g291:=.of Tryz.func291 (by kernel_rfl) (by kernel_rfl)
theorem fok292:FnOk Tryz.prog T 292 g292:=.of Tryz.func292 (by kernel_rfl) (by kernel_rfl)
theorem fok293:FnOk Tryz.prog T 293 g293:=.of Tryz.func293 (by kernel_rfl) (by kernel_rfl)
theorem fok294:FnOk Tryz.prog T 294 g294:=.of Tryz.func294 (by kernel_rfl) (by kernel_rfl)
theorem fok295:FnOk Tryz.prog T 295 g295:=.of Tryz.func295 (by kernel_rfl) (by kernel_rfl)
theorem fok296:FnOk Tryz.prog T 296 g296:=.of Tryz.func296 (by kernel_rfl) (by kernel_rfl)
theorem fok297:FnOk Tryz.prog T 297 g297:=.of Tryz.func297 (by kernel_rfl) (by kernel_rfl)
theorem fok298:FnOk Tryz.prog T 298 g298:=.of Tryz.func298 (by kernel_rfl) (by kernel_rfl)
theorem fok299:FnOk Tryz.prog T 299 g299:=.of Tryz.func299 (by kernel_rfl) (by kernel_rfl)
theorem fok300:FnOk Tryz.prog T 300 g300:=.of Tryz.func300 (by kernel_rfl) (by kernel_rfl)
theorem fok301:FnOk Tryz.prog T 301 g301:=.of Tryz.func301 (by kernel_rfl) (by kernel_rfl)
theorem fok302:FnOk Tryz.prog T 302 g302:=.of Tryz.func302 (by kernel_rfl) (by kernel_rfl)
theorem fok303:FnOk Tryz.prog T 303 g303:=.of Tryz.func303 (by kernel_rfl) (by kernel_rfl)
theorem fok304:FnOk Tryz.prog T 304 g304:=.of Tryz.func304 (by kernel_rfl) (by kernel_rfl)
theorem fok305:FnOk Tryz.prog T 305 g305:=.of Tryz.func305 (by kernel_rfl) (by kernel_rfl)
theorem fok306:FnOk Tryz.prog T 306 g306:=.of Tryz.func306 (by kernel_rfl) (by kernel_rfl)
theorem fok307:FnOk Tryz.prog T 307 g307:=.of Tryz.func307 (by kernel_rfl) (by kernel_rfl)
theorem fok308:FnOk Tryz.prog T 308 g308:=.of Tryz.func308 (by kernel_rfl) (by kernel_rfl)
theorem fok309:FnOk Tryz.prog T 309 g309:=.of Tryz.func309 (by kernel_rfl) (by kernel_rfl)
theorem fok310:FnOk Tryz.prog T 310 g310:=.of Tryz.func310 (by kernel_rfl) (by kernel_rfl)
theorem fok311:FnOk Tryz.prog T 311 g311:=.of Tryz.func311 (by kernel_rfl) (by kernel_rfl)
theorem fok312:FnOk Tryz.prog T 312 g312:=.of Tryz.func312 (by kernel_rfl) (by kernel_rfl)
theorem fok313:FnOk Tryz.prog T 313 g313:=.of Tryz.func313 (by kernel_rfl) (by kernel_rfl)
theorem fok314:FnOk Tryz.prog T 314 g314:=.of Tryz.func314 (by kernel_rfl) (by kernel_rfl)
theorem t3:T.get 3=some r3:=by kernel_rfl
theorem t4:T.get 4=some r4:=by kernel_rfl
theorem t9:T.get 9=some r9:=by kernel_rfl
theorem t22:T.get 22=some r22:=by kernel_rfl
theorem t24:T.get 24=some r24:=by kernel_rfl
theorem t25:T.get 25=some r25:=by kernel_rfl
theorem t26:T.get 26=some r26:=by kernel_rfl
theorem t28:T.get 28=some r28:=by kernel_rfl
theorem t31:T.get 31=some r31:=by kernel_rfl
theorem t32:T.get 32=some r32:=by kernel_rfl
theorem t34:T.get 34=some r34:=by kernel_rfl
theorem t35:T.get 35=some r35:=by kernel_rfl
theorem t37:T.get 37=some r37:=by kernel_rfl
theorem t38:T.get 38=some r38:=by kernel_rfl
theorem t39:T.get 39=some r39:=by kernel_rfl
theorem t41:T.get 41=some r41:=by kernel_rfl
theorem t43:T.get 43=some r43:=by kernel_rfl
theorem t45:T.get 45=some r45:=by kernel_rfl
theorem t48:T.get 48=some r48:=by kernel_rfl
theorem t51:T.get 51=some r51:=by kernel_rfl
theorem t52:T.get 52=some r52:=by kernel_rfl
theorem t54:T.get 54=some r54:=by kernel_rfl
theorem t56:T.get 56=some r56:=by kernel_rfl
theorem t58:T.get 58=some r58:=by kernel_rfl
theorem t64:T.get 64=some r64:=by kernel_rfl
theorem t66:T.get 66=some r66:=by kernel_rfl
theorem t76:T.get 76=some r76:=by kernel_rfl
theorem t89:T.get 89=some r89:=by kernel_rfl
theorem t93:T.get 93=some r93:=by kernel_rfl
theorem t95:T.get 95=some r95:=by kernel_rfl
theorem t99:T.get 99=some r99:=by kernel_rfl
theorem t101:T.get 101=some r101:=by kernel_rfl
theorem t108:T.get 108=some r108:=by kernel_rfl
theorem t110:T.get 110=some r110:=by kernel_rfl
theorem t111:T.get 111=some r111:=by kernel_rfl
theorem t114:T.get 114=some r114:=by kernel_rfl
theorem t116:T.get 116=some r116:=by kernel_rfl
theorem t123:T.get 123=some r123:=by kernel_rfl
theorem t125:T.get 125=some r125:=by kernel_rfl
theorem t139:T.get 139=some r139:=by kernel_rfl
theorem t141:T.get 141=some r141:=by kernel_rfl
theorem t143:T.get 143=some r143:=by kernel_rfl
theorem t145:T.get 145=some r145:=by kernel_rfl
theorem t147:T.get 147=some r147:=by kernel_rfl
theorem t149:T.get 149=some r149:=by kernel_rfl
theorem t153:T.get 153=some r153:=by kernel_rfl
theorem t180:T.get 180=some r180:=by kernel_rfl
theorem t184:T.get 184=some r184:=by kernel_rfl
theorem t189:T.get 189=some r189:=by kernel_rfl
theorem t191:T.get 191=some r191:=by kernel_rfl
theorem t194:T.get 194=some r194:=by kernel_rfl
theorem t199:T.get 199=some r199:=by kernel_rfl
theorem t200:T.get 200=some r200:=by kernel_rfl
theorem t202:T.get 202=some r202:=by kernel_rfl
theorem t207:T.get 207=some r207:=by kernel_rfl
theorem t209:T.get 209=some r209:=by kernel_rfl
theorem t210:T.get 210=some r210:=by kernel_rfl
theorem t211:T.get 211=some r211:=by kernel_rfl
theorem t212:T.get 212=some r212:=by kernel_rfl
theorem t213:T.get 213=some r213:=by kernel_rfl
theorem t215:T.get 215=some r215:=by kernel_rfl
theorem t216:T.get 216=some r216:=by kernel_rfl
theorem t218:T.get 218=some r218:=by kernel_rfl
theorem t221:T.get 221=some r221:=by kernel_rfl
theorem t225:T.get 225=some r225:=by kernel_rfl
theorem t233:T.get 233=some r233:=by kernel_rfl
theorem t234:T.get 234=some r234:=by kernel_rfl
theorem t235:T.get 235=some r235:=by kernel_rfl
theorem t236:T.get 236=some r236:=by kernel_rfl
theorem t237:T.get 237=some r237:=by kernel_rfl
theorem t238:T.get 238=some r238:=by kernel_rfl
theorem t239:T.get 239=some r239:=by kernel_rfl
theorem t240:T.get 240=some r240:=by kernel_rfl
theorem t251:T.get 251=some r251:=by kernel_rfl
theorem t252:T.get 252=some r252:=by kernel_rfl
theorem t260:T.get 260=some r260:=by kernel_rfl
theorem t280:T.get 280=some r280:=by kernel_rfl
theorem t285:T.get 285=some r285:=by kernel_rfl
theorem t300:T.get 300=some r300:=by kernel_rfl
theorem t366:T.get 366=some r366:=by kernel_rfl
theorem t368:T.get 368=some r368:=by kernel_rfl
theorem t369:T.get 369=some r369:=by kernel_rfl
@[simp] theorem pl4_6:findPlan 6 g4.plans=some [(0,[]),(1,[]),(2,[]),(3,[]),(4,[]),(5,[]),(6,[]),(7,[])]:=nrfl rfl
@[simp] theorem pl4_11:findPlan 11 g4.plans=some [(0,[]),(1,[]),(2,[]),(3,[]),(4,[]),(5,[]),(6,[]),(7,[]),(8,[]),(9,[]),(10,[]),(11,[]),(12,[]),(13,[]),(14,[]),(15,[]),(16,[]),(17,[]),(18,[]),(19,[]),(20,[]),(21,[]),(22,[]),(23,[]),(24,[]),(25,[]),(26,[]),(27,[])]:=nrfl rfl
@[simp] theorem pl9_13:findPlan 13 g9.plans=some [(0,[]),(1,[]),(2,[]),(3,[]),(4,[]),(5,[]),(6,[]),(7,[]),(8,[]),(9,[0,1,4,6]),(10,[]),(11,[]),(12,[0]),(13,[]),(14,[]),(15,[])]:=nrfl rfl
@[simp] theorem pl12_5:findPlan 5 g12.plans=some [(1,[]),(2,[]),(3,[]),(5,[]),(0,[2]),(4,[]),(6,[])]:=nrfl rfl
@[simp] theorem pl12_8:findPlan 8 g12.plans=some [(0,[]),(1,[]),(2,[]),(4,[]),(5,[]),(6,[]),(3,[1,6]),(7,[1]),(8,[]),(9,[]),(10,[]),(11,[]),(12,[]),(13,[]),(14,[])]:=nrfl rfl
@[simp] theorem pl13_6:findPlan 6 g13.plans=some [(0,[]),(1,[]),(2,[]),(3,[]),(4,[]),(5,[]),(6,[]),(7,[]),(8,[])]:=nrfl rfl
@[simp] theorem pl20_1:findPlan 1 g20.plans=some [(0,[]),(1,[]),(2,[]),(3,[]),(4,[]),(5,[]),(6,[]),(7,[]),(8,[]),(9,[]),(10,[]),(11,[]),(12,[]),(13,[]),(14,[]),(15,[]),(16,[]),(17,[]),(18,[]),(19,[]),(20,[]),(21,[]),(22,[]),(23,[]),(24,[]),(25,[]),(26,[]),(27,[]),(28,[]),(29,[])]:=nrfl rfl
@[simp] theorem pl26_6:findPlan 6 g26.plans=some [(0,[]),(1,[]),(2,[]),(3,[]),(4,[]),(5,[]),(6,[]),(7,[]),(8,[]),(9,[]),(10,[]),(11,[]),(12,[]),(13,[]),(14,[]),(15,[]),(16,[]),(17,[]),(18,[]),(19,[])]:=nrfl rfl
@[simp] theorem pl31_3:findPlan 3 g31.plans=some [(0,[]),(1,[]),(2,[]),(4,[]),(5,[]),(6,[]),(3,[6]),(8,[]),(9,[]),(7,[]),(10,[]),(11,[]),(12,[]),(13,[])]:=nrfl rfl
@[simp] theorem pl31_6:findPlan 6 g31.plans=some [(0,[]),(1,[]),(2,[]),(4,[]),(5,[]),(6,[]),(3,[6]),(8,[]),(9,[]),(7,[]),(10,[]),(11,[]),(12,[]),(13,[])]:=nrfl rfl
@[simp] theorem pl36_0:findPlan 0 g36.plans=some [(0,[]),(2,[]),(1,[2]),(3,[])]:=nrfl rfl
@[simp] theorem pl38_10:findPlan 10 g38.plans=some [(0,[]),(1,[]),(2,[]),(3,[]),(5,[]),(6,[]),(7,[]),(4,[6]),(8,[]),(9,[]),(10,[]),(11,[]),(12,[])]:=nrfl rfl
@[simp] theorem pl38_19:findPlan 19 g38.plans=some [(0,[]),(1,[]),(2,[]),(4,[]),(5,[]),(6,[]),(7,[]),(3,[6]),(8,[]),(9,[]),(10,[]),(11,[])]:=nrfl rfl
@[simp] theorem pl38_28:findPlan 28 g38.plans=some [(0,[]),(1,[]),(2,[]),(3,[]),(5,[]),(6,[]),(7,[]),(4,[6]),(8,[]),(9,[]),(10,[]),(11,[]),(12,[])]:=nrfl rfl
@[simp] theorem pl54_16:findPlan 16 g54.plans=some [(0,[]),(1,[]),(2,[]),(3,[]),(4,[]),(5,[]),(6,[]),(7,[]),(8,[]),(9,[]),(10,[]),(11,[]),(12,[]),(13,[]),(14,[]),(15,[])]:=nrfl rfl
@[simp] theorem pl57_8:findPlan 8 g57.plans=some [(0,[]),(1,[]),(2,[]),(3,[]),(4,[]),(5,[]),(6,[]),(7,[]),(8,[]),(9,[]),(10,[]),(11,[]),(12,[]),(13,[]),(14,[]),(15,[]),(16,[]),(17,[]),(18,[]),(19,[]),(20,[]),(21,[]),(22,[])]:=nrfl rfl
@[simp] theorem pl60_2:findPlan 2 g60.plans=some [(0,[]),(1,[]),(2,[]),(3,[]),(4,[]),(5,[]),(6,[]),(7,[]),(8,[]),(9,[])]:=nrfl rfl
@[simp] theorem pl61_10:findPlan 10 g61.plans=some [(0,[]),(1,[]),(2,[]),(3,[]),(4,[]),(5,[]),(6,[]),(7,[]),(8,[]),(9,[])]:=nrfl rfl
@[simp] theorem pl66_3:findPlan 3 g66.plans=some [(0,[]),(1,[]),(2,[]),(4,[]),(5,[]),(6,[]),(8,[]),(9,[]),(3,[4,6,9]),(7,[9]),(10,[]),(11,[]),(12,[]),(13,[]),(14,[]),(15,[]),(16,[]),(17,[]),(18,[])]:=nrfl rfl
@[simp] theorem pl71_1:findPlan 1 g71.plans=some [(0,[]),(1,[]),(2,[]),(3,[]),(4,[0]),(5,[]),(6,[]),(7,[])]:=nrfl rfl
@[simp] theorem pl72_5:findPlan 5 g72.plans=some [(0,[]),(1,[]),(2,[]),(3,[]),(4,[]),(5,[]),(6,[]),(7,[]),(8,[]),(9,[]),(10,[]),(11,[]),(12,[]),(13,[]),(14,[]),(15,[]),(16,[]),(17,[]),(18,[])]:=nrfl rfl
@[simp] theorem pl74_1:findPlan 1 g74.plans=some [(0,[]),(1,[]),(2,[]),(3,[]),(4,[]),(5,[]),(6,[]),(7,[]),(8,[]),(9,[]),(10,[]),(11,[]),(12,[]),(13,[]),(14,[])]:=nrfl rfl
@[simp] theorem pl89_10:findPlan 10 g89.plans=some [(0,[]),(1,[]),(2,[]),(3,[]),(4,[]),(5,[]),(6,[]),(7,[]),(8,[]),(9,[]),(10,[]),(11,[]),(12,[])]:=nrfl rfl
@[simp] theorem pl89_19:findPlan 19 g89.plans=some [(0,[]),(1,[]),(2,[]),(3,[]),(4,[]),(5,[]),(6,[]),(7,[]),(8,[]),(9,[]),(10,[5,8]),(11,[]),(12,[8]),(13,[]),(14,[])]:=nrfl rfl
@[simp] theorem pl89_21:findPlan 21 g89.plans=some [(0,[]),(1,[]),(2,[]),(3,[]),(4,[]),(5,[]),(6,[]),(7,[]),(8,[]),(9,[]),(10,[5,8]),(11,[]),(12,[8]),(13,[]),(14,[])]:=nrfl rfl
@[simp] theorem pl89_23:findPlan 23 g89.plans=some [(0,[]),(1,[]),(2,[]),(3,[]),(4,[]),(5,[]),(6,[]),(7,[5]),(8,[]),(9,[])]:=nrfl rfl
@[simp] theorem pl89_25:findPlan 25 g89.plans=some [(0,[]),(1,[]),(2,[]),(3,[]),(4,[]),(5,[]),(6,[]),(7,[5]),(8,[]),(9,[])]:=nrfl rfl
@[simp] theorem pl89_27:findPlan 27 g89.plans=some [(0,[]),(1,[]),(2,[]),(3,[]),(4,[]),(5,[]),(6,[]),(7,[]),(8,[]),(9,[]),(10,[5,8]),(11,[]),(12,[8]),(13,[]),(14,[])]:=nrfl rfl
@[simp] theorem pl89_29:findPlan 29 g89.plans=some [(0,[]),(1,[]),(2,[]),(3,[]),(4,[]),(5,[]),(6,[]),(7,[5]),(8,[]),(9,[])]:=nrfl rfl
@[simp] theorem pl89_31:findPlan 31 g89.plans=some [(0,[]),(1,[]),(2,[]),(3,[]),(4,[]),(5,[]),(6,[]),(7,[5]),(8,[]),(9,[])]:=nrfl rfl
@[simp] theorem pl94_5:findPlan 5 g94.plans=some [(0,[]),(1,[]),(2,[]),(3,[]),(4,[]),(5,[]),(6,[]),(7,[])]:=nrfl rfl
@[simp] theorem pl95_11:findPlan 11 g95.plans=some [(0,[]),(1,[]),(2,[]),(3,[]),(4,[]),(5,[]),(6,[]),(7,[]),(8,[])]:=nrfl rfl
@[simp] theorem pl95_15:findPlan 15 g95.plans=some [(0,[]),(1,[]),(2,[]),(3,[]),(4,[]),(5,[]),(6,[]),(7,[]),(8,[])]:=nrfl rfl
@[simp] theorem pl101_2:findPlan 2 g101.plans=some [(0,[]),(1,[]),(2,[]),(3,[]),(4,[]),(5,[]),(6,[]),(7,[]),(8,[]),(9,[]),(10,[])]:=nrfl rfl
@[simp] theorem pl101_9:findPlan 9 g101.plans=some [(0,[]),(1,[]),(2,[]),(3,[]),(4,[]),(5,[]),(6,[])]:=nrfl rfl
@[simp] theorem pl106_1:findPlan 1 g106.plans=some [(0,[]),(1,[]),(2,[]),(3,[]),(4,[]),(5,[]),(6,[]),(7,[]),(8,[]),(9,[]),(10,[]),(11,[]),(12,[]),(13,[]),(14,[]),(19,[]),(15,[]),(16,[]),(17,[]),(18,[]),(20,[]),(21,[])]:=nrfl rfl
@[simp] theorem pl108_1:findPlan 1 g108.plans=some [(0,[]),(1,[]),(2,[]),(3,[]),(4,[]),(5,[]),(6,[]),(7,[]),(8,[]),(9,[])]:=nrfl rfl
@[simp] theorem pl108_3:findPlan 3 g108.plans=some [(0,[]),(1,[]),(2,[]),(3,[]),(4,[]),(5,[]),(6,[]),(7,[]),(8,[]),(9,[]),(10,[]),(11,[]),(12,[]),(13,[]),(14,[]),(15,[]),(16,[]),(17,[])]:=nrfl rfl
@[simp] theorem pl109_1:findPlan 1 g109.plans=some [(0,[]),(1,[]),(2,[]),(3,[]),(4,[]),(5,[]),(6,[]),(7,[]),(8,[]),(9,[])]:=nrfl rfl
@[simp] theorem pl109_3:findPlan 3 g109.plans=some [(0,[]),(1,[]),(2,[]),(3,[]),(4,[]),(5,[]),(6,[]),(7,[]),(8,[]),(9,[]),(10,[]),(11,[]),(12,[]),(13,[]),(14,[])]:=nrfl rfl
@[simp] theorem pl112_1:findPlan 1 g112.plans=some [(0,[]),(1,[]),(2,[]),(3,[]),(4,[]),(5,[]),(6,[]),(7,[]),(8,[]),(9,[]),(10,[]),(11,[]),(12,[]),(13,[]),(14,[]),(15,[])]:=nrfl rfl
@[simp] theorem pl114_1:findPlan 1 g114.plans=some [(0,[]),(1,[]),(2,[]),(3,[]),(4,[]),(5,[]),(6,[]),(7,[]),(8,[]),(9,[]),(10,[]),(11,[]),(12,[]),(13,[])]:=nrfl rfl
@[simp] theorem pl133_0:findPlan 0 g133.plans=some [(0,[]),(1,[]),(2,[]),(3,[]),(4,[]),(5,[]),(6,[]),(7,[]),(8,[]),(9,[]),(10,[]),(11,[]),(12,[]),(13,[]),(14,[]),(15,[])]:=nrfl rfl
@[simp] theorem pl153_1:findPlan 1 g153.plans=some [(0,[]),(1,[]),(2,[]),(3,[]),(4,[0]),(5,[]),(6,[]),(7,[0]),(8,[]),(9,[]),(10,[]),(11,[]),(12,[]),(13,[]),(14,[])]:=nrfl rfl
@[simp] theorem pl153_13:findPlan 13 g153.plans=some [(0,[]),(1,[]),(2,[]),(3,[]),(4,[]),(5,[]),(6,[]),(8,[]),(7,[]),(9,[])]:=nrfl rfl
@[simp] theorem pl158_1:findPlan 1 g158.plans=some [(0,[]),(1,[]),(7,[]),(2,[0]),(3,[]),(4,[]),(5,[]),(6,[]),(8,[]),(9,[])]:=nrfl rfl
@[simp] theorem pl158_12:findPlan 12 g158.plans=some [(0,[]),(1,[]),(2,[]),(3,[]),(4,[]),(5,[]),(6,[1]),(7,[]),(8,[]),(9,[])]:=nrfl rfl
@[simp] theorem pl158_17:findPlan 17 g158.plans=some [(0,[]),(1,[]),(2,[]),(3,[]),(4,[3]),(5,[]),(6,[])]:=nrfl rfl
@[simp] theorem pl160_4:findPlan 4 g160.plans=some [(0,[]),(1,[]),(2,[]),(3,[]),(4,[]),(5,[]),(6,[]),(7,[]),(8,[]),(9,[]),(10,[]),(11,[])]:=nrfl rfl
@[simp] theorem pl195_5:findPlan 5 g195.plans=some [(0,[]),(1,[]),(2,[]),(3,[]),(4,[]),(5,[]),(6,[]),(7,[]),(9,[]),(11,[]),(12,[]),(13,[]),(14,[]),(15,[]),(16,[]),(17,[]),(18,[]),(8,[3,7,13,17]),(10,[]),(19,[3,7]),(20,[]),(21,[]),(22,[]),(23,[])]:=nrfl rfl
@[simp] theorem pl215_7:findPlan 7 g215.plans=some [(0,[]),(1,[]),(2,[]),(3,[]),(4,[]),(5,[]),(6,[]),(7,[]),(8,[]),(9,[]),(10,[]),(11,[]),(12,[]),(13,[]),(14,[]),(15,[]),(16,[]),(17,[]),(18,[]),(19,[]),(20,[]),(21,[]),(22,[]),(23,[]),(24,[]),(25,[]),(26,[]),(27,[]),(28,[]),(29,[]),(30,[]),(31,[]),(32,[]),(33,[]),(34,[]),(35,[]),(36,[]),(37,[]),(38,[])]:=nrfl rfl
@[simp] theorem pl216_4:findPlan 4 g216.plans=some [(0,[]),(1,[]),(2,[]),(3,[]),(4,[]),(5,[]),(6,[]),(7,[]),(8,[]),(9,[])]:=nrfl rfl
@[simp] theorem pl230_3:findPlan 3 g230.plans=some [(0,[]),(1,[]),(2,[]),(3,[]),(4,[]),(5,[]),(6,[]),(7,[]),(8,[]),(9,[]),(10,[]),(11,[]),(12,[]),(13,[]),(14,[]),(15,[])]:=nrfl rfl
@[simp] theorem pl233_3:findPlan 3 g233.plans=some [(0,[]),(1,[]),(2,[]),(4,[]),(3,[4]),(5,[]),(6,[]),(7,[]),(8,[]),(9,[]),(10,[]),(11,[])]:=nrfl rfl
@[simp] theorem pl237_7:findPlan 7 g237.plans=some [(0,[]),(1,[]),(3,[]),(2,[0]),(4,[]),(5,[])]:=nrfl rfl
@[simp] theorem pl239_1:findPlan 1 g239.plans=some [(0,[]),(1,[]),(2,[]),(3,[]),(4,[]),(5,[]),(6,[]),(7,[])]:=nrfl rfl
@[simp] theorem pl240_1:findPlan 1 g240.plans=some [(0,[]),(1,[]),(2,[]),(3,[]),(4,[]),(5,[]),(6,[]),(7,[])]:=nrfl rfl
@[simp] theorem pl241_1:findPlan 1 g241.plans=some [(0,[]),(1,[]),(2,[]),(3,[]),(5,[]),(8,[]),(9,[]),(10,[]),(4,[9]),(6,[]),(7,[]),(11,[7]),(12,[]),(13,[])]:=nrfl rfl
@[simp] theorem pl243_2:findPlan 2 g243.plans=some [(0,[]),(1,[]),(2,[0]),(3,[]),(4,[])]:=nrfl rfl
@[simp] theorem pl243_6:findPlan 6 g243.plans=some [(0,[]),(1,[]),(2,[]),(3,[]),(4,[]),(5,[]),(6,[]),(7,[])]:=nrfl rfl
@[simp] theorem pl247_11:findPlan 11 g247.plans=some [(0,[]),(1,[]),(2,[]),(3,[]),(4,[]),(5,[]),(6,[]),(7,[]),(8,[]),(9,[]),(10,[]),(11,[]),(12,[]),(13,[]),(14,[]),(15,[]),(16,[]),(17,[]),(18,[]),(19,[]),(20,[])]:=nrfl rfl
@[simp] theorem pl247_23:findPlan 23 g247.plans=some [(0,[]),(1,[]),(2,[]),(3,[]),(4,[]),(5,[]),(6,[]),(7,[]),(8,[]),(9,[]),(10,[]),(11,[]),(12,[]),(13,[]),(14,[]),(15,[]),(16,[]),(17,[]),(18,[]),(19,[]),(20,[]),(21,[]),(22,[]),(23,[]),(24,[]),(25,[]),(26,[]),(27,[]),(28,[]),(29,[])]:=nrfl rfl
@[simp] theorem pl248_7:findPlan 7 g248.plans=some [(0,[]),(1,[]),(2,[]),(3,[]),(5,[]),(6,[]),(7,[]),(8,[]),(4,[7]),(9,[]),(10,[]),(11,[])]:=nrfl rfl
@[simp] theorem pl250_9:findPlan 9 g250.plans=some [(0,[]),(1,[]),(3,[]),(4,[]),(6,[]),(7,[]),(2,[0]),(5,[0]),(8,[]),(9,[])]:=nrfl rfl
@[simp] theorem pl251_2:findPlan 2 g251.plans=some [(0,[]),(1,[]),(2,[]),(3,[]),(4,[]),(5,[]),(6,[]),(7,[])]:=nrfl rfl
@[simp] theorem pl259_7:findPlan 7 g259.plans=some [(0,[]),(1,[]),(2,[]),(3,[]),(4,[]),(5,[]),(6,[]),(7,[]),(8,[]),(9,[]),(10,[]),(11,[0]),(12,[]),(13,[])]:=nrfl rfl
@[simp] theorem pl261_9:findPlan 9 g261.plans=some [(0,[]),(1,[]),(2,[]),(3,[]),(4,[]),(5,[]),(6,[]),(7,[]),(8,[]),(9,[])]:=nrfl rfl
@[simp] theorem pl297_1:findPlan 1 g297.plans=some [(0,[]),(1,[]),(2,[]),(3,[]),(4,[]),(5,[]),(6,[]),(7,[]),(8,[]),(9,[]),(10,[]),(11,[]),(12,[]),(13,[]),(14,[]),(15,[])]:=nrfl rfl
@[simp] theorem pl299_1:findPlan 1 g299.plans=some [(0,[]),(1,[]),(2,[]),(3,[]),(4,[]),(5,[]),(6,[]),(7,[]),(8,[]),(9,[]),(10,[]),(11,[]),(12,[]),(13,[]),(14,[]),(15,[]),(16,[]),(17,[]),(18,[]),(19,[])]:=nrfl rfl
@[simp] theorem pl302_1:findPlan 1 g302.plans=some [(0,[]),(1,[]),(2,[]),(3,[]),(4,[]),(5,[]),(6,[]),(7,[]),(8,[])]:=nrfl rfl
@[simp] theorem pl302_12:findPlan 12 g302.plans=some [(0,[]),(1,[]),(2,[]),(3,[]),(4,[]),(5,[]),(6,[]),(7,[]),(8,[]),(9,[]),(10,[]),(11,[]),(12,[])]:=nrfl rfl
@[simp] theorem pl302_27:findPlan 27 g302.plans=some [(0,[]),(1,[]),(2,[]),(3,[]),(4,[]),(5,[]),(6,[]),(7,[]),(8,[]),(9,[]),(10,[]),(11,[]),(12,[]),(13,[]),(14,[]),(15,[12]),(16,[]),(17,[]),(18,[])]:=nrfl rfl
@[simp] theorem pl302_28:findPlan 28 g302.plans=some [(0,[]),(1,[]),(2,[]),(3,[]),(4,[]),(5,[]),(6,[]),(7,[]),(8,[]),(9,[]),(10,[]),(11,[]),(12,[]),(13,[]),(14,[]),(15,[])]:=nrfl rfl
@[simp] theorem pl303_1:findPlan 1 g303.plans=some [(0,[]),(1,[]),(2,[]),(3,[]),(4,[]),(5,[]),(6,[]),(7,[]),(8,[]),(9,[]),(10,[]),(11,[]),(12,[]),(13,[]),(14,[]),(15,[]),(16,[]),(17,[]),(18,[]),(19,[]),(20,[]),(21,[]),(22,[]),(23,[]),(24,[]),(25,[]),(26,[]),(27,[]),(28,[]),(29,[])]:=nrfl rfl
@[simp] theorem pl306_1:findPlan 1 g306.plans=some [(0,[]),(1,[]),(2,[]),(3,[]),(4,[]),(5,[]),(6,[]),(7,[]),(8,[]),(9,[]),(10,[]),(11,[]),(12,[]),(13,[]),(14,[]),(15,[]),(16,[]),(17,[]),(18,[]),(19,[]),(20,[]),(21,[]),(22,[]),(23,[]),(24,[]),(25,[]),(26,[]),(27,[]),(28,[]),(29,[]),(30,[]),(31,[])]:=nrfl rfl
@[simp] theorem pl307_1:findPlan 1 g307.plans=some [(0,[]),(1,[]),(2,[]),(3,[]),(4,[]),(5,[]),(6,[]),(7,[]),(8,[])]:=nrfl rfl
@[simp] theorem pl307_2:findPlan 2 g307.plans=some [(0,[]),(1,[]),(2,[]),(3,[]),(4,[]),(5,[]),(6,[]),(7,[]),(8,[]),(9,[]),(10,[])]:=nrfl rfl
@[simp] theorem pl307_4:findPlan 4 g307.plans=some [(0,[]),(1,[]),(2,[]),(3,[]),(4,[]),(5,[]),(6,[]),(7,[]),(8,[]),(9,[]),(10,[]),(11,[]),(12,[])]:=nrfl rfl
@[simp] theorem pl307_5:findPlan 5 g307.plans=some [(0,[]),(1,[]),(2,[]),(3,[]),(4,[]),(5,[]),(6,[]),(7,[]),(8,[]),(9,[]),(10,[]),(11,[]),(12,[]),(13,[]),(14,[])]:=nrfl rfl
@[simp] theorem pl308_1:findPlan 1 g308.plans=some [(0,[]),(1,[]),(2,[]),(3,[]),(4,[]),(5,[]),(6,[]),(7,[]),(8,[]),(9,[]),(10,[]),(11,[]),(12,[]),(13,[]),(14,[]),(15,[]),(16,[]),(17,[]),(18,[]),(19,[]),(20,[]),(21,[]),(22,[]),(23,[]),(24,[]),(25,[]),(26,[]),(27,[]),(28,[]),(29,[]),(30,[]),(31,[]),(32,[]),(33,[]),(34,[]),(35,[]),(36,[]),(37,[]),(38,[]),(39,[]),(40,[]),(41,[]),(42,[]),(43,[]),(44,[]),(45,[]),(46,[]),(47,[]),(48,[]),(49,[])]:=nrfl rfl
@[simp] theorem pl308_3:findPlan 3 g308.plans=some [(0,[]),(1,[]),(2,[]),(3,[]),(4,[]),(5,[]),(6,[]),(7,[]),(8,[]),(9,[]),(10,[])]:=nrfl rfl
@[simp] theorem pl308_4:findPlan 4 g308.plans=some [(0,[]),(1,[]),(2,[]),(3,[]),(4,[]),(5,[]),(7,[]),(8,[]),(9,[]),(10,[]),(11,[]),(12,[]),(13,[]),(14,[]),(15,[]),(6,[9,11,14]),(16,[]),(17,[]),(18,[])]:=nrfl rfl
@[simp] theorem pl309_1:findPlan 1 g309.plans=some [(0,[]),(1,[]),(2,[]),(3,[]),(4,[]),(5,[]),(6,[]),(7,[]),(8,[])]:=nrfl rfl
@[simp] theorem pl309_6:findPlan 6 g309.plans=some [(0,[]),(1,[]),(2,[]),(3,[]),(4,[]),(5,[]),(6,[]),(7,[]),(8,[]),(9,[]),(10,[])]:=nrfl rfl
@[simp] theorem pl310_1:findPlan 1 g310.plans=some [(0,[]),(1,[]),(2,[]),(3,[]),(4,[]),(5,[]),(6,[]),(7,[]),(8,[]),(9,[]),(10,[]),(11,[]),(12,[]),(13,[]),(14,[]),(15,[]),(16,[]),(17,[]),(18,[]),(19,[]),(20,[]),(21,[]),(22,[]),(23,[]),(24,[]),(25,[]),(26,[]),(27,[]),(28,[]),(29,[]),(30,[]),(31,[]),(32,[]),(33,[]),(34,[]),(35,[]),(36,[]),(37,[]),(38,[]),(39,[]),(40,[]),(41,[]),(42,[])]:=nrfl rfl
@[simp] theorem pl311_1:findPlan 1 g311.plans=some [(0,[]),(1,[]),(2,[]),(3,[]),(4,[]),(5,[]),(6,[]),(7,[]),(8,[]),(9,[])]:=nrfl rfl
@[simp] theorem pl312_1:findPlan 1 g312.plans=some [(0,[]),(1,[]),(2,[]),(3,[]),(4,[]),(5,[]),(6,[]),(7,[]),(8,[]),(9,[]),(10,[]),(11,[]),(12,[]),(13,[]),(14,[]),(15,[]),(16,[]),(17,[]),(18,[]),(19,[]),(20,[]),(21,[]),(22,[]),(23,[]),(24,[]),(25,[]),(26,[]),(27,[]),(28,[]),(29,[]),(30,[]),(31,[]),(32,[]),(33,[]),(34,[]),(35,[]),(36,[]),(37,[]),(38,[])]:=nrfl rfl
@[simp] theorem pl314_1:findPlan 1 g314.plans=some [(0,[]),(1,[]),(2,[]),(3,[]),(4,[]),(5,[]),(6,[]),(7,[]),(8,[]),(9,[]),(10,[]),(11,[]),(12,[]),(13,[]),(14,[]),(15,[]),(16,[]),(17,[]),(18,[]),(19,[]),(20,[])]:=nrfl rfl
attribute [simp] r1 r2 t3 r3 t4 r4 r5 r6 r7 r8 t9 r9 r10 r11 r12 r13 r14 r15 r16 r17 r18 r19 r20
attribute [simp] r21 t22 r22 r23 t24 r24 t25 r25 t26 r26 r27 t28 r28 r29 r30 t31 r31 t32 r32 r33 t34 r34 t35 r35 r36 t37 r37 t38 r38 t39 r39 r40
attribute [simp] t41 r41 r42 t43 r43 r44 t45 r45 r47 t48 r48 r50 t51 r51 t52 r52 r53 t54 r54 r55 t56 r56 r57 t58 r58 r59 r61 r63 t64 r64
attribute [simp] r65 t66 r66 r67 r68 r69 r70 r71 r73 r74 r75 t76 r76 r77 r78 r79 r80 r81 r82 r83 r84 r85
attribute [simp] r86 r87 r88 t89 r89 r90 r91 r92 t93 r93 r94 t95 r95 r96 r97 r98 t99 r99 r100 t101 r101 r102 r103 r104 r106
attribute [simp] r107 t108 r108 r109 t110 r110 t111 r111 r112 r113 t114 r114 r115 t116 r116 r117 r118 r119 r120 r121 t123 r123 r124 t125 r125 r126 r127
attribute [simp] r128 r129 r130 r131 r132 r133 r135 r136 r137 r138 t139 r139 r140 t141 r141 r142 t143 r143 r144 t145 r145 r146 t147 r147 r148
attribute [simp] t149 r149 r150 r151 r152 t153 r153 r154 r155 r156 r157 r158 r159 r160 r161 r162 r163 r164 r165 r166 r168 r169
attribute [simp] r170 r171 r172 r173 r175 r176 r177 r178 r179 t180 r180 r182 r183 t184 r184 r185 r186 r187 r188 t189 r189 r190 t191 r191
attribute [simp] r192 r193 t194 r194 r195 r196 r197 r198 t199 r199 t200 r200 r201 t202 r202 r203 r205 r206 t207 r207 r208 t209 r209 t210 r210 t211 r211 t212 r212
attribute [simp] t213 r213 r214 t215 r215 t216 r216 r217 t218 r218 r219 r220 t221 r221 r222 r223 r224 t225 r225 r226 r227 r228 r230 r231 r232 t233 r233
attribute [simp] t234 r234 t235 r235 t236 r236 t237 r237 t238 r238 t239 r239 t240 r240 r241 r242 r243 r244 r245 r247 r248 r249 r250 t251 r251 t252 r252 r253 r254
attribute [simp] r255 r256 r257 r258 r259 t260 r260 r261 r263 r264 r265 r267 r268 r269 r270 r272 r273 r274 r275 r276 r277
attribute [simp] r278 r279 t280 r280 r281 r282 r283 r284 t285 r285 r286 r287 r288 r289 r290 r291 r292 r293 r294 r295 r296 r297
attribute [simp] r298 r299 t300 r300 r301 r302 r303 r304 r305 r306 r307 r308 r309 r310 r311 r313 r314 r315 r316 r317 r318
attribute [simp] r319 r320 r321 r322 r323 r324 r325 r326 r327 r328 r329 r330 r331 r332 r333 r334 r335 r336 r337 r338
attribute [simp] r339 r340 r342 r343 r344 r345 r346 r347 r348 r349 r350 r351 r352 r353 r354 r355 r356 r357 r358 r359
attribute [simp] r360 r361 r362 r363 r364 r365 t366 r366 r367 t368 r368 t369 r369 r370 r372 r373 r374 r375 r376 r377 r379 r380 r382
attribute [simp] r383 r384 r385 r386 r389 r390 r391 r392 r393 r394 r395 r396 r397 r398 r399
end Go.Gm.Tryz
end
section
namespace Go.Gm.Tryz
open Go.Proofs
abbrev C (f:FuncId) (args:List Value) (H:GH) (v:Value) (H':GH):Prop:=Con Tryz.prog f args H v H'
def inI (x lo hi:Int):Bool:=decide (lo≤x∧x≤hi)
theorem in_con (x lo hi:Int) (H:GH):C 65 [vi x,vi lo,vi hi] H (.bool (inI x lo hi)) H:=by
 refine con_wp tok mix fok65 (F:=g65) (c:=_) rfl (n:=15) rfl (rs:= [.tmp 6]) rfl (anch_closed rfl) ?_
 simp
 refine contG_bool (fun h=>?_) (fun h=>?_)<;>(try simp only [decide_eq_true_eq,decide_eq_false_iff_not] at h)<;>simp [h,inI]
theorem nin_con (x lo hi:Int) (H:GH):C 167 [vi x,vi lo,vi hi] H (.bool (inI x lo hi)) H:=by
 refine con_wp tok mix fok167 (F:=g167) (c:=_) rfl (n:=15) rfl (rs:= [.tmp 6]) rfl (anch_closed rfl) ?_
 simp
 refine contG_bool (fun h=>?_) (fun h=>?_)<;>(try simp only [decide_eq_true_eq,decide_eq_false_iff_not] at h)<;>simp [h,inI]
def isDayI (n:Int):Bool:=inI n 0 36500
theorem isDay_con (n:Int) (H:GH):C 99 [vi n] H (.bool (isDayI n)) H:=by
 refine con_wp tok mix fok99 (F:=g99) (c:=_) rfl (n:=5) rfl (rs:= [.tmp 2]) rfl (anch_closed rfl) ?_
 simp
 refine (in_con _ _ _ _).go ?_
 simp [isDayI]
def isGrantI (n:Int):Bool:=inI n 0 12
theorem isGrant_con (n:Int) (H:GH):C 131 [vi n] H (.bool (isGrantI n)) H:=by
 refine con_wp tok mix fok131 (F:=g131) (c:=_) rfl (n:=5) rfl (rs:= [.tmp 2]) rfl (anch_closed rfl) ?_
 simp
 refine (in_con _ _ _ _).go ?_
 simp [isGrantI]
def isUnitsI (n:Int):Bool:=inI n 1 360
theorem isUnits_con (n:Int) (H:GH):C 128 [vi n] H (.bool (isUnitsI n)) H:=by
 refine con_wp tok mix fok128 (F:=g128) (c:=_) rfl (n:=5) rfl (rs:= [.tmp 2]) rfl (anch_closed rfl) ?_
 simp
 refine (in_con _ _ _ _).go ?_
 simp [isUnitsI]
def isEstateI (n:Int):Bool:=inI n 0 18
theorem isEstate_con (n:Int) (H:GH):C 130 [vi n] H (.bool (isEstateI n)) H:=by
 refine con_wp tok mix fok130 (F:=g130) (c:=_) rfl (n:=5) rfl (rs:= [.tmp 2]) rfl (anch_closed rfl) ?_
 simp
 refine (in_con _ _ _ _).go ?_
 simp [isEstateI]
def isSystemI (n:Int):Bool:=decide (n=1∨n=2)
theorem isSystem_con (n:Int) (H:GH):C 127 [vi n] H (.bool (isSystemI n)) H:=by
 refine con_wp tok mix fok127 (F:=g127) (c:=_) rfl (n:=9) rfl (rs:= [.tmp 2]) rfl (anch_closed rfl) ?_
 simp
 refine contG_bool (fun h=>?_) (fun h=>?_)<;>(try simp only [Bool.not_eq_true',Bool.not_eq_false',decide_eq_true_eq,decide_eq_false_iff_not] at h)<;>simp [h,isSystemI]
theorem nisSystem_con (n:Int) (H:GH):C 199 [vi n] H (.bool (isSystemI n)) H:=by
 refine con_wp tok mix fok199 (F:=g199) (c:=_) rfl (n:=9) rfl (rs:= [.tmp 2]) rfl (anch_closed rfl) ?_
 simp
 refine contG_bool (fun h=>?_) (fun h=>?_)<;>(try simp only [Bool.not_eq_true',Bool.not_eq_false',decide_eq_true_eq,decide_eq_false_iff_not] at h)<;>simp [h,isSystemI]
def nisUnitsI (n:Int):Bool:=inI n 0 360
theorem nisUnits_con (n:Int) (H:GH):C 200 [vi n] H (.bool (nisUnitsI n)) H:=by
 refine con_wp tok mix fok200 (F:=g200) (c:=_) rfl (n:=5) rfl (rs:= [.tmp 2]) rfl (anch_closed rfl) ?_
 simp
 refine (nin_con _ _ _ _).go ?_
 simp [nisUnitsI]
def isPersonI (b:Book) (n:Int):Bool:=inI n 0 (IntKind.i64.wrap (b.persons - 1))
theorem isPerson_con (l:BLoc) (b:Book) (n:Int) (H:GH):C 69 [bookV l b,vi n] H (.bool (isPersonI b n)) H:=by
 refine con_wp tok mix fok69 (F:=g69) (c:=_) rfl (n:=10) rfl (rs:= [.tmp 4]) rfl (anch_closed rfl) ?_
 simp
 refine (in_con _ _ _ _).go ?_
 simp [isPersonI]
end Go.Gm.Tryz
end
section
namespace Go.Gm.Tryz
open Go.Proofs
def idxOf {α:Type} (p:α→Bool) (l:List α):Int:=match l.findIdx? p with|some i=>i|none=> -1
theorem idxOf_at {α:Type} {p:α→Bool} {l:List α} {i:Nat} (hi:i<l.length) (h:p l[i]=true) (hj:∀j (h:j<l.length),j<i→p l[j]=false):idxOf p l=i:=by
 have:l.findIdx? p=some i:=by
  rw [List.findIdx?_eq_some_iff_getElem]
  exact ⟨hi,h,fun j hji=>by simpa using hj j (by omega) hji⟩
 simp [idxOf,this]
theorem idxOf_none {α:Type} {p:α→Bool} {l:List α} (hj:∀j (h:j<l.length),p l[j]=false):idxOf p l= -1:=by
 have:l.findIdx? p=none:=by
  rw [List.findIdx?_eq_none_iff]
  intro x hx
  obtain ⟨i,hi,rfl⟩:=List.mem_iff_getElem.1 hx
  exact hj i hi
 simp [idxOf,this]
theorem idxOf_any {α:Type} (p:α→Bool) (l:List α):decide (0≤idxOf p l)=l.any p:=by
 unfold idxOf
 cases h:l.findIdx? p with
 |none=>
  rw [List.findIdx?_eq_none_iff] at h
  have:l.any p=false:=by rw [List.any_eq_false]; intro x hx; simp [h x hx]
  simp [this]
 |some i=>
  rw [List.findIdx?_eq_some_iff_getElem] at h
  obtain ⟨hi,hp,_⟩:=h
  have:l.any p=true:=List.any_eq_true.2 ⟨_,List.getElem_mem hi,hp⟩
  simp [this]
theorem indexInt_con (l:List Int) (hl:l.length<1000000) (a:Option Addr) (fl:Nat) (g:FuncId) (cap:Array Value) (p:Int→Bool) (H:GH) (hr:Elems H a 1 encI l)
  (hp:∀i (h:i<l.length),C g (vi l[i]::cap.toList) H (.bool (p l[i])) H):C 132 [.slice a l.length fl,.func (.func g) #[] cap] H (vi (idxOf p l)) H:=by
 refine gcall_wp tok mix fok132 (F:=g132) (c:=_) rfl (n:=19) rfl (rs:= [.tmp 4]) rfl ?_
 simp
 refine wp_up tok mix (by kernel_rfl) l.length (fun i ρ m H'=>ρ 0=.slice a l.length fl∧ρ 1=.func (.func g) #[] cap∧ρ 7=vi l.length∧ρ 8=vi i∧m= []∧H'=H∧∀j (h:j<l.length),j<i→p l[j]=false) (i0:=0) (by omega) (by simp) ?_
 rintro i ρ m H' hi ⟨h0,h1,h7,h8,rfl,rfl,hj⟩
 simp [h7,h8]
 refine wpB_dec (fun hlt=>?_) (fun hge=>?_)
 ·obtain ⟨b,rfl,hb,hrd⟩:=hr.at i hlt
  simp (disch:=omega) [h0,h1,h8,hlt,hrd]
  refine (hp i hlt).go ?_
  simp
  refine wpB_bool (fun h=>?_) (fun h=>?_)
  ·simp [idxOf_at hlt h hj]
  ·simp (disch:=omega) [h0,h1,h7,h8,wrap64]
   intro j hjl hji
   by_cases hc:j=i
   ·subst hc; exact h
   ·exact hj j hjl (by omega)
 ·simp [idxOf_none (fun j h=>hj j h (by omega))]
theorem indexRow_con (l:List Row) (hl:l.length<1000000) (a:Option Addr) (fl:Nat) (g:FuncId) (cap:Array Value) (p:Row→Bool) (H:GH) (hr:Elems H a 3 encRow l)
  (hp:∀i (h:i<l.length),C g (rowV l[i]::cap.toList) H (.bool (p l[i])) H):C 220 [.slice a l.length fl,.func (.func g) #[] cap] H (vi (idxOf p l)) H:=by
 refine gcall_wp tok mix fok220 (F:=g220) (c:=_) rfl (n:=19) rfl (rs:= [.tmp 4]) rfl ?_
 simp
 refine wp_up tok mix (by kernel_rfl) l.length (fun i ρ m H'=>ρ 0=.slice a l.length fl∧ρ 1=.func (.func g) #[] cap∧ρ 7=vi l.length∧ρ 8=vi i∧m= []∧H'=H∧∀j (h:j<l.length),j<i→p l[j]=false) (i0:=0) (by omega) (by simp) ?_
 rintro i ρ m H' hi ⟨h0,h1,h7,h8,rfl,rfl,hj⟩
 simp [h7,h8]
 refine wpB_dec (fun hlt=>?_) (fun hge=>?_)
 ·obtain ⟨b,rfl,hb,hrd⟩:=hr.at i hlt
  simp (disch:=omega) [h0,h1,h8,hlt,hrd]
  refine (hp i hlt).go ?_
  simp
  refine wpB_bool (fun h=>?_) (fun h=>?_)
  ·simp [idxOf_at hlt h hj]
  ·simp (disch:=omega) [h0,h1,h7,h8,wrap64]
   intro j hjl hji
   by_cases hc:j=i
   ·subst hc; exact h
   ·exact hj j hjl (by omega)
 ·simp [idxOf_none (fun j h=>hj j h (by omega))]
theorem anyInt_con (l:List Int) (hl:l.length<1000000) (a:Option Addr) (fl:Nat) (g:FuncId) (cap:Array Value) (p:Int→Bool) (H:GH) (hr:Elems H a 1 encI l)
  (hp:∀i (h:i<l.length),C g (vi l[i]::cap.toList) H (.bool (p l[i])) H):C 67 [.slice a l.length fl,.func (.func g) #[] cap] H (.bool (l.any p)) H:=by
 refine gcall_wp tok mix fok67 (F:=g67) (c:=_) rfl (n:=9) rfl (rs:= [.tmp 4]) rfl ?_
 simp
 refine (indexInt_con l hl a fl g cap p H hr hp).go ?_
 simp [←idxOf_any]
theorem anyRow_con (l:List Row) (hl:l.length<1000000) (a:Option Addr) (fl:Nat) (g:FuncId) (cap:Array Value) (p:Row→Bool) (H:GH) (hr:Elems H a 3 encRow l)
  (hp:∀i (h:i<l.length),C g (rowV l[i]::cap.toList) H (.bool (p l[i])) H):C 168 [.slice a l.length fl,.func (.func g) #[] cap] H (.bool (l.any p)) H:=by
 refine gcall_wp tok mix fok168 (F:=g168) (c:=_) rfl (n:=9) rfl (rs:= [.tmp 4]) rfl ?_
 simp
 refine (indexRow_con l hl a fl g cap p H hr hp).go ?_
 simp [←idxOf_any]
def rowBad (r:Row):Bool:= !inI r.first 1 60|| !inI r.second 1 60|| !inI r.gives 1 1000
theorem rowBad_con (r:Row) (H:GH):C 169 [rowV r] H (.bool (rowBad r)) H:=by
 refine con_wp tok mix fok169 (F:=g169) (c:=_) rfl (n:=19) rfl (rs:= [.tmp 2]) rfl (anch_closed rfl) ?_
 simp
 refine (nin_con _ _ _ _).go ?_
 simp
 refine contG_bool (fun h=>?_) (fun h=>?_)<;>simp [h,rowBad]
 refine (nin_con _ _ _ _).go ?_
 simp
 refine contG_bool (fun h2=>?_) (fun h2=>?_)<;>simp [h2]
 refine (nin_con _ _ _ _).go ?_
 simp
def isTableB (t:Tbl):Bool:=inI t.rows.length 1 12&&inI t.draw 0 100&& !t.rows.any rowBad
theorem isTable_con (l:TLoc) (t:Tbl) (H:GH) (ht:TblIn H l t):C 126 [tblV l t] H (.bool (isTableB t)) H:=by
 refine con_wp tok mix fok126 (F:=g126) (c:=_) rfl (n:=18) rfl (rs:= [.tmp 2]) rfl (anch_closed rfl) ?_
 simp
 refine (nin_con _ _ _ _).go ?_
 simp
 refine contG_bool (fun h=>?_) (fun h=>?_)<;>simp [h,isTableB]
 refine (nin_con _ _ _ _).go ?_
 simp
 refine contG_bool (fun h2=>?_) (fun h2=>?_)<;>simp [h2]
 refine (anyRow_con t.rows (by simp [inI] at h; omega) _ _ _ _ rowBad _ (ht.push _) (fun i hi=>?_)).go ?_
 ·exact rowBad_con _ _
 simp
theorem nCheck_con (l:TLoc) (t:Tbl) (H:GH) (ht:TblIn H l t):C 64 [tblV l t] H (vi (if isTableB t then 0 else 2)) H:=by
 refine con_wp tok mix fok64 (F:=g64) (c:=_) rfl (n:=6) rfl (rs:= [.tmp 2]) rfl (anch_closed rfl) ?_
 simp
 refine (isTable_con l t _ (ht.push _)).go ?_
 simp
 refine wpB_bool (fun h=>?_) (fun h=>?_)<;>simp at h<;>simp [h]
theorem isZero_con (n:Int) (H:GH):C 170 [vi n] H (.bool (decide (¬n=0))) H:=by
 refine con_wp tok mix fok170 (F:=g170) (c:=_) rfl (n:=5) rfl (rs:= [.tmp 2]) rfl (anch_closed rfl) ?_
 simp
def emptyB (l:List Int):Bool:= !l.any (fun n=>decide (¬n=0))
theorem empty_con (l:List Int) (hl:l.length<1000000) (a:Option Addr) (fl:Nat) (H:GH) (hr:Elems H a 1 encI l):C 129 [.slice a l.length fl] H (.bool (emptyB l)) H:=by
 refine con_wp tok mix fok129 (F:=g129) (c:=_) rfl (n:=6) rfl (rs:= [.tmp 2]) rfl (anch_closed rfl) ?_
 simp
 refine (anyInt_con l hl a fl _ _ (fun n=>decide (¬n=0)) H hr (fun i hi=>isZero_con _ _)).go ?_
 simp [emptyB]
end Go.Gm.Tryz
end
section
namespace Go.Gm.Tryz
open Go.Proofs
theorem elems_push {H:GH} (l:List Int) (ty:TypeId):Elems (H.push (.arr { cells:=l.map vi,ty:=ty })) (some (ga H.next 0 0)) 1 encI l:=by
 refine ⟨fun _=>rfl,fun b hb=>?_,fun h=>by cases h⟩
 cases hb
 have e:l.flatMap encI=l.map vi:=by induction l with
  |nil=>rfl
  |cons x l ih=>simp [ih]
 refine ⟨by simp,?_⟩
 simp [e]
 rw [List.take_of_length_le (by simp)]
def isEventB (b:Book) (x:Ev):Bool:=
 isDayI x.day&&(
  if x.kind=1∨x.kind=8 then isPersonI b x.person&&(isSystemI x.system&&isUnitsI x.units)&&emptyB [x.other,x.estate,x.grant]
  else if x.kind=2 then isEstateI x.estate&&(isSystemI x.system&&isUnitsI x.units)&&emptyB [x.person,x.other,x.grant]
  else if x.kind=3 then isPersonI b x.person&&isPersonI b x.other&&emptyB [x.estate,x.grant,x.system,x.units]
  else if x.kind=4 then isEstateI x.estate&&isPersonI b x.person&&emptyB [x.other,x.grant,x.system,x.units]
  else if x.kind=5 then isGrantI x.grant&&isUnitsI x.units&&isPersonI b x.person&&emptyB [x.other,x.estate,x.system]
  else if x.kind=6 then isEstateI x.estate&&isEstateI x.other&&emptyB [x.person,x.grant,x.system,x.units]
  else if x.kind=7 then isGrantI x.grant&&isPersonI b x.person&&emptyB [x.other,x.estate,x.system,x.units]
  else false)
theorem isEvent_con (l:BLoc) (b:Book) (x:Ev) (H:GH):C 66 [bookV l b,evV x] H (.bool (isEventB b x)) H:=by
 refine con_wp tok mix fok66 (F:=g66) (c:=_) rfl (n:=168) rfl (rs:= [.tmp 4]) rfl (anch_closed rfl) ?_
 simp
 with_reducible refine (isDay_con _ _).go ?_
 simp
 repeat' (first
  |(with_reducible refine (isPerson_con l b _ _).go ?_; simp [*])
  |(with_reducible refine (isSystem_con _ _).go ?_; simp [*])
  |(with_reducible refine (isUnits_con _ _).go ?_; simp [*])
  |(with_reducible refine (isEstate_con _ _).go ?_; simp [*])
  |(with_reducible refine (isGrant_con _ _).go ?_; simp [*])
  |(with_reducible refine wpB_bool (fun h=>?_) (fun h=>?_)<;>(try simp only [Bool.not_eq_true',Bool.not_eq_false',decide_eq_true_eq,decide_eq_false_iff_not] at h)<;>simp [*])
  |(with_reducible refine contG_bool (fun h=>?_) (fun h=>?_)<;>(try simp only [Bool.not_eq_true',Bool.not_eq_false',decide_eq_true_eq,decide_eq_false_iff_not] at h)<;>simp [*])
  |(with_reducible refine planG_bool (fun h=>?_) (fun h=>?_)<;>(try simp only [Bool.not_eq_true',Bool.not_eq_false',decide_eq_true_eq,decide_eq_false_iff_not] at h)<;>simp [*]))
 all_goals first
  |(refine (empty_con [_,_,_] (by simp) _ _ _ (elems_push [_,_,_] 3)).go ?_; simp [*])
  |(refine (empty_con [_,_,_,_] (by simp) _ _ _ (elems_push [_,_,_,_] 3)).go ?_; simp [*])
  |skip
 all_goals simp (maxDischargeDepth:=9) [isEventB, *]
end Go.Gm.Tryz
end
section
namespace Go.Gm.Tryz
open Go.Proofs
theorem badPerson_con (l:BLoc) (b:Book) (n:Int) (g:Nat) (H:GH) (hg:H.get g=some (.arr { cells:=bookC l b,ty:=28 })):C 68 [vi n,.pointer (some (ga g 0 0))] H (.bool (!isPersonI b n)) H:=by
 refine con_wp tok mix fok68 (F:=g68) (c:=_) rfl (n:=8) rfl (rs:= [.tmp 3]) rfl (anch_closed rfl) ?_
 simp [hg]
 with_reducible refine (isPerson_con l b _ _).go ?_
 simp
def badAt (b:Book) (i:Nat):Bool:= !isEventB b (b.events.getD i default)||(decide (0<i)&&decide ((b.events.getD i default).day<(b.events.getD (i - 1) default).day))
def isBookB (b:Book):Bool:=isTableB b.tbl&&inI b.supply 0 10000&&inI b.term 0 1000&&inI b.persons 1 8&&decide (b.owners.length≤6)&&decide (b.events.length≤12)&&
 (List.range b.events.length).all (fun i=> !badAt b i)&& !b.owners.any (fun n=> !isPersonI b n)
theorem isBook_con (l:BLoc) (b:Book) (H:GH) (hb:BookIn H l b):C 26 [bookV l b] H (.bool (isBookB b)) H:=by
 rcases l with ⟨⟨⟨ra,rf⟩⟩,⟨oa,of'⟩,⟨va,vf⟩⟩
 refine con_wp tok mix fok26 (F:=g26) (c:=_) rfl (n:=73) rfl (rs:= [.tmp 2]) rfl (anch_closed rfl) ?_
 simp
 with_reducible refine (nCheck_con ⟨⟨_,_⟩⟩ b.tbl _ (hb.t.push _)).go ?_
 simp
 by_cases ht:isTableB b.tbl=true
 case neg=>simp [ht,isBookB]
 simp [ht]
 with_reducible refine (in_con _ _ _ _).go ?_
 simp
 cases h1:inI b.supply 0 10000
 case false=>simp [h1,isBookB]
 simp
 with_reducible refine (in_con _ _ _ _).go ?_
 simp
 cases h2:inI b.term 0 1000
 case false=>simp [h2,isBookB]
 simp
 with_reducible refine (in_con _ _ _ _).go ?_
 simp
 cases h3:inI b.persons 1 8
 case false=>simp [h3,isBookB]
 simp
 refine contG_bool (fun h4=>?_) (fun h4=>?_)<;>(try simp only [Bool.not_eq_true',Bool.not_eq_false',decide_eq_true_eq,decide_eq_false_iff_not] at h4)
 case refine_2=>
  have:¬b.owners.length≤6:=by omega
  simp [h4,isBookB,this]
 simp [h4]
 refine wpB_bool (fun h5=>?_) (fun h5=>?_)<;>(try simp only [decide_eq_true_eq,decide_eq_false_iff_not] at h5)
 ·have:¬b.events.length≤12:=by omega
  simp [h5,isBookB,this]
 simp [h5]
 generalize hH1:H.push _=H1
 have hs1:Sub H H1:=by subst hH1; simp
 have hg1:H1.get H.next=some (.arr { cells:=bookC ⟨⟨⟨ra,rf⟩⟩,⟨oa,of'⟩,⟨va,vf⟩⟩ b,ty:=28 }):=by subst hH1; simp
 have hn1:H.next<H1.next:=by subst hH1; simp
 have hb1:=hb.mono hs1
 clear hH1
 refine wp_up tok mix (by kernel_rfl) b.events.length (fun i ρ m H'=>ρ 1=.pointer (some (ga H.next 0 0))∧ρ 40=.slice va b.events.length vf∧ρ 41=vi b.events.length∧ρ 42=vi i∧m= []∧Sub H1 H'∧∀j,j<i→badAt b j=false) (i0:=0) (by omega) (by simp) ?_
 rintro i ρ m H' hi ⟨e1,e40,e41,e42,rfl,hs,hj⟩
 have hg:=hs.2 H.next hn1
 rw [hg1] at hg
 have hn:H.next<H'.next:=by have:=hs.1; omega
 simp [e41,e42]
 refine wpB_dec (fun hlt=>?_) (fun hge=>?_)
 case refine_2=>
  simp [e1,hg]
  refine (anyInt_con b.owners (by omega) _ _ _ #[.pointer (some (ga H.next 0 0))] (fun n=> !isPersonI b n) H' (hb1.mono hs).owners (fun k hk=>?_)).go ?_
  ·exact badPerson_con _ b _ _ H' hg
  have h6:b.owners.length≤6:=by omega
  have h7:b.events.length≤12:=by omega
  have h8:(List.range b.events.length).all (fun i=> !badAt b i)=true:=by
   rw [List.all_eq_true]
   intro j hjm
   rw [hj j (by have:=List.mem_range.1 hjm; omega)]; rfl
  simp [isBookB,ht,h1,h2,h3,h6,h7,h8]
  exact hs1.trans hs
 obtain ⟨a,rfl,hal,hrd⟩:=(hb1.mono hs).events.at i hlt
 simp (disch:=omega) [e1,e40,e42,hlt,hrd,hg]
 with_reducible refine (isEvent_con ⟨⟨⟨_,_⟩⟩,⟨_,_⟩,⟨_,_⟩⟩ b b.events[i] _).go ?_
 simp (disch:=omega)
 have hrd':∀j,j<i→∃d:Int,H'.read (ea a j 8 1) 1=some [vi d]∧d=(b.events.getD j default).day:=by
  intro j hji
  obtain ⟨a',ha',_,hr'⟩:=(hb1.mono hs).events.at j (by omega)
  cases ha'
  refine ⟨_,by simpa using hr' 1 1 (by omega),?_⟩
  rw [getD_at (by omega)]
 have hbad:badAt b i=(!isEventB b b.events[i]||(decide (0<i)&&decide (b.events[i].day<(b.events.getD (i - 1) default).day))):=by
  unfold badAt
  rw [getD_at hlt]
 cases hev:isEventB b b.events[i]
 ·have hF:isBookB b=false:=by
   have:(List.range b.events.length).all (fun i=> !badAt b i)=false:=by
    rw [List.all_eq_false]
    exact ⟨i,List.mem_range.2 hlt,by simp [hbad,hev]⟩
   simp [isBookB,this]
  simp [hF]
  exact hs1.trans ((hs.push _).put hs.1 _)
 simp (disch:=omega)
 refine planG_bool (fun h6=>?_) (fun h6=>?_)<;>(try simp only [decide_eq_true_eq,decide_eq_false_iff_not] at h6)
 ·have hi0:0<i:=by omega
  obtain ⟨d,hd1,hd2⟩:=hrd' (i - 1) (by omega)
  have e9:((i:Int) - 1).toNat=i - 1:=by omega
  simp (disch:=omega) [e1,hg,h6,wrap64,e9,hd1]
  refine wpB_bool (fun h7=>?_) (fun h7=>?_)<;>(try simp only [decide_eq_true_eq,decide_eq_false_iff_not] at h7)
  ·have hF:isBookB b=false:=by
    have:(List.range b.events.length).all (fun i=> !badAt b i)=false:=by
     rw [List.all_eq_false]
     exact ⟨i,List.mem_range.2 hlt,by rw [hbad,hev,←hd2]; simp [hi0,h7]⟩
    simp [isBookB,this]
   simp [hF]
   exact hs1.trans ((hs.push _).put hs.1 _)
  ·simp (disch:=omega) [e1,e40,e41,e42,wrap64]
   refine ⟨(hs.push _).put hs.1 _,fun j hji=>?_⟩
   by_cases hc:j=i
   ·subst hc; rw [hbad,hev,←hd2]; simp [h7]
   ·exact hj j (by omega)
 ·simp (disch:=omega) [e1,e40,e41,e42,h6,wrap64]
  refine ⟨(hs.push _).put hs.1 _,fun j hji=>?_⟩
  by_cases hc:j=i
  ·subst hc; rw [hbad,hev]; simp; omega
  ·exact hj j (by omega)
end Go.Gm.Tryz
end
section
namespace Go.Gm
def blkOf:Value→Option Nat
 | .slice (some a) _ fl=>if fl=0 then none else some a.block
 |_=>none
@[simp] theorem blkOf_some (a:Addr) (n c:Nat):blkOf (.slice (some a) n c)=if c=0 then none else some a.block:=rfl
@[simp] theorem blkOf_none (n c:Nat):blkOf (.slice none n c)=none:=rfl
def OwnL {α:Type} (H:GH) (N:Nat) (v:Value) (ty:TypeId) (sz:Nat) (enc:α→List Value) (l:List α):Prop:=
 (l= []∧v=.slice none 0 0)∨∃g ver szs pre,sz≠0∧N≤g∧g<H.next∧v=.slice (some (ga g pre.length ver)) l.length sz∧H.get g=some (.arr ⟨pre++l.flatMap enc,ty,ver,szs,false⟩)
section
variable {α:Type} {H:GH} {N:Nat} {v:Value} {ty:TypeId} {sz:Nat} {enc:α→List Value} {l:List α}
theorem OwnL.nil:OwnL H N (.slice none 0 0) ty sz enc []:=.inl ⟨rfl,rfl⟩
theorem OwnL.mk {g:Nat} (hz:sz≠0) (h1:N≤g) (h2:g<H.next) {ver:Nat} {szs:List Nat} (h3:H.get g=some (.arr ⟨l.flatMap enc,ty,ver,szs,false⟩)):OwnL H N (.slice (some (ga g 0 ver)) l.length sz) ty sz enc l:=
 .inr ⟨g,ver,szs,[],hz,h1,h2,rfl,h3⟩
theorem OwnL.len (h:OwnL H N v ty sz enc l):lenOfV v=l.length:=by
 rcases h with ⟨rfl,rfl⟩|⟨g,ver,szs,pre,_,_,_,rfl,_⟩<;>rfl
theorem OwnL.slice (h:OwnL H N v ty sz enc l):∃a fl,v=.slice a l.length fl:=by
 rcases h with ⟨rfl,rfl⟩|⟨g,ver,szs,pre,_,_,_,rfl,_⟩
 ·exact ⟨_,_,rfl⟩
 ·exact ⟨_,_,rfl⟩
theorem OwnL.frame {H':GH} (h:OwnL H N v ty sz enc l) (hn:H.next≤H'.next) (hg:∀g,blkOf v=some g→H'.get g=H.get g):OwnL H' N v ty sz enc l:=by
 rcases h with h|⟨g,ver,szs,pre,h0,h1,h2,rfl,h3⟩
 ·exact .inl h
 ·exact .inr ⟨g,ver,szs,pre,h0,h1,by omega,rfl,by rw [hg g (by simp [h0])]; exact h3⟩
theorem OwnL.blk_lt (h:OwnL H N v ty sz enc l) {g:Nat} (hg:blkOf v=some g):N≤g∧g<H.next:=by
 rcases h with ⟨_,rfl⟩|⟨g',ver,szs,pre,h0,h1,h2,rfl,h3⟩
 ·simp at hg
 ·simp [h0] at hg; subst hg; exact ⟨h1,h2⟩
theorem OwnL.blk_ty (h:OwnL H N v ty sz enc l) {g:Nat} (hg:blkOf v=some g):∃A,H.get g=some (.arr A)∧A.ty=ty:=by
 rcases h with ⟨_,rfl⟩|⟨g',ver,szs,pre,h0,h1,h2,rfl,h3⟩
 ·simp at hg
 ·simp [h0] at hg; subst hg; exact ⟨_,h3,rfl⟩
theorem OwnL.push (h:OwnL H N v ty sz enc l) (o:GObj):OwnL (H.push o) N v ty sz enc l:=
 h.frame (by simp) fun g hg=>GH.get_push_lt _ _ (h.blk_lt hg).2
theorem OwnL.sub {H':GH} (h:OwnL H N v ty sz enc l) (hs:Sub H H'):OwnL H' N v ty sz enc l:=
 h.frame hs.1 fun g hg=>hs.2 g (h.blk_lt hg).2
theorem OwnL.weaken {M:Nat} (h:OwnL H N v ty sz enc l) (hm:M≤N):OwnL H M v ty sz enc l:=by
 rcases h with h|⟨g,ver,szs,pre,h0,h1,h2,rfl,h3⟩
 ·exact .inl h
 ·exact .inr ⟨g,ver,szs,pre,h0,by omega,h2,rfl,h3⟩
theorem elems_pre (hs:∀x,(enc x).length=sz) {g ver:Nat} {szs:List Nat} {ro:Bool} {pre:List Value} (hg:g<H.next) (h:H.get g=some (.arr ⟨pre++l.flatMap enc,ty,ver,szs,ro⟩)):Elems H (some (ga g pre.length ver)) sz enc l:=by
 refine ⟨hs,fun b hb=>?_,fun h=>by cases h⟩
 cases hb
 refine ⟨hg,?_⟩
 have hl:=flatMap_len hs l
 simp only [read_ga,h,readO_arr,rd_mk,List.length_append]
 rw [if_pos (by omega),List.drop_left,List.take_of_length_le (by omega)]
theorem elems_arr (hs:∀x,(enc x).length=sz) {g ver:Nat} {szs:List Nat} {ro:Bool} (hg:g<H.next) (h:H.get g=some (.arr ⟨l.flatMap enc,ty,ver,szs,ro⟩)):Elems H (some (ga g 0 ver)) sz enc l:=
 elems_pre (pre:= []) hs hg h
theorem OwnL.elems (h:OwnL H N v ty sz enc l) (hs:∀x,(enc x).length=sz):∃a fl,v=.slice a l.length fl∧Elems H a sz enc l:=by
 rcases h with ⟨rfl,rfl⟩|⟨g,ver,szs,pre,h0,h1,h2,rfl,h3⟩
 ·exact ⟨_,_,rfl,hs,fun b hb=>(by cases hb),fun _=>rfl⟩
 ·exact ⟨_,_,rfl,elems_pre hs h2 h3⟩
theorem OwnL.elems' {a:Option Addr} {n fl:Nat} (h:OwnL H N (.slice a n fl) ty sz enc l) (hs:∀x,(enc x).length=sz):Elems H a sz enc l:=by
 obtain ⟨a',fl',e,hE⟩:=h.elems hs
 cases e; exact hE
theorem OwnL.apps (h:OwnL H N v ty sz enc l) (hs:∀x,(enc x).length=sz) (ho:∀x,(enc x).all one=true) (hz:sz≠0) (xs:List α) (hN:N≤H.next):
  ∃v' H',gappend H ty sz v xs.length (xs.flatMap enc)=some (v',H')∧OwnL H' N v' ty sz enc (l++xs)∧H.next≤H'.next∧(∀k,k<H.next→blkOf v≠some k→H'.get k=H.get k)∧(∀k,blkOf v'=some k→blkOf v=some k∨H.next≤k):=by
 have hx:=flatMap_len hs xs
 have hall:(xs.flatMap enc).all one=true:=by
  rw [List.all_eq_true]
  intro c hc
  obtain ⟨y,_,hy⟩:=List.mem_flatMap.1 hc
  exact List.all_eq_true.1 (ho y) c hy
 have c1:¬((xs.flatMap enc).length≠xs.length*sz∨(xs.flatMap enc).all one=false):=by rw [hx,hall]; simp
 by_cases he:xs= []
 ·subst he
  refine ⟨v,H,?_,by simpa using h,Nat.le_refl _,fun _ _ _=>rfl,fun k hk=>.inl hk⟩
  unfold gappend
  rw [if_neg c1]
  rcases h with ⟨rfl,rfl⟩|⟨g,ver,szs,pre,h0,h1,h2,rfl,h3⟩
  ·simp
  ·simp
 have hne:¬xs.length=0:=by simpa using he
 rcases h with ⟨rfl,rfl⟩|⟨g,ver,szs,pre,h0,h1,h2,rfl,h3⟩
 ·refine ⟨.slice (some (ga H.next 0 0)) xs.length sz,H.push (.arr { cells:=xs.flatMap enc,ty:=ty }),?_,.inr ⟨H.next,0,[],[],hz,hN,by simp,by simp,by simp⟩,by simp,fun k hk _=>GH.get_push_lt _ _ hk,fun k hk=>.inr (by simp [hz] at hk; omega)⟩
  unfold gappend
  rw [if_neg c1]
  simp [hne]
 ·have hl:=flatMap_len hs l
  refine ⟨.slice (some (ga g pre.length (ver+1))) (l.length+xs.length) sz,H.put g (.arr { cells:=(pre++l.flatMap enc)++xs.flatMap enc,ty:=ty,ver:=ver+1,sz:=(pre++l.flatMap enc).length::szs,ro:=false }),?_,
   .inr ⟨g,ver+1,(pre++l.flatMap enc).length::szs,pre,h0,h1,by simpa using h2,by simp,by simp⟩,by simp,fun k hk hb=>GH.get_put_ne _ _ (by intro hc; subst hc; simp [h0] at hb),fun k hk=>.inl (by simpa [h0] using hk)⟩
  unfold gappend
  rw [if_neg c1]
  simp only [ga]
  rw [if_neg hne,if_neg hz,if_neg (by simp),h3]
  have hpl:pre.length+l.length*sz=(pre++l.flatMap enc).length:=by rw [List.length_append,hl]
  simp only [true_and]
  have e1:(pre++l.flatMap enc).take (pre.length+l.length*sz)=pre++l.flatMap enc:=List.take_of_length_le (by omega)
  rw [if_pos (by omega),e1]
  simp [hl]
theorem OwnL.app (h:OwnL H N v ty sz enc l) (hs:∀x,(enc x).length=sz) (ho:∀x,(enc x).all one=true) (hz:sz≠0) (x:α) (hN:N≤H.next):
  ∃v' H',gappend H ty sz v 1 (enc x)=some (v',H')∧OwnL H' N v' ty sz enc (l++ [x])∧H.next≤H'.next∧(∀k,k<H.next→blkOf v≠some k→H'.get k=H.get k)∧(∀k,blkOf v'=some k→blkOf v=some k∨H.next≤k):=by
 obtain ⟨v',H',h1,h2⟩:=h.apps hs ho hz [x] hN
 exact ⟨v',H',by simpa using h1,h2⟩
theorem splice_app (off:Nat) (new a b:List Value):splice (a.length+off) new (a++b)=a++splice off new b:=by
 unfold splice
 rw [List.take_append,List.take_of_length_le (by omega),List.append_assoc,List.append_assoc,show a.length+off - a.length=off by omega,
  show a.length+off+new.length=a.length+(off+new.length) by omega,List.drop_append,List.drop_of_length_le (by omega),show a.length+(off+new.length) - a.length=off+new.length by omega]
 simp
theorem splice_in {off:Nat} {new a b:List Value} (h:off+new.length≤a.length):splice off new (a++b)=splice off new a++b:=by
 unfold splice
 rw [List.take_append_of_le_length (by omega),List.drop_append_of_le_length (by omega)]
 simp
theorem splice_flat (hs:∀x,(enc x).length=sz) {k:Nat} {new:List Value} {y:α}:∀ {l:List α} {i:Nat} (hi:i<l.length),k+new.length≤sz→splice k new (enc l[i])=enc y→splice (i*sz+k) new (l.flatMap enc)=(l.set i y).flatMap enc:=by
 intro l
 induction l with
 |nil=>intro i hi; simp at hi
 |cons x l ih=>
  intro i hi hk he
  cases i with
  |zero=>
   simp only [List.getElem_cons_zero] at he
   rw [List.flatMap_cons,List.set_cons_zero,List.flatMap_cons,Nat.zero_mul,Nat.zero_add,splice_in (by rw [hs]; exact hk),he]
  |succ i=>
   simp only [List.getElem_cons_succ] at he
   rw [List.flatMap_cons,List.set_cons_succ,List.flatMap_cons,show (i+1)*sz+k=(enc x).length+(i*sz+k) by rw [hs,Nat.add_mul]; omega,splice_app,ih (by simpa using hi) hk he]
theorem OwnL.wr {a:Addr} {n fl:Nat} (h:OwnL H N (.slice (some a) n fl) ty sz enc l) (hs:∀x,(enc x).length=sz) {i k:Nat} (hi:i<l.length) {c:Value} {new:List Value} (hk:k+(c::new).length≤sz) {y:α} (he:splice k (c::new) (enc l[i])=enc y):
  ∃H',H.write (ea a i sz k) (c::new)=some H'∧OwnL H' N (.slice (some a) n fl) ty sz enc (l.set i y)∧H'.next=H.next∧(∀g,g≠a.block→H'.get g=H.get g):=by
 rcases h with ⟨rfl,h⟩|⟨g,ver,szs,pre,h0,h1,h2,h,h3⟩
 ·simp at hi
 ·cases h
  have hl:=flatMap_len hs l
  have h5:(i+1)*sz≤l.length*sz:=Nat.mul_le_mul_right _ hi
  rw [Nat.add_mul] at h5
  refine ⟨H.put g (.arr ⟨pre++(l.set i y).flatMap enc,ty,ver,[],false⟩),?_,.inr ⟨g,ver,[],pre,h0,h1,h2,by simp,by simp⟩,rfl,fun g' hg=>GH.get_put_ne _ _ hg⟩
  rw [ea_ga,write_ga,h3,writeO_arr]
  simp only [true_and,List.length_append]
  rw [if_pos (by omega),Nat.add_assoc,splice_app,splice_flat hs hi hk he]
theorem OwnL.tail {a:Addr} {n fl:Nat} {x:α} (h:OwnL H N (.slice (some a) n fl) ty sz enc (x::l)) (hs:∀x,(enc x).length=sz):fl=sz∧sz≠0∧OwnL H N (.slice (some (gadd a sz)) (n - 1) fl) ty sz enc l:=by
 rcases h with ⟨h,_⟩|⟨g,ver,szs,pre,h0,h1,h2,h,h3⟩
 ·cases h
 ·cases h
  refine ⟨rfl,h0,.inr ⟨g,ver,szs,pre++enc x,h0,h1,h2,?_,?_⟩⟩
  ·simp [hs]
  ·simpa using h3
end
end Go.Gm
end
section
namespace Go.Gm.Tryz
open Go.Proofs
def partial_ok (l:List Int):Prop:=l.length≤1000∧∀x∈l,0≤x∧x≤1000000
theorem sum_take (l:List Int) (h:partial_ok l) (i:Nat) (hi:i≤l.length):0≤(l.take i).sum∧(l.take i).sum≤i*1000000:=by
 induction i with
 |zero=>simp
 |succ i ih=>
  obtain ⟨h1,h2⟩:=ih (by omega)
  rw [List.take_succ_eq_append_getElem (by omega),List.sum_append]
  have:=h.2 _ (List.getElem_mem (by omega:i<l.length))
  simp
  omega
theorem sum_con (l:List Int) (hl:partial_ok l) (a:Option Addr) (fl:Nat) (H:GH) (hr:Elems H a 1 encI l):C 219 [.slice a l.length fl] H (vi l.sum) H:=by
 have hlen:=hl.1
 refine con_wp tok mix fok219 (F:=g219) (c:=_) rfl (n:=17) rfl (rs:= [.tmp 2]) rfl (anch_closed rfl) ?_
 simp
 refine wp_up tok mix (by kernel_rfl) l.length (fun i ρ m H'=>ρ 6=.slice a l.length fl∧ρ 7=vi l.length∧ρ 8=vi i∧ρ 3=vi (l.take i).sum∧m= []∧H'=H) (i0:=0) (by omega) (by simp) ?_
 rintro i ρ m H' hi ⟨e6,e7,e8,e3,rfl,rfl⟩
 simp [e7,e8]
 refine wpB_dec (fun hlt=>?_) (fun hge=>?_)
 ·obtain ⟨b,rfl,hb,hrd⟩:=hr.at i hlt
  have:=sum_take l hl i hi
  have hx:=hl.2 _ (List.getElem_mem hlt)
  have e:(l.take (i+1)).sum=(l.take i).sum+l[i]:=by rw [List.take_succ_eq_append_getElem hlt,List.sum_append]; simp
  simp (disch:=omega) [e6,e7,e8,e3,hlt,hrd,wrap64,e]
 ·have:i=l.length:=by omega
  subst this
  simp [e3]
def unitI (r:Row) (s:Int):Int:=if s=1 then r.first else r.second
theorem first_con (r:Row) (H:GH):C 263 [rowV r] H (vi r.first) H:=by
 refine con_wp tok mix fok263 (F:=g263) (c:=_) rfl (n:=6) rfl (rs:= [.tmp 2]) rfl (anch_closed rfl) ?_
 simp
theorem second_con (r:Row) (H:GH):C 264 [rowV r] H (vi r.second) H:=by
 refine con_wp tok mix fok264 (F:=g264) (c:=_) rfl (n:=6) rfl (rs:= [.tmp 2]) rfl (anch_closed rfl) ?_
 simp
theorem unit_con (r:Row) (s:Int) (hs:isSystemI s=true) (H:GH):C 251 [rowV r,vi s] H (vi (unitI r s)) H:=by
 refine con_wp tok mix fok251 (F:=g251) (c:=_) rfl (n:=14) rfl (rs:= [.tmp 4]) rfl (anch_closed rfl) ?_
 have hs:s=1∨s=2:=by simpa [isSystemI] using hs
 rcases hs with rfl|rfl
 ·simp [wrap64]
  with_reducible refine (first_con r _).go ?_
  simp (maxDischargeDepth:=9) [unitI]
 ·simp [wrap64]
  with_reducible refine (second_con r _).go ?_
  simp (maxDischargeDepth:=9) [unitI]
def rowAt (t:Tbl) (n:Int):Row:=t.rows.getD n.toNat default
def SetOk (t:Tbl) (l:List Int):Prop:=l.length≤6∧∀n∈l,0≤n∧n<t.rows.length
def countsI (t:Tbl) (s:Int) (l:List Int):Int:=(l.map fun n=>unitI (rowAt t n) s).sum
def givesI (t:Tbl) (l:List Int):Int:=(l.map fun n=>(rowAt t n).gives).sum
theorem table_rows {t:Tbl} (h:isTableB t=true):t.rows.length≤12∧1≤t.rows.length∧∀r∈t.rows,1≤r.first∧r.first≤60∧1≤r.second∧r.second≤60∧1≤r.gives∧r.gives≤1000:=by
 simp only [isTableB,Bool.and_eq_true,Bool.not_eq_true',List.any_eq_false,inI,decide_eq_true_eq] at h
 obtain ⟨⟨⟨h1,h2⟩,h3⟩,h4⟩:=h
 refine ⟨by omega,by omega,fun r hr=>?_⟩
 have:=h4 r hr
 simp [rowBad,inI] at this
 omega
theorem row_mem {t:Tbl} {n:Int} (h0:0≤n) (h1:n<t.rows.length):rowAt t n∈t.rows:=by
 unfold rowAt
 rw [getD_at (by omega)]
 exact List.getElem_mem _
theorem unit_bd {t:Tbl} (h:isTableB t=true) {n:Int} (h0:0≤n) (h1:n<t.rows.length) (s:Int):1≤unitI (rowAt t n) s∧unitI (rowAt t n) s≤60:=by
 have:=(table_rows h).2.2 _ (row_mem h0 h1)
 unfold unitI
 split<;>omega
theorem gives_con (l:TLoc) (t:Tbl) (ht:isTableB t=true) (set:List Int) (hs:SetOk t set) (a:Option Addr) (fl:Nat) (H:GH) (hT:TblIn H l t) (hr:Elems H a 1 encI set):C 163 [tblV l t,.slice a set.length fl] H (vi (givesI t set)) H:=by
 rcases l with ⟨⟨ra,rf⟩⟩
 refine con_wp tok mix fok163 (F:=g163) (c:=_) rfl (n:=26) rfl (rs:= [.tmp 4]) rfl (anch_closed rfl) ?_
 simp
 generalize hH1:H.push _=H1
 have hs1:Sub H H1:=by subst hH1; simp
 have hg1:H1.get H.next=some (.arr { cells:= [.slice ra t.rows.length rf,vi t.draw],ty:=24 }):=by subst hH1; simp
 have hn1:H.next<H1.next:=by subst hH1; simp
 have hr:=hr.mono hs1
 have hT:=hT.mono hs1
 clear hH1
 refine wp_up tok mix (by kernel_rfl) set.length (fun i ρ m H'=>ρ 2=.pointer (some (ga H.next 0 0))∧ρ 8=.slice a set.length fl∧ρ 9=vi set.length∧ρ 10=vi i∧m= []∧Sub H1 H'∧OwnL H' H1.next (ρ 5) 3 1 encI ((set.take i).map fun n=>(rowAt t n).gives)) (i0:=0) (by omega) (by simp [OwnL.nil]) ?_
 rintro i ρ m H' hi ⟨e2,e8,e9,e10,rfl,hsub,hown⟩
 have hg:=hsub.2 H.next hn1
 rw [hg1] at hg
 have hn:H.next<H'.next:=by have:=hsub.1; omega
 simp [e9,e10]
 refine wpB_dec (fun hlt=>?_) (fun hge=>?_)
 ·obtain ⟨b,rfl,hb,hrd⟩:=(hr.mono hsub).at i hlt
  have hm:=hs.2 _ (List.getElem_mem hlt)
  obtain ⟨rb,rfl,hrb,hrrd⟩:=(Elems.at (hT.mono hsub)) (set[i]).toNat (by omega)
  simp (disch:=omega) [e2,e8,e10,hlt,hrd,hg,hrrd]
  have er:rowAt t set[i]=t.rows[(set[i]).toNat]:=getD_at (by omega)
  simp only [←er]
  obtain ⟨v',H'',happ,hown',hnx,hfr,_⟩:=(hown.push (.arr { cells:= [vi (rowAt t set[i]).gives],ty:=3 })).app (by simp) (by simp) (by decide) (rowAt t set[i]).gives (by have:=hsub.1; simp; omega)
  have hlen:=hown.len
  have hl6:=hs.1
  simp only [List.length_map,List.length_take] at hlen
  rw [if_pos (by omega)]
  simp only [encI] at happ
  rw [happ]
  simp (disch:=omega) [e2,e8,e9,e10,wrap64]
  refine ⟨⟨by have:=hsub.1; simp at hnx; omega,fun g hg=>?_⟩,?_⟩
  ·rw [hfr g (by have:=hsub.1; simp; omega) (fun hc=>by have:=hown.blk_lt hc; omega),GH.get_push_lt _ _ (by have:=hsub.1; omega),hsub.2 g hg]
  ·rw [←List.map_take,List.take_succ_eq_append_getElem hlt,List.map_append]
   exact hown'
 ·have hi':i=set.length:=by omega
  subst hi'
  rw [List.take_length] at hown
  obtain ⟨a',fl',hv,hel⟩:=hown.elems (fun _=>rfl)
  simp [hv]
  have:=sum_con (set.map fun n=>(rowAt t n).gives) ⟨by have:=hs.1; simp; omega,?_⟩ a' fl' H' hel
  ·simp only [List.length_map] at this
   refine this.go ?_
   simp [givesI]
   exact hs1.trans hsub
  ·intro x hx
   obtain ⟨n,hn',rfl⟩:=List.mem_map.1 hx
   have hm:=hs.2 n hn'
   have:=(table_rows ht).2.2 _ (row_mem hm.1 hm.2)
   omega
theorem counts_con (l:TLoc) (t:Tbl) (ht:isTableB t=true) (s:Int) (hsys:isSystemI s=true) (set:List Int) (hs:SetOk t set) (a:Option Addr) (fl:Nat) (H:GH) (hT:TblIn H l t) (hr:Elems H a 1 encI set):C 235 [tblV l t,vi s,.slice a set.length fl] H (vi (countsI t s set)) H:=by
 rcases l with ⟨⟨ra,rf⟩⟩
 refine con_wp tok mix fok235 (F:=g235) (c:=_) rfl (n:=29) rfl (rs:= [.tmp 6]) rfl (anch_closed rfl) ?_
 simp
 generalize hH1:H.push _=H1
 have hs1:Sub H H1:=by subst hH1; simp
 have hg1:H1.get H.next=some (.arr { cells:= [.slice ra t.rows.length rf,vi t.draw],ty:=24 }):=by subst hH1; simp
 have hn1:H.next<H1.next:=by subst hH1; simp
 have hr:=hr.mono hs1
 have hT:=hT.mono hs1
 clear hH1
 refine wp_up tok mix (by kernel_rfl) set.length (fun i ρ m H'=>ρ 1=vi s∧ρ 3=.pointer (some (ga H.next 0 0))∧ρ 10=.slice a set.length fl∧ρ 11=vi set.length∧ρ 12=vi i∧m= []∧Sub H1 H'∧OwnL H' H1.next (ρ 7) 3 1 encI ((set.take i).map fun n=>unitI (rowAt t n) s)) (i0:=0) (by omega) (by simp [OwnL.nil]) ?_
 rintro i ρ m H' hi ⟨e1,e3,e10,e11,e12,rfl,hsub,hown⟩
 have hg:=hsub.2 H.next hn1
 rw [hg1] at hg
 have hn:H.next<H'.next:=by have:=hsub.1; omega
 simp [e11,e12]
 refine wpB_dec (fun hlt=>?_) (fun hge=>?_)
 ·obtain ⟨b,rfl,hb,hrd⟩:=(hr.mono hsub).at i hlt
  have hm:=hs.2 _ (List.getElem_mem hlt)
  obtain ⟨rb,rfl,hrb,hrrd⟩:=(Elems.at (hT.mono hsub)) (set[i]).toNat (by omega)
  simp (disch:=omega) [e1,e3,e10,e12,hlt,hrd,hg,hrrd]
  have er:rowAt t set[i]=t.rows[(set[i]).toNat]:=getD_at (by omega)
  simp only [←er]
  with_reducible refine (unit_con _ s hsys _).go ?_
  simp (disch:=omega)
  obtain ⟨v',H'',happ,hown',hnx,hfr,_⟩:=(hown.push (.arr { cells:= [vi (unitI (rowAt t set[i]) s)],ty:=3 })).app (by simp) (by simp) (by decide) (unitI (rowAt t set[i]) s) (by have:=hsub.1; simp; omega)
  have hlen:=hown.len
  have hl6:=hs.1
  simp only [List.length_map,List.length_take] at hlen
  rw [if_pos (by omega)]
  simp only [encI] at happ
  rw [happ]
  simp (disch:=omega) [e1,e3,e10,e11,e12,wrap64]
  refine ⟨⟨by have:=hsub.1; simp at hnx; omega,fun g hg=>?_⟩,?_⟩
  ·rw [hfr g (by have:=hsub.1; simp; omega) (fun hc=>by have:=hown.blk_lt hc; omega),GH.get_push_lt _ _ (by have:=hsub.1; omega),hsub.2 g hg]
  ·rw [←List.map_take,List.take_succ_eq_append_getElem hlt,List.map_append]
   exact hown'
 ·have hi':i=set.length:=by omega
  subst hi'
  rw [List.take_length] at hown
  obtain ⟨a',fl',hv,hel⟩:=hown.elems (fun _=>rfl)
  simp [hv]
  have:=sum_con (set.map fun n=>unitI (rowAt t n) s) ⟨by have:=hs.1; simp; omega,?_⟩ a' fl' H' hel
  ·simp only [List.length_map] at this
   refine this.go ?_
   simp [countsI]
   exact hs1.trans hsub
  ·intro x hx
   obtain ⟨n,hn',rfl⟩:=List.mem_map.1 hx
   have hm:=hs.2 n hn'
   have:=unit_bd ht hm.1 hm.2 s
   omega
end Go.Gm.Tryz
end
section
namespace Go.Gm.Tryz
open Go.Proofs
theorem cloneI_con (l:List Int) (hl:l.length≤1000) (a:Option Addr) (fl:Nat) (H:GH) (hr:Elems H a 1 encI l):GCall Tryz.prog 39 [.slice a l.length fl] H (fun x H'=>∃v,x=.ret v∧Sub H H'∧OwnL H' H.next v 3 1 encI l):=by
 refine gcall_wp tok mix fok39 (F:=g39) (c:=_) rfl (n:=8) rfl (rs:= [.tmp 2]) rfl ?_
 simp
 cases a with
 |none=>
  have:=hr.nil rfl
  subst this
  simp [OwnL.nil]
 |some b=>
  obtain ⟨hb,hrd⟩:=hr.ok b rfl
  simp (disch:=omega)
  have h1:(H.push (.arr { cells:= [],ty:=3 })).read b l.length=some (l.flatMap encI):=by rw [read_push _ _ _ hb]; simpa using hrd
  have h0:OwnL (H.push (.arr { cells:= [],ty:=3 })) H.next (.slice (some (ga H.next 0 0)) 0 1) 3 1 encI []:=OwnL.mk (l:= []) (by decide) (Nat.le_refl _) (by simp) (ver:=0) (szs:= []) (by simp)
  obtain ⟨v',H',happ,hown,hnx,hfr,_⟩:=h0.apps (by simp) (by simp) (by decide) l (by simp)
  have c8:8*l.length≤1000000:=by omega
  have c9:l.length≤1000000:=by omega
  simp (disch:=omega) [h1,happ,c8,c9]
  refine ⟨⟨by simp at hnx; omega,fun g hg=>?_⟩,by simpa using hown⟩
  rw [hfr g (by simp; omega) (by simp; omega),GH.get_push_lt _ _ hg]
theorem isNaN_con (x:Int) (H:GH):C 196 [vi x] H (.bool false) H:=by
 refine con_wp tok mix fok196 (F:=g196) (c:=_) rfl (n:=6) rfl (rs:= [.tmp 2]) rfl (anch_closed rfl) ?_
 simp
theorem less_con (x y:Int) (H:GH):C 143 [vi x,vi y] H (.bool (decide (x<y))) H:=by
 refine con_wp tok mix fok143 (F:=g143) (c:=_) rfl (n:=17) rfl (rs:= [.tmp 4]) rfl (anch_closed rfl) ?_
 simp
 with_reducible refine (isNaN_con _ _).go ?_
 simp
def sortedB (l:List Int):Bool:=(List.range (l.length - 1)).all fun j=>decide (l.getD j 0≤l.getD (j+1) 0)
theorem isSorted_con (l:List Int) (hl:l.length≤1000) (a:Option Addr) (fl:Nat) (H:GH) (hr:Elems H a 1 encI l):C 216 [.slice a l.length fl] H (.bool (sortedB l)) H:=by
 refine con_wp tok mix fok216 (F:=g216) (c:=_) rfl (n:=21) rfl (rs:= [.tmp 2]) rfl (anch_closed rfl) ?_
 simp (disch:=omega) [wrap64]
 refine wp_loop tok mix (by kernel_rfl) (fun k ρ m H'=>∃i:Int,k=(i+1).toNat∧ -1≤i∧i<l.length∧ρ 0=.slice a l.length fl∧ρ 3=vi i∧m= []∧H'=H∧∀j:Nat,i≤(j:Int)→j+1<l.length→l.getD j 0≤l.getD (j+1) 0) (k:=((l.length:Int) - 1+1).toNat) ⟨(l.length:Int) - 1,rfl,by omega,by omega,by simp,by simp,rfl,rfl,fun j h1 h2=>by omega⟩ ?_
 rintro k ρ m H' ⟨i,rfl,hi1,hi2,e0,e3,rfl,rfl,hj⟩
 simp [e3]
 refine wpB_dec (fun hlt=>?_) (fun hge=>?_)
 ·obtain ⟨n,rfl⟩:∃n:Nat,i=(n:Int)+1:=⟨(i - 1).toNat,by omega⟩
  obtain ⟨b,rfl,hb,hrd⟩:=hr.at (n+1) (by omega)
  obtain ⟨b',hb',_,hrd'⟩:=hr.at n (by omega)
  cases hb'
  have e1:((n:Int)+1).toNat=n+1:=by omega
  have e2:((n:Int)+1 - 1)=n:=by omega
  simp (disch:=omega) [e0,e3,hlt,e1,e2,wrap64,hrd,hrd']
  with_reducible refine (less_con _ _ _).go ?_
  simp
  refine wpB_bool (fun h7=>?_) (fun h7=>?_)<;>(try simp only [decide_eq_true_eq,decide_eq_false_iff_not] at h7)
  ·have:sortedB l=false:=by
    unfold sortedB
    rw [List.all_eq_false]
    refine ⟨n,List.mem_range.2 (by omega),?_⟩
    rw [getD_at (by omega),getD_at (by omega)]
    simp; omega
   simp [this]
  ·simp (disch:=omega) [e0,e3,e2,wrap64]
   refine ⟨n+1,by omega,(n:Int),by omega,by omega,by omega,rfl,fun j h1 h2=>?_⟩
   by_cases hc:j=n
   ·subst hc
    simp [List.getElem?_eq_getElem (show j<l.length by omega),List.getElem?_eq_getElem (show j+1<l.length by omega)]
    omega
   ·have:=hj j (by omega) h2
    simpa using this
 ·have:sortedB l=true:=by
   unfold sortedB
   rw [List.all_eq_true]
   intro j hjm
   have:=List.mem_range.1 hjm
   simpa using hj j (by omega) (by omega)
  simp [this]
def isRowB (t:Tbl) (n:Int):Bool:=inI n 0 (t.rows.length - 1)
theorem isRow_con (l:TLoc) (t:Tbl) (ht:t.rows.length≤1000) (n:Int) (H:GH):C 218 [tblV l t,vi n] H (.bool (isRowB t n)) H:=by
 refine con_wp tok mix fok218 (F:=g218) (c:=_) rfl (n:=11) rfl (rs:= [.tmp 4]) rfl (anch_closed rfl) ?_
 simp (disch:=omega) [wrap64]
 with_reducible refine (nin_con _ _ _ _).go ?_
 simp [isRowB]
theorem badRow_con (l:TLoc) (t:Tbl) (ht:t.rows.length≤1000) (n:Int) (g:Nat) (H:GH) (hg:H.get g=some (.arr { cells:= [.slice l.rows.a t.rows.length l.rows.fl,vi t.draw],ty:=24 })):C 217 [vi n,.pointer (some (ga g 0 0))] H (.bool (!isRowB t n)) H:=by
 refine con_wp tok mix fok217 (F:=g217) (c:=_) rfl (n:=8) rfl (rs:= [.tmp 3]) rfl (anch_closed rfl) ?_
 simp [hg]
 with_reducible refine (isRow_con l t ht _ _).go ?_
 simp
def isSetB (t:Tbl) (l:List Int):Bool:=decide (l.length≤6)&&sortedB l&& !l.any (fun n=> !isRowB t n)
theorem isSet_con (l:TLoc) (t:Tbl) (ht:t.rows.length≤1000) (set:List Int) (a:Option Addr) (fl:Nat) (H:GH) (hr:Elems H a 1 encI set):C 162 [tblV l t,.slice a set.length fl] H (.bool (isSetB t set)) H:=by
 rcases l with ⟨⟨ra,rf⟩⟩
 refine con_wp tok mix fok162 (F:=g162) (c:=_) rfl (n:=18) rfl (rs:= [.tmp 4]) rfl (anch_closed rfl) ?_
 simp
 refine contG_bool (fun h=>?_) (fun h=>?_)<;>(try simp only [decide_eq_true_eq,decide_eq_false_iff_not] at h)
 case refine_2=>simp [h,isSetB]; omega
 simp [h]
 refine (isSorted_con set (by omega) a fl _ (hr.push _)).go ?_
 simp
 cases hso:sortedB set
 ·simp [hso,isSetB]
 simp
 refine (anyInt_con set (by omega) a fl 217 #[.pointer (some (ga H.next 0 0))] (fun n=> !isRowB t n) _ (hr.push _) (fun k hk=>?_)).go ?_
 ·exact badRow_con ⟨⟨ra,rf⟩⟩ t ht _ _ _ (by simp)
 have:set.length≤6:=by omega
 simp [isSetB,hso,this]
theorem setOk_of {t:Tbl} {l:List Int} (h:isSetB t l=true):SetOk t l:=by
 simp only [isSetB,Bool.and_eq_true,decide_eq_true_eq,Bool.not_eq_true',List.any_eq_false] at h
 refine ⟨h.1.1,fun n hn=>?_⟩
 have:=h.2 n hn
 simp [isRowB,inI] at this
 omega
theorem Gives_con (l:TLoc) (t:Tbl) (set:List Int) (a:Option Addr) (fl:Nat) (H:GH) (hT:TblIn H l t) (hr:Elems H a 1 encI set):C 120 [tblV l t,.slice a set.length fl] H (if isTableB t&&isSetB t set then .tuple #[vi (givesI t set),vi 0] else .tuple #[vi 0,vi 2]) H:=by
 rcases l with ⟨⟨ra,rf⟩⟩
 refine con_wp tok mix fok120 (F:=g120) (c:=_) rfl (n:=18) rfl (rs:= [.tmp 4,.tmp 5]) rfl (by split<;>exact anch_tuple (l:= [_,_]) (by simp; exact ⟨anch_closed rfl,anch_closed rfl⟩)) ?_
 simp
 with_reducible refine (isTable_con ⟨⟨_,_⟩⟩ t _ (hT.push _)).go ?_
 simp
 cases htb:isTableB t
 ·simp
 simp
 have hrows:=table_rows htb
 refine (isSet_con ⟨⟨_,_⟩⟩ t (by omega) set a fl _ (hr.push _)).go ?_
 simp
 cases hsb:isSetB t set
 ·simp
 simp
 refine (gives_con ⟨⟨_,_⟩⟩ t htb set (setOk_of hsb) a fl _ (hT.push _) (hr.push _)).go ?_
 simp
end Go.Gm.Tryz
end
section
namespace Go.Gm
noncomputable section
def loopO (f:FuncId) (ps:Array Tmp) (avs bd:Code) (d:Nat) (st:LoopState) (pd:Option Code) (gt:GT):GObj:=
 .loop { state:=st,pending:=pd,fn:=f,tmps:= #[],params:=ps,assign:=avs,body:=bd,defers:=d } gt
theorem exists_gt (n:Nat) (ρ:Rho):∃gt:GT,gt.list=(List.range n).map ρ:=by
 have:∀k,k≤n→∃gt:GT,gt.n=n∧∀i,i<k→gt.get i=ρ i:=by
  intro k
  induction k with
  |zero=>intro _; exact ⟨⟨.nil,n⟩,rfl,fun i hi=>by omega⟩
  |succ k ih=>
   intro hk
   obtain ⟨gt,h1,h2⟩:=ih (by omega)
   refine ⟨gt.set k (ρ k),by rw [GT.set_eq]; split<;>exact h1,fun i hi=>?_⟩
   rw [GT.get_eq,GT.set_eq,h1,if_pos (show k<n by omega)]
   have hin:i<n:=by omega
   simp only [hin,if_true]
   by_cases hc:i=k
   ·subst hc; rw [Tr.get_set_same]; rfl
   ·rw [Tr.get_set_ne _ _ hc]
    have:=h2 i (by omega)
    rw [GT.get_eq,h1,if_pos hin] at this
    exact this
 obtain ⟨gt,h1,h2⟩:=this n (Nat.le_refl _)
 refine ⟨gt,?_⟩
 unfold GT.list
 rw [h1]
 exact List.map_congr_left fun i hi=>h2 i (List.mem_range.1 hi)
def pendQ (pd:Option Code) (Q:VQ):Rho→List Nat→GH→Prop
 |ρ,m,H=>match pd with
  |none=>Q .normal ρ m H
  |some .ret=>Q .ret ρ m H
  |some (.exit i)=>Q (.exit i) ρ m H
  |some _=>False
theorem wp_rangeOut {X:Cx} (hro:X.ro=none) {g:Operand} {ps:Array Tmp} {avs bd:Code} {Q:VQ} {ρ:Rho} {m:List Nat} {H:GH} (hx:xOk g=true) {gf:FuncId} {first captured:Array Value} (hg:rv X.n ρ g=.func (.func gf) first captured) (f:FuncId)
  (h:∀gt:GT,gt.list=(List.range X.n).map ρ→GCall X.P gf (first.toList++ [.func (.yield (H.next+1)) #[] #[]]++captured.toList) ((H.push (.marks true)).push (loopO f ps avs bd H.next .ready none gt)) fun x H2=>∃v st pd gt2,x=.ret v∧
   H2.get (H.next+1)=some (loopO f ps avs bd H.next st pd gt2)∧st≠ .busy∧pendQ pd Q ρ (H.next::m) (H2.put (H.next+1) (loopO f ps avs bd H.next .exhausted pd gt2))):wpC X (.rangeFunc g ps avs bd) Q ρ m H:=by
 obtain ⟨gt,hgt⟩:=exists_gt X.n ρ
 show GW X.P X.ro (.rangeFunc g ps avs bd) (fa X.n ρ m) H (QG X.n Q)
 refine gw_rangeFunc hx (by rw [ev_fa]; exact hg) f (by rw [hro]; exact .outer) (gt:=gt) hgt ?_
 refine (h gt hgt).mono ?_
 rintro x H2 ⟨v,st,pd,gt2,rfl,h1,h2,h3⟩
 refine ⟨_,gt2,h1,h2,?_⟩
 simp only
 match pd,h3 with
 |none,h3=>exact ⟨ρ,_,rfl,h3⟩
 |some .ret,h3=>exact gw_ret ⟨ρ,_,rfl,h3⟩
 |some (.exit i),h3=>exact gw_exit ⟨ρ,_,rfl,h3⟩
def rdQ (l:Nat) (f:FuncId) (ps:Array Tmp) (avs bd:Code) (d:Nat) (gt:GT) (R:GO→GH→Prop):VQ
 | .normal,_,_,H=>H.get l=some (loopO f ps avs bd d .busy none gt)∧R (.ret (.bool true)) (H.put l (loopO f ps avs bd d .ready none gt))
 | .exit i,_,_,H=>H.get l=some (loopO f ps avs bd d .busy none gt)∧R (.ret (.bool false)) (H.put l (loopO f ps avs bd d .done (some (.exit i)) gt))
 | .ret,_,_,H=>H.get l=some (loopO f ps avs bd d .busy none gt)∧R (.ret (.bool false)) (H.put l (loopO f ps avs bd d .done (some .ret) gt))
 | .pan _,_,_,_=>False
theorem setAll_fa (n:Nat) (ρ:Rho) (p:Nat) (v:Value):setAll ((List.range n).map ρ) (([p]:List Nat).zip [v])=(List.range n).map (upd ρ p v):=by
 have:=fa_put n ρ [] (some p) v
 exact congrArg GA.tmps this
theorem ground_wp {P:Program} {T:Tab} (hT:TabOk P T) (hmix:P.follows .mixedOrders=true) {plans:List (Nat×Plan)} {n l:Nat} {f:FuncId} {p:Tmp} {avs bd:Code} {d:Nat} {gt:GT} {ρ:Rho} (hgt:gt.list=(List.range n).map ρ)
  (hb:codeOk T plans avs=true) (hb2:codeOk T plans bd=true) {H:GH} {v:Value} {R:GO→GH→Prop} (hg:H.get l=some (loopO f #[p] avs bd d .ready none gt))
  (h:wpC ⟨P,T,plans,n,some l⟩ avs (fun x ρ1 m1 H1=>x=.normal∧m1= []∧H1.get l=some (loopO f #[p] avs bd d .ready none gt)∧wpC ⟨P,T,plans,n,some l⟩ bd (rdQ l f #[p] avs bd d gt R) ρ1 [] (H1.put l (loopO f #[p] avs bd d .busy none gt))) (upd ρ p v) [] H):GRound P l [v] H R:=by
 refine ground_of hg rfl ?_
 simp only
 have e:({ tmps:=setAll gt.list (([p]:List Nat).zip [v]) }:GA)=fa n (upd ρ p v) []:=by rw [hgt,setAll_fa]; rfl
 show GW P (some l) avs { tmps:=setAll gt.list (([p]:List Nat).zip [v]) } H _
 rw [e]
 refine (wpC_sound (X:=⟨P,T,plans,n,some l⟩) hT hmix avs hb h).mono ?_
 rintro x a H1 ⟨ρ1,m1,rfl,rfl,rfl,h1,h2⟩
 refine ⟨rfl,_,gt,h1,rfl,?_⟩
 refine (wpC_sound (X:=⟨P,T,plans,n,some l⟩) hT hmix bd hb2 h2).mono ?_
 rintro x a H2 ⟨ρ2,m2,rfl,hq⟩
 cases x with
 |normal=>exact ⟨_,gt,hq.1,hq.2⟩
 |exit i=>exact ⟨_,gt,hq.1,hq.2⟩
 |ret=>exact ⟨_,gt,hq.1,hq.2⟩
 |pan v=>exact hq.elim
structure Frm (O O':Nat→Prop) (H H':GH):Prop where
 next:H.next≤H'.next
 keep:∀g,g<H.next→¬O g→H'.get g=H.get g
 own:∀g,O' g→O g∨H.next≤g
 lt:∀g,O' g→g<H'.next
theorem Frm.refl {O:Nat→Prop} {H:GH} (h:∀g,O g→g<H.next):Frm O O H H:=⟨Nat.le_refl _,fun _ _ _=>rfl,fun _ h=>.inl h,h⟩
theorem Frm.trans {O0 O1 O2:Nat→Prop} {H0 H1 H2:GH} (a:Frm O0 O1 H0 H1) (b:Frm O1 O2 H1 H2):Frm O0 O2 H0 H2:=by
 refine ⟨Nat.le_trans a.next b.next,fun g hg ho=>?_,fun g hg=>?_,b.lt⟩
 ·rw [b.keep g (Nat.lt_of_lt_of_le hg a.next) fun hc=>(a.own g hc).elim ho (by omega),a.keep g hg ho]
 ·rcases b.own g hg with h|h
  ·exact a.own g h
  ·exact .inr (Nat.le_trans a.next h)
theorem Frm.of_sub {O:Nat→Prop} {H H':GH} (h:∀g,O g→g<H.next) (hs:Sub H H'):Frm O O H H':=⟨hs.1,fun g hg _=>hs.2 g hg,fun _ h=>.inl h,fun g hg=>Nat.lt_of_lt_of_le (h g hg) hs.1⟩
theorem Frm.sub {O O':Nat→Prop} {H H1 H':GH} (hs:Sub H H1) (b:Frm O O' H1 H'):Frm O O' H H':=
 ⟨Nat.le_trans hs.1 b.next,fun g hg ho=>by rw [b.keep g (Nat.lt_of_lt_of_le hg hs.1) ho,hs.2 g hg],fun g hg=>(b.own g hg).imp id fun h=>Nat.le_trans hs.1 h,b.lt⟩
theorem Frm.not {O O':Nat→Prop} {H H':GH} (a:Frm O O' H H') {g:Nat} (hg:g<H.next) (ho:¬O g):¬O' g:=fun hc=>(a.own g hc).elim ho (by omega)
theorem Elems.frm {α:Type} {H H':GH} {O O':Nat→Prop} {a:Option Addr} {sz:Nat} {enc:α→List Value} {l:List α} (e:Elems H a sz enc l) (f:Frm O O' H H') (ha:∀b,a=some b→¬O b.block):Elems H' a sz enc l:=by
 refine ⟨e.len,fun b hb=>?_,e.nil⟩
 obtain ⟨h1,h2⟩:=e.ok b hb
 refine ⟨Nat.lt_of_lt_of_le h1 f.next,?_⟩
 rw [←h2]
 simp only [GH.read]
 rw [f.keep _ h1 (ha b hb)]
theorem Elems.put {α:Type} {H:GH} {a:Option Addr} {sz:Nat} {enc:α→List Value} {l:List α} (e:Elems H a sz enc l) {g:Nat} (o:GObj) (h:∀b,a=some b→b.block≠g):Elems (H.put g o) a sz enc l:=by
 refine ⟨e.len,fun b hb=>?_,e.nil⟩
 obtain ⟨h1,h2⟩:=e.ok b hb
 exact ⟨h1,by rw [read_put _ _ _ _ (h b hb)]; exact h2⟩
theorem Elems.put_loop {α:Type} {H:GH} {a:Option Addr} {sz:Nat} {enc:α→List Value} {l:List α} (e:Elems H a sz enc l) {g:Nat} {o:GObj} (hg:H.get g=some o) (ho:o.isArr=false) (o':GObj):Elems (H.put g o') a sz enc l:=by
 refine e.put o' fun b hb hc=>?_
 obtain ⟨_,h2⟩:=e.ok b hb
 subst hc
 unfold GH.read at h2
 split at h2
 ·rename_i A _ hA; rw [hA] at hg; cases hg; cases ho
 ·cases h2
@[simp] theorem loopO_isArr (f:FuncId) (ps:Array Tmp) (avs bd:Code) (d:Nat) (st:LoopState) (pd:Option Code) (gt:GT):(loopO f ps avs bd d st pd gt).isArr=false:=rfl
theorem Elems.same {α:Type} {H H':GH} {a:Option Addr} {sz:Nat} {enc:α→List Value} {l:List α} (e:Elems H a sz enc l) (hn:H.next≤H'.next) (h:∀g A,g<H.next→H.get g=some (.arr A)→H'.get g=H.get g):Elems H' a sz enc l:=by
 refine ⟨e.len,fun b hb=>?_,e.nil⟩
 obtain ⟨h1,h2⟩:=e.ok b hb
 refine ⟨Nat.lt_of_lt_of_le h1 hn,?_⟩
 have h3:∃A,H.get b.block=some (.arr A):=by
  unfold GH.read at h2
  split at h2
  ·rename_i A _ hA; exact ⟨A,hA⟩
  ·cases h2
 obtain ⟨A,hA⟩:=h3
 rw [←h2]
 simp only [GH.read]
 rw [h _ A h1 hA]
def valBlk:Value→Option Nat
 | .slice (some a) _ _=>some a.block
 |_=>none
@[simp] theorem valBlk_slice (a:Option Addr) (n c:Nat):valBlk (.slice a n c)=a.map (·.block):=by cases a<;>rfl
def YieldOk {α:Type} (P:Program) (l:Nat) (xs:List α) (argR:GH→Value→α→Prop) (Inv:Nat→GH→(Nat→Prop)→Prop) (Stop:GH→(Nat→Prop)→Prop):Prop:=
 ∀k (h:k<xs.length) H O v,Inv k H O→argR H v xs[k]→(∀b,valBlk v=some b→¬O b)→GRound P l [v] H fun x H'=>∃O',Frm O O' H H'∧((x=.ret (.bool true)∧Inv (k+1) H' O')∨(x=.ret (.bool false)∧Stop H' O'))
def StableS (N:Nat) (S:GH→(Nat→Prop)→Prop):Prop:=
 ∀H H' O,S H O→(∀g,O g→g<H.next)→H.next≤H'.next→(∀g,g<H.next→(O g∨g<N)→H'.get g=H.get g)→S H' O
def StableT (N:Nat) (S:GH→(Nat→Prop)→Prop):Prop:=
 ∀H H' O,S H O→(∀g,O g→g<H.next)→H.next≤H'.next→(∀g,g<H.next→(O g∨g<N∨∃A,H.get g=some (.arr A))→H'.get g=H.get g)→S H' O
def Stable (N:Nat) (Inv:Nat→GH→(Nat→Prop)→Prop):Prop:=∀k,StableS N (Inv k)
def Iter {α:Type} (P:Program) (gf:FuncId) (first captured:Array Value) (H:GH) (xs:List α) (argR:GH→Value→α→Prop) (Priv:Nat→Prop):Prop:=
 ∀l Hc Inv Stop O,Sub H Hc→YieldOk P l xs argR Inv Stop→Stable Hc.next Inv→StableT Hc.next Stop→Inv 0 Hc O→(∀g,O g→g<Hc.next)→(∀g,O g→¬Priv g)→
  GCall P gf (first.toList++ [.func (.yield l) #[] #[]]++captured.toList) Hc fun x H'=>∃O' v,x=.ret v∧Frm O O' Hc H'∧(Inv xs.length H' O'∨Stop H' O')
def bodyQ (Hk:GH) (Ok:Nat→Prop) (J:GH→(Nat→Prop)→Prop) (S:GX→GH→(Nat→Prop)→Prop):VQ
 | .normal,_,_,H'=>∃O',Frm Ok O' Hk H'∧J H' O'
 | .exit i,_,_,H'=>∃O',Frm Ok O' Hk H'∧S (.exit i) H' O'
 | .ret,_,_,H'=>∃O',Frm Ok O' Hk H'∧S .ret H' O'
 | .pan _,_,_,_=>False
section
variable {Hk:GH} {Ok:Nat→Prop} {J:GH→(Nat→Prop)→Prop} {S:GX→GH→(Nat→Prop)→Prop} {ρ:Rho} {m:List Nat} {H':GH}
@[simp] theorem bodyQ_normal:bodyQ Hk Ok J S .normal ρ m H'=∃O',Frm Ok O' Hk H'∧J H' O':=rfl
@[simp] theorem bodyQ_exit (i:Nat):bodyQ Hk Ok J S (.exit i) ρ m H'=∃O',Frm Ok O' Hk H'∧S (.exit i) H' O':=rfl
@[simp] theorem bodyQ_ret:bodyQ Hk Ok J S .ret ρ m H'=∃O',Frm Ok O' Hk H'∧S .ret H' O':=rfl
end
def codeOf:GX→Option Code
 | .exit i=>some (.exit i)
 | .ret=>some .ret
 |_=>none
theorem Frm.put_new {O O':Nat→Prop} {H H':GH} (f:Frm O O' H H') {g:Nat} (hg:H.next≤g) (o:GObj):Frm O O' H (H'.put g o):=
 ⟨f.next,fun k hk ho=>by rw [GH.get_put_ne _ _ (by omega)]; exact f.keep k hk ho,f.own,f.lt⟩
theorem Frm.put {O:Nat→Prop} {H:GH} {g:Nat} (hO:∀g,O g→g<H.next) (ho:O g) (o:GObj):Frm O O H (H.put g o):=
 ⟨Nat.le_refl _,fun _k _ hk=>GH.get_put_ne _ _ fun hc=>hk (hc▸ho),fun _ h=>.inl h,hO⟩
theorem iter_yield {P:Program} {T:Tab} (hT:TabOk P T) (hmix:P.follows .mixedOrders=true) {plans:List (Nat×Plan)} {n l mk d:Nat} {f:FuncId} {p:Tmp} {avs bd:Code} {gt:GT} {ρ:Rho} (hgt:gt.list=(List.range n).map ρ)
  (hb1:codeOk T plans avs=true) (hb2:codeOk T plans bd=true) {α:Type} {xs:List α} {argR:GH→Value→α→Prop} (hargR:∀H v x o o',argR H v x→H.get l=some o→o.isArr=false→argR (H.put l o') v x)
  {J:Nat→GH→(Nat→Prop)→Prop} {S:GX→GH→(Nat→Prop)→Prop} {O:Nat→Prop} {H:GH} (hJs:Stable H.next J) (hSs:∀x,StableT H.next (S x)) (hl:H.next≤l) (_hmk:H.next≤mk) (hlm:l≠mk) {om:GObj}
  (ρa:Value→Rho) (has:∀Hk v,wpC ⟨P,T,plans,n,some l⟩ avs (fun x ρ1 m1 H1=>x=.normal∧m1= []∧H1=Hk∧ρ1=ρa v) (upd ρ p v) [] Hk)
  (body:∀k (hk:k<xs.length) Hk Ok v,J k Hk Ok→Frm O Ok H Hk→argR Hk v xs[k]→(∀b,valBlk v=some b→¬Ok b)→l<Hk.next→¬Ok l→Hk.get l=some (loopO f #[p] avs bd d .busy none gt)→wpC ⟨P,T,plans,n,some l⟩ bd (bodyQ Hk Ok (J (k+1)) S) (ρa v) [] Hk):
  YieldOk P l xs argR
   (fun k Hk OL=>∃O',(∀g,OL g↔O' g∨g=l)∧¬O' l∧¬O' mk∧Frm O O' H Hk∧J k Hk O'∧Hk.get l=some (loopO f #[p] avs bd d .ready none gt)∧Hk.get mk=some om∧l<Hk.next∧mk<Hk.next)
   (fun Hk OL=>∃O' x,(∀g,OL g↔O' g∨g=l)∧¬O' l∧¬O' mk∧Frm O O' H Hk∧S x Hk O'∧(x=.ret∨∃i,x=.exit i)∧Hk.get l=some (loopO f #[p] avs bd d .done (codeOf x) gt)∧Hk.get mk=some om∧l<Hk.next∧mk<Hk.next):=by
 rintro k hk Hk OL v ⟨O',hOL,hol,hom,hfr,hJ,hgl,hgm,hll,hml⟩ ha hav
 refine ground_wp hT hmix hgt hb1 hb2 hgl ?_
 refine wpC_mono (has Hk v) ?_
 rintro x ρ1 m1 H1 ⟨rfl,rfl,rfl,rfl⟩
 refine ⟨rfl,rfl,hgl,?_⟩
 have hlt:∀g,O' g→g<H1.next:=hfr.lt
 have hfr2:Frm O O' H (H1.put l (loopO f #[p] avs bd d .busy none gt)):=
  ⟨hfr.next,fun g hg ho=>by rw [GH.get_put_ne _ _ (by omega)]; exact hfr.keep g hg ho,hfr.own,hfr.lt⟩
 have hJ2:J k (H1.put l (loopO f #[p] avs bd d .busy none gt)) O':=hJs k H1 _ O' hJ hlt (Nat.le_refl _) fun g hg hor=>GH.get_put_ne _ _ fun hc=>by
  subst hc
  rcases hor with h|h
  ·exact hol h
  ·omega
 refine wpC_mono (body k hk _ O' v hJ2 hfr2 (hargR H1 v _ _ _ ha hgl (by simp)) (fun b hb hc=>hav b hb ((hOL b).2 (.inl hc))) hll hol (GH.get_put_same _ _)) ?_
 intro x ρ2 m2 H2 hx
 have fin:∀(O2:Nat→Prop),Frm O' O2 (H1.put l (loopO f #[p] avs bd d .busy none gt)) H2→H2.get l=some (loopO f #[p] avs bd d .busy none gt)∧H2.get mk=some om∧¬O2 l∧¬O2 mk∧l<H2.next∧mk<H2.next∧∀o,Frm OL (fun g=>O2 g∨g=l) H1 (H2.put l o)∧Frm O O2 H (H2.put l o):=by
  intro O2 h2
  have hn:=h2.next
  simp only [GH.next_put] at hn
  refine ⟨by rw [h2.keep l hll hol,GH.get_put_same],by rw [h2.keep mk hml hom,GH.get_put_ne _ _ (Ne.symm hlm)]; exact hgm,h2.not hll hol,h2.not hml hom,by omega,by omega,fun o=>⟨⟨by simpa using hn,fun g hg ho=>?_,fun g hg=>?_,fun g hg=>?_⟩,?_⟩⟩
  ·have hgl':g≠l:=fun hc=>ho ((hOL g).2 (.inr hc))
   rw [GH.get_put_ne _ _ hgl',h2.keep g hg (fun hc=>ho ((hOL g).2 (.inl hc))),GH.get_put_ne _ _ hgl']
  ·rcases hg with h|h
   ·exact (h2.own g h).imp (fun h=>(hOL g).2 (.inl h)) fun h=>by simpa using h
   ·exact .inl ((hOL g).2 (.inr h))
  ·rcases hg with h|h
   ·exact h2.lt g h
   ·subst h; simp; omega
  ·have:=hfr2.trans h2
   exact ⟨this.next,fun g hg ho=>by rw [GH.get_put_ne _ _ (by omega)]; exact this.keep g hg ho,this.own,this.lt⟩
 have stb:∀(O2:Nat→Prop),Frm O' O2 (H1.put l (loopO f #[p] avs bd d .busy none gt)) H2→∀o g,g<H2.next→(O2 g∨g<H.next)→(H2.put l o).get g=H2.get g:=by
  intro O2 h2 o g hg hor
  refine GH.get_put_ne _ _ fun hc=>?_
  subst hc
  rcases hor with h|h
  ·exact h2.not hll hol h
  ·omega
 have stb2:∀(O2:Nat→Prop),Frm O' O2 (H1.put l (loopO f #[p] avs bd d .busy none gt)) H2→∀o g,g<H2.next→(O2 g∨g<H.next∨∃A,H2.get g=some (.arr A))→(H2.put l o).get g=H2.get g:=by
  intro O2 h2 o g hg hor
  refine GH.get_put_ne _ _ fun hc=>?_
  subst hc
  rcases hor with h|h|⟨A,h⟩
  ·exact h2.not hll hol h
  ·omega
  ·rw [(fin O2 h2).1] at h; cases h
 cases x with
 |normal=>
  obtain ⟨O2,h2,hJ3⟩:=hx
  obtain ⟨a1,a2,a3,a4,a5,a6,a7⟩:=fin O2 h2
  exact ⟨a1,_,(a7 _).1,.inl ⟨rfl,O2,fun g=>Iff.rfl,a3,a4,(a7 _).2,hJs _ _ _ _ hJ3 h2.lt (Nat.le_refl _) (stb O2 h2 _),GH.get_put_same _ _,by rw [GH.get_put_ne _ _ (Ne.symm hlm)]; exact a2,a5,a6⟩⟩
 |exit i=>
  obtain ⟨O2,h2,hS3⟩:=hx
  obtain ⟨a1,a2,a3,a4,a5,a6,a7⟩:=fin O2 h2
  exact ⟨a1,_,(a7 _).1,.inr ⟨rfl,O2,_,fun g=>Iff.rfl,a3,a4,(a7 _).2,hSs _ _ _ _ hS3 h2.lt (Nat.le_refl _) (stb2 O2 h2 _),.inr ⟨i,rfl⟩,GH.get_put_same _ _,by rw [GH.get_put_ne _ _ (Ne.symm hlm)]; exact a2,a5,a6⟩⟩
 |ret=>
  obtain ⟨O2,h2,hS3⟩:=hx
  obtain ⟨a1,a2,a3,a4,a5,a6,a7⟩:=fin O2 h2
  exact ⟨a1,_,(a7 _).1,.inr ⟨rfl,O2,_,fun g=>Iff.rfl,a3,a4,(a7 _).2,hSs _ _ _ _ hS3 h2.lt (Nat.le_refl _) (stb2 O2 h2 _),.inl rfl,GH.get_put_same _ _,by rw [GH.get_put_ne _ _ (Ne.symm hlm)]; exact a2,a5,a6⟩⟩
 |pan v=>exact hx.elim
end
end Go.Gm
end
section
namespace Go.Gm.Tryz
open Go.Proofs
def fromOf (now:List Int):Nat:=(now.getLast?.getD 0).toNat
def setsFrom (m:Nat):Nat→List Int→List (List Int)
 |0,now=> [now]
 |many+1,now=>(List.range' (fromOf now) (m - fromOf now)).flatMap fun (n:Nat)=>setsFrom m many (now++ [((n:Nat):Int)])
def allSets (m:Nat):List (List Int):=(List.range 7).flatMap fun k=>setsFrom m k []
def setR (H:GH) (v:Value) (s:List Int):Prop:=∃a fl,v=.slice a s.length fl∧Elems H a 1 encI s
structure SearchH (t:Tbl) (l t2 t3 t4:Nat) (ra:Option Addr) (rf:Nat) (H:GH) (O:Nat→Prop):Prop where
 g2:H.get t2=some (.arr { cells:= [.func (.yield l) #[] #[]],ty:=300 })
 g3:H.get t3=some (.arr { cells:= [.slice ra t.rows.length rf,vi t.draw],ty:=24 })
 g4:H.get t4=some (.arr { cells:= [.func (.func 250) #[] #[.pointer (some (ga t2 0 0)),.pointer (some (ga t3 0 0)),.pointer (some (ga t4 0 0))]],ty:=200 })
 n2:t2<H.next
 n3:t3<H.next
 n4:t4<H.next
 o2:¬O t2
 o3:¬O t3
 o4:¬O t4
theorem SearchH.frm {t:Tbl} {l t2 t3 t4:Nat} {ra:Option Addr} {rf:Nat} {H H':GH} {O O':Nat→Prop} (h:SearchH t l t2 t3 t4 ra rf H O) (f:Frm O O' H H'):SearchH t l t2 t3 t4 ra rf H' O':=
 ⟨by rw [f.keep _ h.n2 h.o2]; exact h.g2,by rw [f.keep _ h.n3 h.o3]; exact h.g3,by rw [f.keep _ h.n4 h.o4]; exact h.g4,
  Nat.lt_of_lt_of_le h.n2 f.next,Nat.lt_of_lt_of_le h.n3 f.next,Nat.lt_of_lt_of_le h.n4 f.next,f.not h.n2 h.o2,f.not h.n3 h.o3,f.not h.n4 h.o4⟩
theorem search_con (t:Tbl) (hrows:t.rows.length≤12) {l t2 t3 t4 N:Nat} {ra:Option Addr} {rf:Nat} {xs:List (List Int)} {Inv:Nat→GH→(Nat→Prop)→Prop} {Stop:GH→(Nat→Prop)→Prop}
  (hY:YieldOk Tryz.prog l xs setR Inv Stop) (hSt:Stable N Inv):∀(many:Nat),many≤6→∀(now:List Int),now.length+many≤6→(∀x∈now,0≤x∧x≤1000)→∀(k:Nat) (rest:List (List Int)),xs.drop k=setsFrom t.rows.length many now++rest→
  ∀(H:GH) (O:Nat→Prop) (a:Option Addr) (fl:Nat),Inv k H O→(∀g,O g→g<H.next)→SearchH t l t2 t3 t4 ra rf H O→N≤H.next→Elems H a 1 encI now→(∀b,a=some b→¬O b.block)→
  GCall Tryz.prog 250 [.slice a now.length fl,vi many,.pointer (some (ga t2 0 0)),.pointer (some (ga t3 0 0)),.pointer (some (ga t4 0 0))] H fun x H'=>∃O',Frm O O' H H'∧
   ((x=.ret (.bool true)∧Inv (k+(setsFrom t.rows.length many now).length) H' O')∨(x=.ret (.bool false)∧Stop H' O')):=by
 intro many
 induction many with
 |zero=>
  intro _ now _ _ k rest hx H O a fl hI hO hS hN hE ha
  have hk:k<xs.length:=by
   have:=congrArg List.length hx
   simp [setsFrom] at this
   omega
  have hxk:xs[k]=now:=by
   have h0:xs[k]?=some now:=by have:=congrArg (fun l=>l[0]?) hx; simpa [setsFrom] using this
   rw [List.getElem?_eq_getElem hk] at h0
   exact Option.some.inj h0
  refine gcall_wp tok mix fok250 (F:=g250) (c:=_) rfl (n:=42) rfl (rs:= [.tmp 7]) rfl ?_
  simp [hS.g2]
  refine (hY k hk H O _ hI ⟨a,fl,by rw [hxk],by rw [hxk]; exact hE⟩ (by cases a<;>simp; exact ha _ rfl)).mono ?_
  rintro x H' ⟨O',hf,⟨rfl,h⟩|⟨rfl,h⟩⟩
  ·simp [setsFrom]; exact ⟨O',hf,h⟩
  ·simp [setsFrom]; exact ⟨O',hf,h⟩
 |succ many ih=>
  intro hm now hlen hbd k rest hx H O a fl hI hO hS hN hE ha
  refine gcall_wp tok mix fok250 (F:=g250) (c:=_) rfl (n:=42) rfl (rs:= [.tmp 7]) rfl ?_
  have hne:¬((many:Int)+1=0):=by omega
  simp [hne]
  have hx0:∀x∈now.getLast?,0≤x∧x≤1000:=fun x hx=>hbd x (List.mem_of_getLast? hx)
  have hf0:fromOf now≤1000:=by
   unfold fromOf
   cases h:now.getLast? with
   |none=>simp
   |some x=>have:=hx0 x h; simp; omega
  refine wpB_dec (fun hlt=>?_) (fun hge=>?_)
  ·obtain ⟨b,hab,hb,hrd⟩:=hE.at (now.length - 1) (by omega)
   have e1:((now.length:Int) - 1).toNat=now.length - 1:=by omega
   have hx1:=hbd _ (List.getElem_mem (show now.length - 1<now.length by omega))
   have hf:(fromOf now:Int)=now[now.length - 1]:=by
    unfold fromOf
    rw [List.getLast?_eq_getElem?,List.getElem?_eq_getElem (by omega)]
    simp; omega
   simp (disch:=omega) [hab,hrd,e1,wrap64]
   refine wp_loop tok mix (by kernel_rfl) (fun j ρ m H1=>∃n:Nat,n≤1000∧j=t.rows.length - n∧ρ 0=.slice a now.length fl∧ρ 1=vi (many+1)∧ρ 2=.pointer (some (ga t2 0 0))∧ρ 3=.pointer (some (ga t3 0 0))∧ρ 4=.pointer (some (ga t4 0 0))∧ρ 9=vi n∧m= []∧
    ∃O1 k1,Frm O O1 H H1∧Inv k1 H1 O1∧xs.drop k1=((List.range' n (t.rows.length - n)).flatMap fun (n:Nat)=>setsFrom t.rows.length many (now++ [((n:Nat):Int)]))++rest∧
     k1+((List.range' n (t.rows.length - n)).flatMap fun (n:Nat)=>setsFrom t.rows.length many (now++ [((n:Nat):Int)])).length=k+(setsFrom t.rows.length (many+1) now).length)
    ⟨fromOf now,hf0,rfl,by simp [hab],by simp,by simp,by simp,by simp,by simp [hf],rfl,O,k,Frm.refl hO,hI,by simpa [setsFrom] using hx,by simp [setsFrom]⟩ ?_
   rintro j ρ m H1 ⟨n,hn,rfl,e0,e1,e2,e3,e4,e9,rfl,O1,k1,hfr,hI1,hx1,hc1⟩
   have hS1:=hS.frm hfr
   have hE1:=hE.frm hfr ha
   simp [e3,e9,hS1.g3]
   refine wpB_dec (fun hlt2=>?_) (fun hge2=>?_)
   ·simp (disch:=omega) [e0,e1,e4,e9,hS1.g4]
    refine (cloneI_con now (by omega) _ _ _ (hE1.push _)).mono ?_
    rintro x H2 ⟨v2,rfl,hs2,ho2⟩
    have hn2:=hs2.1
    simp only [GH.next_push] at hn2 ho2
    have hs12:Sub H1 H2:=(Sub.push (.refl H1) _).trans hs2
    have hg4:=(hs12.2 t4 hS1.n4).trans hS1.g4
    have hgx:=hs2.2 H1.next (by simp)
    rw [GH.get_push_same] at hgx
    have hlv:=ho2.len
    simp (disch:=omega) [e4,hg4,hgx,hlv]
    obtain ⟨v3,H3,happ,ho3,hn3,hf3,_⟩:=ho2.app (by simp) (by simp) (by decide) (n:Int) (by omega)
    simp only [encI] at happ
    have c8:8*(1+now.length)≤1000000:=by omega
    have c9:1+now.length≤1000000:=by omega
    have hs13:Sub H1 H3:=⟨by omega,fun g hg=>by rw [hf3 g (by omega) (fun hc=>by have:=ho2.blk_lt hc; omega)]; exact hs12.2 g hg⟩
    have hg4':=(hs13.2 t4 hS1.n4).trans hS1.g4
    simp (disch:=omega) [happ,c8,c9,e4,hg4',wrap64]
    obtain ⟨a3,fl3,rfl,hE3⟩:=ho3.elems (fun _=>rfl)
    have ha3:∀b,a3=some b→¬O1 b.block:=by
     rintro b rfl hc
     have h1:=hfr.lt _ hc
     by_cases hz:fl3=0
     ·rcases ho3 with ⟨h,_⟩|⟨g,ver,szs,pre,h0,_,_,h,_⟩
      ·simp at h
      ·simp at h; omega
     ·have:=ho3.blk_lt (g:=b.block) (by simp [hz])
      omega
    have hr:List.range' n (t.rows.length - n)=n::List.range' (n+1) (t.rows.length - (n+1)):=by
     rw [show t.rows.length - n=(t.rows.length - (n+1))+1 by omega,List.range'_succ]
    have hfr13:Frm O1 O1 H1 H3:=Frm.of_sub hfr.lt hs13
    have hrec:=ih (by omega) (now++ [(n:Int)]) (by simp; omega) (by
      intro x hx
      rcases List.mem_append.1 hx with h|h
      ·exact hbd x h
      ·simp at h; omega) k1 (((List.range' (n+1) (t.rows.length - (n+1))).flatMap fun (n:Nat)=>setsFrom t.rows.length many (now++ [((n:Nat):Int)]))++rest)
     (by rw [hx1,hr,List.flatMap_cons,List.append_assoc]) H3 O1 a3 fl3 (hSt k1 H1 H3 O1 hI1 hfr.lt hs13.1 fun g hg _=>hs13.2 g hg) hfr13.lt (hS1.frm hfr13) (by have:=hfr.next; have:=hs13.1; omega) hE3 ha3
    simp only [List.length_append,List.length_cons,List.length_nil] at hrec ⊢
    refine hrec.mono ?_
    rintro x H4 ⟨O4,hf4,⟨rfl,h⟩|⟨rfl,h⟩⟩
    ·simp (disch:=omega) [e0,e1,e2,e3,e4,e9,wrap64]
     refine ⟨t.rows.length - (n+1),by omega,n+1,by omega,rfl,by omega,O4,(hfr.trans hfr13).trans hf4,_,h,?_,?_⟩
     ·rw [←List.drop_drop,hx1,hr,List.flatMap_cons,List.append_assoc,List.drop_left]
     ·rw [hr,List.flatMap_cons,List.length_append] at hc1; simp only [List.length_flatMap] at hc1 ⊢; omega
    ·simp
     exact ⟨O4,(hfr.trans hfr13).trans hf4,h⟩
   ·have hz:t.rows.length - n=0:=by omega
    rw [hz] at hc1 hx1
    simp at hc1
    simp
    exact ⟨O1,hfr,by rw [←hc1]; exact hI1⟩
  ·have hf:fromOf now=0:=by
    have:now= []:=by simpa using hge
    subst this; rfl
   simp (disch:=omega)
   refine wp_loop tok mix (by kernel_rfl) (fun j ρ m H1=>∃n:Nat,n≤1000∧j=t.rows.length - n∧ρ 0=.slice a now.length fl∧ρ 1=vi (many+1)∧ρ 2=.pointer (some (ga t2 0 0))∧ρ 3=.pointer (some (ga t3 0 0))∧ρ 4=.pointer (some (ga t4 0 0))∧ρ 9=vi n∧m= []∧
    ∃O1 k1,Frm O O1 H H1∧Inv k1 H1 O1∧xs.drop k1=((List.range' n (t.rows.length - n)).flatMap fun (n:Nat)=>setsFrom t.rows.length many (now++ [((n:Nat):Int)]))++rest∧
     k1+((List.range' n (t.rows.length - n)).flatMap fun (n:Nat)=>setsFrom t.rows.length many (now++ [((n:Nat):Int)])).length=k+(setsFrom t.rows.length (many+1) now).length)
    ⟨fromOf now,hf0,rfl,by simp,by simp,by simp,by simp,by simp,by simp [hf],rfl,O,k,Frm.refl hO,hI,by simpa [setsFrom] using hx,by simp [setsFrom]⟩ ?_
   rintro j ρ m H1 ⟨n,hn,rfl,e0,e1,e2,e3,e4,e9,rfl,O1,k1,hfr,hI1,hx1,hc1⟩
   have hS1:=hS.frm hfr
   have hE1:=hE.frm hfr ha
   simp [e3,e9,hS1.g3]
   refine wpB_dec (fun hlt2=>?_) (fun hge2=>?_)
   ·simp (disch:=omega) [e0,e1,e4,e9,hS1.g4]
    refine (cloneI_con now (by omega) _ _ _ (hE1.push _)).mono ?_
    rintro x H2 ⟨v2,rfl,hs2,ho2⟩
    have hn2:=hs2.1
    simp only [GH.next_push] at hn2 ho2
    have hs12:Sub H1 H2:=(Sub.push (.refl H1) _).trans hs2
    have hg4:=(hs12.2 t4 hS1.n4).trans hS1.g4
    have hgx:=hs2.2 H1.next (by simp)
    rw [GH.get_push_same] at hgx
    have hlv:=ho2.len
    simp (disch:=omega) [e4,hg4,hgx,hlv]
    obtain ⟨v3,H3,happ,ho3,hn3,hf3,_⟩:=ho2.app (by simp) (by simp) (by decide) (n:Int) (by omega)
    simp only [encI] at happ
    have c8:8*(1+now.length)≤1000000:=by omega
    have c9:1+now.length≤1000000:=by omega
    have hs13:Sub H1 H3:=⟨by omega,fun g hg=>by rw [hf3 g (by omega) (fun hc=>by have:=ho2.blk_lt hc; omega)]; exact hs12.2 g hg⟩
    have hg4':=(hs13.2 t4 hS1.n4).trans hS1.g4
    simp (disch:=omega) [happ,c8,c9,e4,hg4',wrap64]
    obtain ⟨a3,fl3,rfl,hE3⟩:=ho3.elems (fun _=>rfl)
    have ha3:∀b,a3=some b→¬O1 b.block:=by
     rintro b rfl hc
     have h1:=hfr.lt _ hc
     by_cases hz:fl3=0
     ·rcases ho3 with ⟨h,_⟩|⟨g,ver,szs,pre,h0,_,_,h,_⟩
      ·simp at h
      ·simp at h; omega
     ·have:=ho3.blk_lt (g:=b.block) (by simp [hz])
      omega
    have hr:List.range' n (t.rows.length - n)=n::List.range' (n+1) (t.rows.length - (n+1)):=by
     rw [show t.rows.length - n=(t.rows.length - (n+1))+1 by omega,List.range'_succ]
    have hfr13:Frm O1 O1 H1 H3:=Frm.of_sub hfr.lt hs13
    have hrec:=ih (by omega) (now++ [(n:Int)]) (by simp; omega) (by
      intro x hx
      rcases List.mem_append.1 hx with h|h
      ·exact hbd x h
      ·simp at h; omega) k1 (((List.range' (n+1) (t.rows.length - (n+1))).flatMap fun (n:Nat)=>setsFrom t.rows.length many (now++ [((n:Nat):Int)]))++rest)
     (by rw [hx1,hr,List.flatMap_cons,List.append_assoc]) H3 O1 a3 fl3 (hSt k1 H1 H3 O1 hI1 hfr.lt hs13.1 fun g hg _=>hs13.2 g hg) hfr13.lt (hS1.frm hfr13) (by have:=hfr.next; have:=hs13.1; omega) hE3 ha3
    simp only [List.length_append,List.length_cons,List.length_nil] at hrec ⊢
    refine hrec.mono ?_
    rintro x H4 ⟨O4,hf4,⟨rfl,h⟩|⟨rfl,h⟩⟩
    ·simp (disch:=omega) [e0,e1,e2,e3,e4,e9,wrap64]
     refine ⟨t.rows.length - (n+1),by omega,n+1,by omega,rfl,by omega,O4,(hfr.trans hfr13).trans hf4,_,h,?_,?_⟩
     ·rw [←List.drop_drop,hx1,hr,List.flatMap_cons,List.append_assoc,List.drop_left]
     ·rw [hr,List.flatMap_cons,List.length_append] at hc1; simp only [List.length_flatMap] at hc1 ⊢; omega
    ·simp
     exact ⟨O4,(hfr.trans hfr13).trans hf4,h⟩
   ·have hz:t.rows.length - n=0:=by omega
    rw [hz] at hc1 hx1
    simp at hc1
    simp
    exact ⟨O1,hfr,by rw [←hc1]; exact hI1⟩
end Go.Gm.Tryz
end
section
namespace Go.Gm
noncomputable section
theorem stableS_of {N l mk:Nat} {O:Nat→Prop} {H:GH} {_om:GObj} {_lo:GH→GObj} (hN:H.next≤N) (hl:l<N) (hmk:mk<N) {S:GH→(Nat→Prop)→Prop} (hS:StableS H.next S) {Hk H':GH} {OL O':Nat→Prop}
  (hOL:∀g,OL g↔O' g∨g=l) (hfr:Frm O O' H Hk) (hJ:S Hk O') (hll:l<Hk.next) (hml:mk<Hk.next) (hn:Hk.next≤H'.next) (hsame:∀g,g<Hk.next→(OL g∨g<N)→H'.get g=Hk.get g):
  Frm O O' H H'∧S H' O'∧H'.get l=Hk.get l∧H'.get mk=Hk.get mk∧l<H'.next∧mk<H'.next:=
 ⟨⟨Nat.le_trans hfr.next hn,fun g hg ho=>by rw [hsame g (Nat.lt_of_lt_of_le hg hfr.next) (.inr (by omega))]; exact hfr.keep g hg ho,hfr.own,fun g hg=>Nat.lt_of_lt_of_le (hfr.lt g hg) hn⟩,
  hS Hk H' O' hJ hfr.lt hn fun g hg hor=>hsame g hg (hor.imp (fun h=>(hOL g).2 (.inl h)) (fun h=>by omega)),
  hsame l hll (.inr hl),hsame mk hml (.inr hmk),by omega,by omega⟩
theorem stableT_of {N l mk:Nat} {O:Nat→Prop} {H:GH} (hN:H.next≤N) (hl:l<N) (hmk:mk<N) {S:GH→(Nat→Prop)→Prop} (hS:StableT H.next S) {Hk H':GH} {OL O':Nat→Prop}
  (hOL:∀g,OL g↔O' g∨g=l) (hfr:Frm O O' H Hk) (hJ:S Hk O') (hll:l<Hk.next) (hml:mk<Hk.next) (hn:Hk.next≤H'.next) (hsame:∀g,g<Hk.next→(OL g∨g<N∨∃A,Hk.get g=some (.arr A))→H'.get g=Hk.get g):
  Frm O O' H H'∧S H' O'∧H'.get l=Hk.get l∧H'.get mk=Hk.get mk∧l<H'.next∧mk<H'.next:=
 ⟨⟨Nat.le_trans hfr.next hn,fun g hg ho=>by rw [hsame g (Nat.lt_of_lt_of_le hg hfr.next) (.inr (.inl (by omega)))]; exact hfr.keep g hg ho,hfr.own,fun g hg=>Nat.lt_of_lt_of_le (hfr.lt g hg) hn⟩,
  hS Hk H' O' hJ hfr.lt hn fun g hg hor=>hsame g hg (hor.imp (fun h=>(hOL g).2 (.inl h)) (fun h=>h.imp (fun h=>by omega) id)),
  hsame l hll (.inr (.inl hl)),hsame mk hml (.inr (.inl hmk)),by omega,by omega⟩
theorem wp_iterOut {X:Cx} (hT:TabOk X.P X.T) (hmix:X.P.follows .mixedOrders=true) (hro:X.ro=none) {g:Operand} {p:Tmp} {avs bd:Code} {Q:VQ} {ρ:Rho} {m:List Nat} {H:GH} (hx:xOk g=true) {gf:FuncId} {first captured:Array Value} (hg:rv X.n ρ g=.func (.func gf) first captured) (f:FuncId)
  (hb1:codeOk X.T X.plans avs=true) (hb2:codeOk X.T X.plans bd=true) {α:Type} {xs:List α} {argR:GH→Value→α→Prop} (hargR:∀H v x l o o',argR H v x→H.get l=some o→o.isArr=false→argR (H.put l o') v x) {Priv:Nat→Prop} (hit:Iter X.P gf first captured H xs argR Priv)
  (J:Nat→GH→(Nat→Prop)→Prop) (S:GX→GH→(Nat→Prop)→Prop) (hJs:Stable H.next J) (hSs:∀x,StableT H.next (S x)) (O:Nat→Prop) (hO:∀g,O g→g<H.next) (hOP:∀g,O g→¬Priv g) (hP:∀g,Priv g→g<H.next) (hJ0:J 0 H O)
  (q:Nat) (has:∀l Hk v,wpC ⟨X.P,X.T,X.plans,X.n,some l⟩ avs (fun x ρ1 m1 H1=>x=.normal∧m1= []∧H1=Hk∧ρ1=upd (upd ρ p v) q v) (upd ρ p v) [] Hk)
  (body:∀k (hk:k<xs.length) Hk Ok v l d gt,J k Hk Ok→Frm O Ok H Hk→argR Hk v xs[k]→(∀b,valBlk v=some b→¬Ok b)→H.next≤l→l<Hk.next→¬Ok l→Hk.get l=some (loopO f #[p] avs bd d .busy none gt)→wpC ⟨X.P,X.T,X.plans,X.n,some l⟩ bd (bodyQ Hk Ok (J (k+1)) S) (upd (upd ρ p v) q v) [] Hk)
  (hn:∀H' O' mk,Frm O O' H H'→H.next≤mk→mk<H'.next→¬O' mk→H'.get mk=some (.marks true)→J xs.length H' O'→Q .normal ρ (mk::m) H')
  (hs:∀x H' O' mk,Frm O O' H H'→H.next≤mk→mk<H'.next→¬O' mk→H'.get mk=some (.marks true)→S x H' O'→(x=.ret∨∃i,x=.exit i)→Q x ρ (mk::m) H'):wpC X (.rangeFunc g #[p] avs bd) Q ρ m H:=by
 refine wp_rangeOut hro hx hg f fun gt hgt=>?_
 have hHn:((H.push (.marks true)).push (loopO f #[p] avs bd H.next .ready none gt)).next=H.next+2:=by simp
 have hsub:Sub H ((H.push (.marks true)).push (loopO f #[p] avs bd H.next .ready none gt)):=((Sub.refl H).push _).push _
 have hgl:((H.push (.marks true)).push (loopO f #[p] avs bd H.next .ready none gt)).get (H.next+1)=some (loopO f #[p] avs bd H.next .ready none gt):=by simp
 have hgm:((H.push (.marks true)).push (loopO f #[p] avs bd H.next .ready none gt)).get H.next=some (.marks true):=by simp
 generalize (H.push (.marks true)).push (loopO f #[p] avs bd H.next .ready none gt)=Hc at hHn hsub hgl hgm ⊢
 have hOl:¬O (H.next+1):=fun hc=>by have:=hO _ hc; omega
 have hOm:¬O H.next:=fun hc=>by have:=hO _ hc; omega
 have hY:=iter_yield hT hmix (plans:=X.plans) (n:=X.n) (l:=H.next+1) (mk:=H.next) (d:=H.next) (f:=f) (gt:=gt) hgt hb1 hb2 (fun H v x o o' a b c=>hargR H v x _ o o' a b c) (xs:=xs) (J:=J) (S:=S) (O:=O) (H:=H) hJs hSs (by omega) (by omega) (by omega) (om:=.marks true) (fun v=>upd (upd ρ p v) q v) (has (H.next+1))
  (fun k hk Hk Ok v h1 h2 h3 h3' h4 h5 h6=>body k hk Hk Ok v (H.next+1) H.next gt h1 h2 h3 h3' (by omega) h4 h5 h6)
 have hfr0:Frm O O H Hc:=Frm.of_sub hO hsub
 refine (hit (H.next+1) Hc _ _ (fun g=>O g∨g=H.next+1) hsub hY ?_ ?_ ?_ ?_ ?_).mono ?_
 ·rintro k Hk H' OL ⟨O',h1,h2,h3,h4,h5,h6,h7,h8,h9⟩ _ hn hsame
  obtain ⟨b1,b2,b3,b4,b5,b6⟩:=stableS_of (_om:=.marks true) (_lo:=fun _=>.marks true) (l:=H.next+1) (mk:=H.next) hsub.1 (by omega) (by omega) (hJs k) h1 h4 h5 h8 h9 hn hsame
  exact ⟨O',h1,h2,h3,b1,b2,by rw [b3]; exact h6,by rw [b4]; exact h7,b5,b6⟩
 ·rintro Hk H' OL ⟨O',x,h1,h2,h3,h4,h5,h5',h6,h7,h8,h9⟩ _ hn hsame
  obtain ⟨b1,b2,b3,b4,b5,b6⟩:=stableT_of (l:=H.next+1) (mk:=H.next) hsub.1 (by omega) (by omega) (hSs x) h1 h4 h5 h8 h9 hn hsame
  exact ⟨O',x,h1,h2,h3,b1,b2,h5',by rw [b3]; exact h6,by rw [b4]; exact h7,b5,b6⟩
 ·exact ⟨O,fun g=>Iff.rfl,hOl,hOm,hfr0,hJs 0 H Hc O hJ0 hO hsub.1 fun g hg _=>hsub.2 g hg,hgl,hgm,by omega,by omega⟩
 ·rintro g (h|h)
  ·exact Nat.lt_of_lt_of_le (hO g h) hsub.1
  ·omega
 ·rintro g (h|h)
  ·exact hOP g h
  ·intro hp; have:=hP g hp; omega
 rintro x H2 ⟨OL,v,rfl,hfL,h|h⟩
 ·obtain ⟨O',h1,h2,h3,h4,h5,h6,h7,h8,h9⟩:=h
  refine ⟨v,.ready,none,gt,rfl,h6,by simp,?_⟩
  have hne:H.next≠H.next+1:=by omega
  refine hn _ O' H.next ⟨h4.next,fun g hg ho=>by rw [GH.get_put_ne _ _ (by omega)]; exact h4.keep g hg ho,h4.own,h4.lt⟩ (Nat.le_refl _) h9 h3 (by rw [GH.get_put_ne _ _ hne]; exact h7) (hJs _ _ _ _ h5 h4.lt (Nat.le_refl _) fun g hg hor=>GH.get_put_ne _ _ fun hc=>?_)
  subst hc
  rcases hor with h|h
  ·exact h2 h
  ·omega
 ·obtain ⟨O',x,h1,h2,h3,h4,h5,h5',h6,h7,h8,h9⟩:=h
  refine ⟨v,.done,codeOf x,gt,rfl,h6,by simp,?_⟩
  have hne:H.next≠H.next+1:=by omega
  have hq:=hs x (H2.put (H.next+1) (loopO f #[p] avs bd H.next .exhausted (codeOf x) gt)) O' H.next ⟨h4.next,fun g hg ho=>by rw [GH.get_put_ne _ _ (by omega)]; exact h4.keep g hg ho,h4.own,h4.lt⟩ (Nat.le_refl _) h9 h3 (by rw [GH.get_put_ne _ _ hne]; exact h7) (hSs _ _ _ _ h5 h4.lt (Nat.le_refl _) fun g hg hor=>GH.get_put_ne _ _ fun hc=>by
   subst hc
   rcases hor with h|h|⟨A,h⟩
   ·exact h2 h
   ·omega
   ·rw [h6] at h; cases h) h5'
  rcases h5' with rfl|⟨i,rfl⟩
  ·exact hq
  ·exact hq
end
end Go.Gm
end
section
namespace Go.Gm.Tryz
open Go.Proofs
theorem setsFrom_mem {m:Nat}:∀ {many:Nat} {now s:List Int},s∈setsFrom m many now→∃ext,s=now++ext∧ext.length=many∧∀x∈ext,0≤x∧x<m:=by
 intro many
 induction many with
 |zero=>intro now s h; simp [setsFrom] at h; exact ⟨[],by simp [h],rfl,by simp⟩
 |succ many ih=>
  intro now s h
  simp only [setsFrom,List.mem_flatMap] at h
  obtain ⟨n,hn,h⟩:=h
  obtain ⟨ext,rfl,h1,h2⟩:=ih h
  have hn':=List.mem_range'_1.1 hn
  refine ⟨(n:Int)::ext,by simp,by simp [h1],fun x hx=>?_⟩
  rcases List.mem_cons.1 hx with rfl|hx
  ·omega
  ·exact h2 x hx
theorem allSets_mem {m:Nat} {s:List Int} (h:s∈allSets m):s.length≤6∧∀x∈s,0≤x∧x<m:=by
 simp only [allSets,List.mem_flatMap,List.mem_range] at h
 obtain ⟨k,hk,h⟩:=h
 obtain ⟨ext,rfl,h1,h2⟩:=setsFrom_mem h
 exact ⟨by omega,h2⟩
def pre (m i:Nat):Nat:=((List.range i).flatMap fun k=>setsFrom m k []).length
theorem pre_succ (m i:Nat):pre m (i+1)=pre m i+(setsFrom m i []).length:=by
 unfold pre
 rw [List.range_succ,List.flatMap_append,List.length_append]; simp
theorem setsIter_con (t:Tbl) (hrows:t.rows.length≤12) {l g1 N:Nat} {ra:Option Addr} {rf:Nat} {Inv:Nat→GH→(Nat→Prop)→Prop} {Stop:GH→(Nat→Prop)→Prop}
  (hY:YieldOk Tryz.prog l (allSets t.rows.length) setR Inv Stop) (hSt:Stable N Inv) (H:GH) (O:Nat→Prop) (hI:Inv 0 H O) (hO:∀g,O g→g<H.next) (hN:N≤H.next)
  (hg1:H.get g1=some (.arr { cells:= [.slice ra t.rows.length rf,vi t.draw],ty:=24 })) (hn1:g1<H.next) (ho1:¬O g1):
  GCall Tryz.prog 249 [.func (.yield l) #[] #[],.pointer (some (ga g1 0 0))] H fun x H'=>∃O',x=.ret (.tuple #[])∧Frm O O' H H'∧(Inv (allSets t.rows.length).length H' O'∨Stop H' O'):=by
 refine gcall_wp tok mix fok249 (F:=g249) (c:=_) rfl (n:=14) rfl (rs:= []) rfl ?_
 simp
 generalize hH1:GH.put _ _ _=H1
 have hs1:Sub H H1:=by subst hH1; simp (maxDischargeDepth:=9)
 have hS1:SearchH t l H.next g1 (H.next+1) ra rf H1 O:=by
  subst hH1
  refine ⟨by simp,?_,by simp,by simp<;>omega,by simp<;>omega,by simp,fun hc=>?_,ho1,fun hc=>?_⟩
  ·rw [GH.get_put_ne _ _ (by omega),GH.get_push_lt _ _ (by simp; omega),GH.get_push_lt _ _ hn1]; exact hg1
  ·have:=hO _ hc; omega
  ·have:=hO _ hc; omega
 have hI1:Inv 0 H1 O:=hSt 0 H H1 O hI hO hs1.1 fun g hg _=>hs1.2 g hg
 have hO1:∀g,O g→g<H1.next:=fun g hg=>Nat.lt_of_lt_of_le (hO g hg) hs1.1
 clear hH1
 refine wp_up tok mix (by kernel_rfl) 7 (fun i ρ m H2=>ρ 3=.pointer (some (ga (H.next+1) 0 0))∧ρ 6=vi i∧m= []∧∃O2,Frm O O2 H1 H2∧Inv (pre t.rows.length i) H2 O2) (i0:=0) (by omega) ⟨by simp,by simp,rfl,O,Frm.refl hO1,hI1⟩ ?_
 rintro i ρ m H2 hi ⟨e3,e6,rfl,O2,hf2,hI2⟩
 have hS2:=hS1.frm hf2
 simp [e6]
 refine wpB_dec (fun hlt=>?_) (fun hge=>?_)
 ·simp (disch:=omega) [e3,e6,hS2.g4]
  have hd:(allSets t.rows.length).drop (pre t.rows.length i)=setsFrom t.rows.length i []++((List.range' (i+1) (7 - (i+1))).flatMap fun k=>setsFrom t.rows.length k []):=by
   have e:List.range 7=List.range i++(i::List.range' (i+1) (7 - (i+1))):=by
    rw [←List.range'_succ,List.range_eq_range',List.range_eq_range',show 7 - (i+1)+1=7 - i by omega]
    have:=List.range'_append_1 (s:=0) (m:=i) (n:=7 - i)
    rw [Nat.zero_add] at this
    rw [this]; congr 1; omega
   unfold allSets pre
   rw [e,List.flatMap_append,List.flatMap_cons,List.drop_left]
  have:=search_con t hrows hY hSt i (by omega) [] (by simp; omega) (by simp) _ _ hd H2 O2 none 0 hI2 hf2.lt hS2 (by have:=hf2.next; have:=hs1.1; omega) ⟨fun _=>rfl,fun b hb=>(by cases hb),fun _=>rfl⟩ (fun b hb=>(by cases hb))
  refine this.mono ?_
  rintro x H3 ⟨O3,hf3,⟨rfl,h⟩|⟨rfl,h⟩⟩
  ·simp (disch:=omega) [e3,e6,wrap64]
   refine ⟨by omega,O3,hf2.trans hf3,?_⟩
   rw [pre_succ]; exact h
  ·simp
   exact ⟨O3,Frm.sub hs1 (hf2.trans hf3),.inr h⟩
 ·have:i=7:=by omega
  subst this
  simp
  exact ⟨O2,Frm.sub hs1 hf2,.inl hI2⟩
def alikeSets (t:Tbl) (s:Int) (u:Int):List (List Int):=(allSets t.rows.length).filter fun x=>decide (countsI t s x=u)
def matched (t:Tbl) (s u:Int) (k:Nat):Nat:=(((allSets t.rows.length).take k).filter fun x=>decide (countsI t s x=u)).length
theorem matched_succ (t:Tbl) (s u:Int) {k:Nat} (hk:k<(allSets t.rows.length).length):matched t s u (k+1)=matched t s u k+(if countsI t s (allSets t.rows.length)[k]=u then 1 else 0):=by
 unfold matched
 rw [List.take_succ_eq_append_getElem hk,List.filter_append,List.length_append]
 by_cases h:countsI t s (allSets t.rows.length)[k]=u<;>simp [h]
theorem matched_all (t:Tbl) (s u:Int):matched t s u (allSets t.rows.length).length=(alikeSets t s u).length:=by
 unfold matched alikeSets; rw [List.take_length]
theorem matched_at (t:Tbl) (s u:Int) {k:Nat} (hk:k<(allSets t.rows.length).length) (h:countsI t s (allSets t.rows.length)[k]=u):∃h:matched t s u k<(alikeSets t s u).length,(alikeSets t s u)[matched t s u k]=(allSets t.rows.length)[k]:=by
 have e:alikeSets t s u=(((allSets t.rows.length).take k).filter fun x=>decide (countsI t s x=u))++(allSets t.rows.length)[k]::((allSets t.rows.length).drop (k+1)).filter fun x=>decide (countsI t s x=u):=by
  unfold alikeSets
  conv=>lhs; rw [←List.take_append_drop k (allSets t.rows.length),List.filter_append,List.drop_eq_getElem_cons hk,List.filter_cons]
  simp [h]
 have hl:matched t s u k<(alikeSets t s u).length:=by rw [e]; simp [matched]
 refine ⟨hl,?_⟩
 have:(alikeSets t s u)[matched t s u k]?=some (allSets t.rows.length)[k]:=by
  rw [e,List.getElem?_append_right (by simp [matched])]
  simp [matched]
 rw [List.getElem?_eq_getElem hl] at this
 exact Option.some.inj this
theorem sets_con (l:TLoc) (t:Tbl) (H:GH):C 234 [tblV l t] H (.func (.func 249) #[] #[.pointer (some (ga H.next 0 0))]) (H.push (.arr { cells:= [.slice l.rows.a t.rows.length l.rows.fl,vi t.draw],ty:=24 })):=by
 refine gcall_wp tok mix fok234 (F:=g234) (c:=_) rfl (n:=4) rfl (rs:= [.tmp 2]) rfl ?_
 simp
theorem setR_put {H:GH} {v:Value} {x:List Int} {l:Nat} {o o':GObj} (h:setR H v x) (hl:H.get l=some o) (ho:o.isArr=false):setR (H.put l o') v x:=by
 obtain ⟨a,fl,rfl,h⟩:=h
 exact ⟨a,fl,rfl,h.put_loop hl ho o'⟩
theorem sets_iter (t:Tbl) (hrows:t.rows.length≤12) {g1:Nat} {ra:Option Addr} {rf:Nat} {H:GH} (hg1:H.get g1=some (.arr { cells:= [.slice ra t.rows.length rf,vi t.draw],ty:=24 })) (hn1:g1<H.next):
  Iter Tryz.prog 249 #[] #[.pointer (some (ga g1 0 0))] H (allSets t.rows.length) setR (fun g=>g=g1):=by
 intro l Hc Inv Stop O hs hY hSt hSt2 hI hO hP
 refine (setsIter_con t hrows (N:=Hc.next) hY hSt Hc O hI hO (Nat.le_refl _) (by rw [hs.2 _ hn1]; exact hg1) (Nat.lt_of_lt_of_le hn1 hs.1) (fun hc=>hP _ hc rfl)).mono ?_
 rintro x H' ⟨O',rfl,h1,h2⟩
 exact ⟨O',_,rfl,h1,h2⟩
theorem alike_iter (t:Tbl) (ht:isTableB t=true) (sys u:Int) (hsys:isSystemI sys=true) {g1 g2 g3:Nat} {ra:Option Addr} {rf:Nat} {H:GH}
  (hg1:H.get g1=some (.arr { cells:= [.slice ra t.rows.length rf,vi t.draw],ty:=24 })) (hn1:g1<H.next)
  (hg2:H.get g2=some (.arr { cells:= [vi sys],ty:=52 })) (hn2:g2<H.next)
  (hg3:H.get g3=some (.arr { cells:= [vi u],ty:=3 })) (hn3:g3<H.next) (hT:TblIn H ⟨⟨ra,rf⟩⟩ t):
  Iter Tryz.prog 233 #[] #[.pointer (some (ga g1 0 0)),.pointer (some (ga g2 0 0)),.pointer (some (ga g3 0 0))] H (alikeSets t sys u) setR (fun g=>g=g1∨g=g2∨g=g3∨∃b,ra=some b∧g=b.block):=by
 intro l Hc Inv Stop O hs hY hSt hSt2 hI hO hP
 have hrows:=table_rows ht
 have hg1:=(hs.2 _ hn1).trans hg1
 have hg2:=(hs.2 _ hn2).trans hg2
 have hg3:=(hs.2 _ hn3).trans hg3
 have hn1:=Nat.lt_of_lt_of_le hn1 hs.1
 have hn2:=Nat.lt_of_lt_of_le hn2 hs.1
 have hn3:=Nat.lt_of_lt_of_le hn3 hs.1
 have ho1:¬O g1:=fun hc=>hP _ hc (.inl rfl)
 have ho2:¬O g2:=fun hc=>hP _ hc (.inr (.inl rfl))
 have ho3:¬O g3:=fun hc=>hP _ hc (.inr (.inr (.inl rfl)))
 have hT:TblIn Hc ⟨⟨ra,rf⟩⟩ t:=hT.mono hs
 have hoT:∀b,ra=some b→¬O b.block:=fun b hb hc=>hP _ hc (.inr (.inr (.inr ⟨b,hb,rfl⟩)))
 refine gcall_wp tok mix fok233 (F:=g233) (c:=_) rfl (n:=21) rfl (rs:= []) rfl ?_
 simp (disch:=omega) [hg1]
 with_reducible refine (sets_con ⟨⟨_,_⟩⟩ t _).go ?_
 simp
 generalize hHb:GH.push _ _=Hb
 have hsb:Sub Hc Hb:=by subst hHb; simp (maxDischargeDepth:=9)
 have hgb:Hb.get Hc.next=some (.arr { cells:= [.func (.yield l) #[] #[]],ty:=300 }):=by subst hHb; simp
 have hgt2:Hb.get (Hc.next+1)=some (.arr { cells:= [.slice ra t.rows.length rf,vi t.draw],ty:=24 }):=by subst hHb; simp
 have hnb:Hb.next=Hc.next+2:=by subst hHb; simp
 clear hHb
 have hOb:∀g,O g→g<Hb.next:=fun g hg=>Nat.lt_of_lt_of_le (hO g hg) hsb.1
 have hfrb:Frm O O Hc Hb:=Frm.of_sub hO hsb
 refine wp_iterOut tok mix rfl rfl (gf:=249) (first:= #[]) (captured:= #[.pointer (some (ga (Hc.next+1) 0 0))]) (by simp) 233 (by kernel_rfl) (by kernel_rfl) (fun H v x l o o' a b c=>setR_put a b c) (sets_iter t hrows.1 hgt2 (by omega))
  (fun k Hk O'=>Inv (matched t sys u k) Hk O') (fun x Hk O'=>x=.ret∧Stop Hk O')
  (fun k H1 H2 O' h1 h2 h3 h4=>hSt _ H1 H2 O' h1 h2 h3 fun g hg hor=>h4 g hg (hor.imp id fun h=>by omega))
  (fun x H1 H2 O' h1 h2 h3 h4=>⟨h1.1,hSt2 H1 H2 O' h1.2 h2 h3 fun g hg hor=>h4 g hg (hor.imp id fun h=>h.imp (fun h=>by omega) id)⟩)
  O hOb (fun g hg hc=>by subst hc; have:=hO _ hg; omega) (fun g hg=>by subst hg; omega) (hSt _ Hc Hb O hI hO hsb.1 fun g hg _=>hsb.2 g hg)
  5 (fun l Hk v=>by simp) ?_ ?_ ?_
 ·intro k hk Hk Ok v l1 d gt hJ hfr hv hvb hl1 hl2 hol hgl
  have hfrc:=hfrb.trans hfr
  obtain ⟨a,fl,rfl,hE⟩:=hv
  have e1:=(hfrc.keep g1 hn1 ho1).trans hg1
  have e2:=(hfrc.keep g2 hn2 ho2).trans hg2
  have e3:=(hfrc.keep g3 hn3 ho3).trans hg3
  have e4:Hk.get Hc.next=some (.arr { cells:= [.func (.yield l) #[] #[]],ty:=300 }):=(hfr.keep Hc.next (by omega) (fun hc=>by have:=hO _ hc; omega)).trans hgb
  have hTk:TblIn Hk ⟨⟨ra,rf⟩⟩ t:=Elems.frm hT hfrc hoT
  have hmem:SetOk t ((allSets t.rows.length)[k]):=allSets_mem (List.getElem_mem hk)
  simp [e1,e2,e3]
  with_reducible refine (counts_con ⟨⟨_,_⟩⟩ t ht sys hsys ((allSets t.rows.length)[k]) hmem a fl Hk hTk hE).go ?_
  simp [e3]
  refine planG_bool (fun h=>?_) (fun h=>?_)<;>(try simp only [decide_eq_true_eq,decide_eq_false_iff_not] at h)
  ·simp [e4,h]
   obtain ⟨hm1,hm2⟩:=matched_at t sys u hk h
   refine (hY _ hm1 Hk Ok _ hJ ⟨a,fl,by rw [hm2],by rw [hm2]; exact hE⟩ hvb).mono ?_
   rintro x H2 ⟨O2,hf2,⟨rfl,h2⟩|⟨rfl,h2⟩⟩
   ·simp
    exact ⟨O2,hf2,by rw [matched_succ t sys u hk,if_pos h]; exact h2⟩
   ·simp
    exact ⟨O2,hf2,h2⟩
  ·simp [h]
   exact ⟨Ok,Frm.refl hfr.lt,by rw [matched_succ t sys u hk,if_neg h]; exact hJ⟩
 ·intro H' O' mk hf hmk1 hmk2 hom hgm hJ
  simp [hgm]
  have hsame:∀o g,g<H'.next→(O' g∨g<Hc.next)→(H'.put mk o).get g=H'.get g:=fun o g hg hor=>GH.get_put_ne _ _ fun hc=>by
   subst hc
   exact hor.elim hom (by omega)
  exact ⟨O',(hfrb.trans hf).put_new (by omega) _,.inl (by rw [←matched_all]; exact hSt _ H' _ O' hJ hf.lt (Nat.le_refl _) (hsame _))⟩
 ·rintro x H' O' mk hf hmk1 hmk2 hom hgm ⟨rfl,hS⟩ _
  simp [hgm]
  have hsame:∀o g,g<H'.next→(O' g∨g<Hc.next∨∃A,H'.get g=some (.arr A))→(H'.put mk o).get g=H'.get g:=fun o g hg hor=>GH.get_put_ne _ _ fun hc=>by
   subst hc
   rcases hor with h|h|⟨A,h⟩
   ·exact hom h
   ·omega
   ·rw [hgm] at h; cases h
  exact ⟨O',(hfrb.trans hf).put_new (by omega) _,.inr (hSt2 H' _ O' hS hf.lt (Nat.le_refl _) (hsame _))⟩
end Go.Gm.Tryz
end
section
namespace Go.Gm.Tryz
open Go.Proofs
theorem alike_con (l:TLoc) (t:Tbl) (sys u:Int) (H:GH):C 201 [tblV l t,vi sys,vi u] H (.func (.func 233) #[] #[.pointer (some (ga H.next 0 0)),.pointer (some (ga (H.next+1) 0 0)),.pointer (some (ga (H.next+2) 0 0))])
  (((H.push (.arr { cells:= [.slice l.rows.a t.rows.length l.rows.fl,vi t.draw],ty:=24 })).push (.arr { cells:= [vi sys],ty:=52 })).push (.arr { cells:= [vi u],ty:=3 })):=by
 refine gcall_wp tok mix fok201 (F:=g201) (c:=_) rfl (n:=8) rfl (rs:= [.tmp 6]) rfl ?_
 simp
def firstSet (t:Tbl) (sys u:Int):Option (List Int):=(alikeSets t sys u).head?
def setArgs (t:Tbl) (sys u:Int):Bool:=isTableB t&&isSystemI sys&&nisUnitsI u
theorem Set_con (l:TLoc) (t:Tbl) (sys u:Int) (H:GH) (hT:TblIn H l t):GCall Tryz.prog 149 [tblV l t,vi sys,vi u] H fun x H'=>Sub H H'∧
  ∃v e,x=.ret (.tuple #[v,vi e])∧(if setArgs t sys u then (match firstSet t sys u with|some s=>e=0∧setR H' v s|none=>e=5∧v=.slice none 0 0) else e=2∧v=.slice none 0 0):=by
 rcases l with ⟨⟨ra,rf⟩⟩
 refine gcall_wp tok mix fok149 (F:=g149) (c:=_) rfl (n:=28) rfl (rs:= [.cell 6 25,.cell 7 45]) rfl ?_
 simp
 generalize hHb:GH.push (GH.push (GH.push H _) _) _=Hb
 have hsb:Sub H Hb:=by subst hHb; simp (maxDischargeDepth:=9)
 have hgb:Hb.get H.next=some (.arr { cells:= [.slice ra t.rows.length rf,vi t.draw],ty:=24 }):=by subst hHb; simp (disch:=omega)
 have hg6:Hb.get (H.next+1)=some (.arr { cells:= [.slice none 0 0],ty:=25 }):=by subst hHb; simp (disch:=omega)
 have hg7:Hb.get (H.next+2)=some (.arr { cells:= [vi 0],ty:=45 }):=by subst hHb; simp (disch:=omega)
 have hnb:Hb.next=H.next+3:=by subst hHb; simp (disch:=omega)
 clear hHb
 with_reducible refine (isTable_con ⟨⟨_,_⟩⟩ t _ (hT.mono hsb)).go ?_
 simp
 cases htb:isTableB t
 ·simp [hg6,hg7,setArgs,htb,hsb]
  exact ⟨_,_,⟨rfl,rfl⟩,rfl,rfl⟩
 simp
 with_reducible refine (nisSystem_con _ _).go ?_
 simp
 cases hsys:isSystemI sys
 ·simp [hg6,hg7,setArgs,htb,hsys,hsb]
  exact ⟨_,_,⟨rfl,rfl⟩,rfl,rfl⟩
 simp
 with_reducible refine (nisUnits_con _ _).go ?_
 simp
 cases hun:nisUnitsI u
 ·simp [hg6,hg7,setArgs,htb,hsys,hun,hsb]
  exact ⟨_,_,⟨rfl,rfl⟩,rfl,rfl⟩
 simp [hgb]
 with_reducible refine (alike_con ⟨⟨_,_⟩⟩ t _ _ _).go ?_
 simp only [opsK_ret,wpOps_nil,seqQ_normal,putd_some]
 generalize hHd:GH.push (GH.push (GH.push Hb _) _) _=Hd
 have hsd:Sub Hb Hd:=by subst hHd; simp (maxDischargeDepth:=9)
 have hd1:Hd.get Hb.next=some (.arr { cells:= [.slice ra t.rows.length rf,vi t.draw],ty:=24 }):=by subst hHd; simp (disch:=omega)
 have hd2:Hd.get (Hb.next+1)=some (.arr { cells:= [vi sys],ty:=52 }):=by subst hHd; simp (disch:=omega)
 have hd3:Hd.get (Hb.next+2)=some (.arr { cells:= [vi u],ty:=3 }):=by subst hHd; simp (disch:=omega)
 have hnd:Hd.next=Hb.next+3:=by subst hHd; simp
 clear hHd
 have hg6:=(hsd.2 _ (by omega)).trans hg6
 have hg7:=(hsd.2 _ (by omega)).trans hg7
 have hTd:TblIn Hd ⟨⟨ra,rf⟩⟩ t:=hT.mono (hsb.trans hsd)
 have hra:∀b,ra=some b→b.block<H.next:=fun b hb=>(Elems.ok hT b hb).1
 refine wp_iterOut tok mix rfl rfl (gf:=233) (first:= #[]) (captured:= #[.pointer (some (ga Hb.next 0 0)),.pointer (some (ga (Hb.next+1) 0 0)),.pointer (some (ga (Hb.next+2) 0 0))]) (by simp) 149 (by kernel_rfl) (by kernel_rfl) (fun H v x l o o' a b c=>setR_put a b c)
  (alike_iter t htb sys u hsys hd1 (by omega) hd2 (by omega) hd3 (by omega) hTd)
  (fun k Hk Ok=>k=0∧(∀g,Ok g↔g=H.next+1∨g=H.next+2)∧Hk.get (H.next+1)=some (.arr { cells:= [.slice none 0 0],ty:=25 })∧Hk.get (H.next+2)=some (.arr { cells:= [vi 0],ty:=45 }))
  (fun x Hk Ok=>x=.ret∧(∀g,Ok g↔g=H.next+1∨g=H.next+2)∧∃v s,firstSet t sys u=some s∧Hk.get (H.next+1)=some (.arr { cells:= [v],ty:=25 })∧Hk.get (H.next+2)=some (.arr { cells:= [vi 0],ty:=45 })∧setR Hk v s)
  ?_ ?_ (fun g=>g=H.next+1∨g=H.next+2) ?_ ?_ ?_ ⟨rfl,fun g=>Iff.rfl,hg6,hg7⟩ 8 ?_ ?_ ?_ ?_
 ·rintro k H1 H2 Ok ⟨h1,h2,h3,h4⟩ h5 h6 h7
  have hlt:∀g,Ok g→H2.get g=H1.get g:=fun g hg=>h7 g (h5 g hg) (.inl hg)
  exact ⟨h1,h2,(hlt _ ((h2 _).2 (.inl rfl))).trans h3,(hlt _ ((h2 _).2 (.inr rfl))).trans h4⟩
 ·rintro x H1 H2 Ok ⟨h1,h2,v,s,h3,h4,h4',h4''⟩ h5 h6 h7
  have hlt:∀g,Ok g→H2.get g=H1.get g:=fun g hg=>h7 g (h5 g hg) (.inl hg)
  obtain ⟨a,fl,rfl,hE⟩:=h4''
  exact ⟨h1,h2,_,s,h3,(hlt _ ((h2 _).2 (.inl rfl))).trans h4,(hlt _ ((h2 _).2 (.inr rfl))).trans h4',a,fl,rfl,hE.same h6 fun g A hg hA=>h7 g hg (.inr (.inr ⟨A,hA⟩))⟩
 ·rintro g (rfl|rfl)<;>omega
 ·rintro g (rfl|rfl) (h|h|h|⟨b,hb,h⟩)
  all_goals first|omega|(have:=hra b hb; omega)
 ·rintro g (h|h|h|⟨b,hb,h⟩)
  all_goals first|omega|(have:=hra b hb; omega)
 ·intro l Hk v; simp
 ·rintro k hk Hk Ok v l d gt ⟨rfl,h2,h3,h4⟩ hfr hv hvb hl1 hl2 hol hgl
  have hfst:firstSet t sys u=some (alikeSets t sys u)[0]:=by
   unfold firstSet
   rw [List.head?_eq_getElem?,List.getElem?_eq_getElem hk]
  obtain ⟨a,fl,rfl,hE⟩:=hv
  have h6:Hd.next≤Hk.next:=hfr.next
  simp [h3,h4]
  refine ⟨Ok,(Frm.put hfr.lt ((h2 _).2 (.inl rfl)) _).trans (Frm.put (H:=Hk.put (H.next+1) _) hfr.lt ((h2 _).2 (.inr rfl)) _),h2,_,_,hfst,by simp (disch:=omega),a,fl,rfl,?_⟩
  refine (hE.put _ fun b hb hc=>?_).put _ fun b hb hc=>?_
  ·exact hvb b.block (by simp [hb]) ((h2 _).2 (.inl hc))
  ·exact hvb b.block (by simp [hb]) ((h2 _).2 (.inr hc))
 ·rintro H' O' mk hf hmk1 hmk2 hom hgm ⟨h1,h2,h3,h4⟩
  have hmk:H.next+6≤mk:=by omega
  have hfst:firstSet t sys u=none:=by
   unfold firstSet
   rw [List.length_eq_zero_iff.1 h1]; rfl
  have hsub:Sub H H':=⟨by have:=hf.next; omega,fun g hg=>(hf.keep g (by omega) (by rintro (h|h)<;>omega)).trans ((hsb.trans hsd).2 g hg)⟩
  simp (disch:=omega) [hgm,h3,h4]
  have hsub3:∀o1 o2 o3,Sub H (((H'.put (H.next+1) o1).put (H.next+2) o2).put mk o3):=fun o1 o2 o3=>Sub.put (Sub.put (Sub.put hsub (by omega) o1) (by omega) o2) (by omega) o3
  refine ⟨hsub3 _ _ _,_,_,⟨rfl,rfl⟩,?_⟩
  simp [setArgs,htb,hsys,hun,hfst]
 ·rintro x H' O' mk hf hmk1 hmk2 hom hgm ⟨rfl,h2,v,s,h3,h4,h5,h6⟩ _
  have hmk:H.next+6≤mk:=by omega
  have hsub:Sub H H':=⟨by have:=hf.next; omega,fun g hg=>(hf.keep g (by omega) (by rintro (h|h)<;>omega)).trans ((hsb.trans hsd).2 g hg)⟩
  simp (disch:=omega) [hgm,h4,h5]
  refine ⟨_,_,⟨rfl,rfl⟩,?_⟩
  simp [setArgs,htb,hsys,hun,h3]
  obtain ⟨a,fl,rfl,hE⟩:=h6
  exact ⟨a,fl,rfl,hE.same (Nat.le_refl _) fun g A hg hA=>GH.get_put_ne _ _ fun hc=>by subst hc; rw [hgm] at hA; cases hA⟩
end Go.Gm.Tryz
end
section
namespace Go.Gm.Tryz
open Go.Proofs
theorem sorted_append {l:List Int} {n:Int} (h:sortedB l=true) (hn:∀x∈l.getLast?,x≤n):sortedB (l++ [n])=true:=by
 unfold sortedB at h ⊢
 rw [List.all_eq_true] at h ⊢
 intro j hj
 have hj:=List.mem_range.1 hj
 simp only [List.length_append,List.length_cons,List.length_nil] at hj
 simp only [decide_eq_true_eq]
 by_cases hc:j+1<l.length
 ·have:=h j (List.mem_range.2 (by omega))
  simp only [decide_eq_true_eq] at this
  rw [getD_at (show j<(l++ [n]).length by simp; omega),getD_at (show j+1<(l++ [n]).length by simp; omega)]
  rw [getD_at (show j<l.length by omega),getD_at hc] at this
  rw [List.getElem_append_left (by omega),List.getElem_append_left hc]
  exact this
 ·have hjl:j+1=l.length:=by omega
  rw [getD_at (show j<(l++ [n]).length by simp; omega),getD_at (show j+1<(l++ [n]).length by simp; omega)]
  rw [List.getElem_append_left (by omega),List.getElem_append_right (by omega)]
  have:=hn (l[j]) (by
   rw [List.getLast?_eq_getElem?,List.getElem?_eq_getElem (by omega)]
   simp only [Option.mem_def,Option.some.injEq]
   congr 1; omega)
  simpa using this
theorem setsFrom_sorted {m:Nat}:∀ {many:Nat} {now s:List Int},sortedB now=true→(∀x∈now,0≤x)→s∈setsFrom m many now→sortedB s=true:=by
 intro many
 induction many with
 |zero=>intro now s h _ hs; simp [setsFrom] at hs; subst hs; exact h
 |succ many ih=>
  intro now s h h0 hs
  simp only [setsFrom,List.mem_flatMap] at hs
  obtain ⟨n,hn,hs⟩:=hs
  have hn':=List.mem_range'_1.1 hn
  refine ih (sorted_append h fun x hx=>?_) ?_ hs
  ·have e:now.getLast?=some x:=hx
   have h1:=h0 x (List.mem_of_getLast? e)
   have:fromOf now=x.toNat:=by unfold fromOf; rw [e]; rfl
   omega
  ·intro x hx
   rcases List.mem_append.1 hx with h|h
   ·exact h0 x h
   ·simp at h; omega
theorem allSets_set {t:Tbl} (_ht:t.rows.length≤1000) {s:List Int} (h:s∈allSets t.rows.length):isSetB t s=true:=by
 have h1:=allSets_mem h
 have h2:sortedB s=true:=by
  simp only [allSets,List.mem_flatMap] at h
  obtain ⟨k,_,h⟩:=h
  exact setsFrom_sorted (now:= []) rfl (by simp) h
 simp only [isSetB,h2,Bool.and_true,Bool.and_eq_true,decide_eq_true_eq,Bool.not_eq_true',List.any_eq_false]
 refine ⟨h1.1,fun n hn=>?_⟩
 have:=h1.2 n hn
 simp [isRowB,inI]; omega
theorem firstSet_mem {t:Tbl} {sys u:Int} {s:List Int} (h:firstSet t sys u=some s):s∈allSets t.rows.length∧countsI t sys s=u:=by
 have:=List.mem_of_head? h
 simpa [alikeSets] using this
def waterI (t:Tbl) (sys u:Int):Int:=if setArgs t sys u then (match firstSet t sys u with|some s=>givesI t s|none=> -1) else -1
def KnOk (t:Tbl) (es:List (Value×Value×Nat)):Prop:=∀e∈es,∃s u,e.1=.agg #[vi s,vi u]∧e.2.1=vi (waterI t s u)
theorem known_look {t:Tbl} (s u:Int):∀ {es:List (Value×Value×Nat)},KnOk t es→∀i,(∃j,lookKey (eqKey T 260) (.agg #[vi s,vi u]) es i=some (some (j,vi (waterI t s u))))∨lookKey (eqKey T 260) (.agg #[vi s,vi u]) es i=some none:=by
 intro es
 induction es with
 |nil=>intro _ i; exact .inr rfl
 |cons e es ih=>
  intro h i
  obtain ⟨k,v,b⟩:=e
  obtain ⟨s',u',hk,hv⟩:=h _ (List.mem_cons_self ..)
  simp only at hk hv
  subst hk hv
  have e:eqKey T 260 (.agg #[vi s,vi u]) (.agg #[vi s',vi u'])=some ((s==s')&&((u==u')&&true)):=by
   simp [eqKey,eqCells,eqCell]
  simp only [lookKey,e]
  by_cases hc:s=s'∧u=u'
  ·obtain ⟨rfl,rfl⟩:=hc
   simp
  ·have:((s==s')&&((u==u')&&true))=false:=by
    simp only [Bool.and_true,Bool.and_eq_false_iff,beq_eq_false_iff_ne]
    by_cases h1:s=s'
    ·exact .inr fun h2=>hc ⟨h1,h2⟩
    ·exact .inl h1
   rw [this]
   exact ih (fun e he=>h e (List.mem_cons_of_mem _ he)) _
theorem known_key (s u:Int):okKey T 260 (.agg #[vi s,vi u])=true:=by simp [okKey]
structure Stand where
 lives:List Bool
 owners:List Int
 grants:List GSt
 last:List Int
 waits:List Int
 fell:List (Int×Int)
@[simp] def encB (b:Bool):List Value:= [.bool b]
@[simp] def encF (p:Int×Int):List Value:= [vi p.1,vi p.2]
structure StIn (H:GH) (N:Nat) (l:BLoc) (b:Book) (sg kn:Nat) (s:Stand) (vl vo vg va vw vf:Value):Prop where
 g:H.get sg=some (.arr { cells:=bookC l b++ [.map (some kn),vl,vo,vg,va,vw,vf],ty:=215 })
 sgl:N≤sg∧sg<H.next
 book:BookIn H l b
 bt:∀a,l.t.rows.a=some a→a.block<N
 bo:∀a,l.owners.a=some a→a.block<N
 be:∀a,l.events.a=some a→a.block<N
 kno:∃es c,H.get kn=some (.map es c)∧KnOk b.tbl es
 kl:N≤kn∧kn<H.next
 lives:OwnL H N vl 4 1 encB s.lives
 owners:OwnL H N vo 3 1 encI s.owners
 grants:OwnL H N vg 218 5 encSt s.grants
 last:OwnL H N va 3 1 encI s.last
 waits:OwnL H N vw 3 1 encI s.waits
 fell:OwnL H N vf 285 2 encF s.fell
 oa:∀k,blkOf vo=some k→blkOf va≠some k
 ow:∀k,blkOf vo=some k→blkOf vw≠some k
 aw:∀k,blkOf va=some k→blkOf vw≠some k
structure KnStep (kn:Nat) (t:Tbl) (H H':GH):Prop where
 next:H.next≤H'.next
 same:∀g,g<H.next→g≠kn→H'.get g=H.get g
 known:∃es c,H'.get kn=some (.map es c)∧KnOk t es
theorem KnStep.trans {kn:Nat} {t:Tbl} {H H1 H2:GH} (a:KnStep kn t H H1) (b:KnStep kn t H1 H2):KnStep kn t H H2:=
 ⟨Nat.le_trans a.next b.next,fun g hg hk=>by rw [b.same g (Nat.lt_of_lt_of_le hg a.next) hk,a.same g hg hk],b.known⟩
theorem KnStep.of_sub {kn:Nat} {t:Tbl} {H H':GH} (hs:Sub H H') (hk:kn<H.next) (h:∃es c,H.get kn=some (.map es c)∧KnOk t es):KnStep kn t H H':=
 ⟨hs.1,fun g hg _=>hs.2 g hg,by obtain ⟨es,c,h1,h2⟩:=h; exact ⟨es,c,by rw [hs.2 _ hk]; exact h1,h2⟩⟩
theorem Elems.kn {α:Type} {H H':GH} {kn:Nat} {t:Tbl} {a:Option Addr} {sz:Nat} {enc:α→List Value} {l:List α} (e:Elems H a sz enc l) (f:KnStep kn t H H') (hk:∃es c,H.get kn=some (.map es c)∧KnOk t es):Elems H' a sz enc l:=
 e.same f.next fun g A hg hA=>f.same g hg fun hc=>by subst hc; obtain ⟨es,c,h,_⟩:=hk; rw [h] at hA; cases hA
theorem StIn.step {H H':GH} {N:Nat} {l:BLoc} {b:Book} {sg kn:Nat} {s:Stand} {vl vo vg va vw vf:Value} (h:StIn H N l b sg kn s vl vo vg va vw vf) (f:KnStep kn b.tbl H H'):StIn H' N l b sg kn s vl vo vg va vw vf:=by
 have hne:∀ {α:Type} {v:Value} {ty sz:Nat} {enc:α→List Value} {x:List α},OwnL H N v ty sz enc x→OwnL H' N v ty sz enc x:=fun o=>
  o.frame f.next fun g hg=>f.same g (o.blk_lt hg).2 fun hc=>by
   obtain ⟨A,hA,_⟩:=o.blk_ty hg
   obtain ⟨es,c,h1,_⟩:=h.kno
   subst hc; rw [h1] at hA; cases hA
 refine ⟨?_,⟨h.sgl.1,Nat.lt_of_lt_of_le h.sgl.2 f.next⟩,⟨Elems.kn h.book.t f h.kno,Elems.kn h.book.owners f h.kno,Elems.kn h.book.events f h.kno⟩,h.bt,h.bo,h.be,f.known,⟨h.kl.1,Nat.lt_of_lt_of_le h.kl.2 f.next⟩,hne h.lives,hne h.owners,hne h.grants,hne h.last,hne h.waits,hne h.fell,h.oa,h.ow,h.aw⟩
 rw [f.same sg h.sgl.2 fun hc=>?_]
 ·exact h.g
 ·obtain ⟨es,c,h1,_⟩:=h.kno
  have:=h.g
  rw [hc,h1] at this; cases this
theorem water_con {H:GH} {N:Nat} {l:BLoc} {b:Book} {sg kn:Nat} {s:Stand} {vl vo vg va vw vf:Value} (h:StIn H N l b sg kn s vl vo vg va vw vf) (sys u:Int):
  GCall Tryz.prog 101 [.pointer (some (ga sg 0 0)),vi sys,vi u] H fun x H'=>x=.ret (vi (waterI b.tbl sys u))∧KnStep kn b.tbl H H':=by
 rcases l with ⟨⟨⟨ra,rf⟩⟩,⟨oa,of'⟩,⟨va',vf'⟩⟩
 refine gcall_wp tok mix fok101 (F:=g101) (c:=_) rfl (n:=57) rfl (rs:= [.tmp 6]) rfl ?_
 have hg:=h.g
 have hsl:=h.sgl.2
 have hkl:=h.kl.2
 obtain ⟨es,c,hk,hko⟩:=h.kno
 simp (disch:=omega) [hg,hk]
 rcases known_look sys u hko 0 with ⟨j,e⟩|e
 ·simp [lkO,known_key,e]
  exact KnStep.of_sub ((Sub.push (.refl H) _).put (Nat.le_refl _) _) hkl h.kno
 ·simp (disch:=omega) [lkO,known_key,e,hg]
  generalize hH1:GH.put _ _ _=H1
  have hs1:Sub H H1:=by subst hH1; exact (Sub.push (.refl H) _).put (Nat.le_refl _) _
  have hk1:H1.get H.next=some (.arr { cells:= [vi sys,vi u],ty:=260 }):=by subst hH1; simp
  have hn1:H.next<H1.next:=by subst hH1; simp
  clear hH1
  refine (Set_con ⟨⟨ra,rf⟩⟩ b.tbl sys u H1 (h.book.t.mono hs1)).mono ?_
  rintro x H2 ⟨hs2,v,er,rfl,hv⟩
  have hs:=hs1.trans hs2
  have hg2:=(hs.2 sg hsl).trans hg
  have hk2:=(hs.2 kn hkl).trans hk
  have hb2:=(hs2.2 _ hn1).trans hk1
  have hn2:=hs.1
  have hn3:=hs2.1
  have fin:∀(w:Int),w=waterI b.tbl sys u→∀H0,H0=H2→∃H',muO T 260 (some (.map es c)) kn (.agg #[vi sys,vi u]) (vi w) H0=some (.skip H')∧KnStep kn b.tbl H H':=by
   rintro w rfl H0 rfl
   unfold muO
   ·refine ⟨H0.put kn (.map (es++ [(.agg #[vi sys,vi u],vi (waterI b.tbl sys u),c)]) (c+1)),by simp [known_key,e],by simpa using hs.1,fun g hg hgk=>by rw [GH.get_put_ne _ _ hgk]; exact hs.2 g hg,_,_,GH.get_put_same _ _,?_⟩
    intro x hx
    rcases List.mem_append.1 hx with hx|hx
    ·exact hko x hx
    ·simp at hx; subst hx; exact ⟨sys,u,rfl,rfl⟩
  cases hsa:setArgs b.tbl sys u
  ·rw [hsa] at hv
   simp at hv
   obtain ⟨rfl,rfl⟩:=hv
   obtain ⟨H',hf1,hf2⟩:=fin (-1) (by simp [waterI,hsa]) H2 rfl
   simp (disch:=omega) [hg2,hk2,hb2,hf1]
   exact ⟨by simp [waterI,hsa],hf2⟩
  ·rw [hsa] at hv
   simp only [if_true] at hv
   cases hfs:firstSet b.tbl sys u with
   |none=>
    rw [hfs] at hv
    obtain ⟨rfl,rfl⟩:=hv
    obtain ⟨H',hf1,hf2⟩:=fin (-1) (by simp [waterI,hsa,hfs]) H2 rfl
    simp (disch:=omega) [hg2,hk2,hb2,hf1]
    exact ⟨by simp [waterI,hsa,hfs],hf2⟩
   |some st=>
    rw [hfs] at hv
    obtain ⟨rfl,a,fl,rfl,hE⟩:=hv
    obtain ⟨H',hf1,hf2⟩:=fin (givesI b.tbl st) (by simp [waterI,hsa,hfs]) H2 rfl
    have htb:isTableB b.tbl=true:=by simp only [setArgs,Bool.and_eq_true] at hsa; exact hsa.1.1
    have hr:=table_rows htb
    have hset:=allSets_set (t:=b.tbl) (by omega) (firstSet_mem hfs).1
    simp (disch:=omega) [hg2]
    have hgv:=Gives_con ⟨⟨ra,rf⟩⟩ b.tbl st a fl H2 (h.book.t.mono hs) hE
    rw [htb,hset] at hgv
    refine hgv.go ?_
    simp (disch:=omega) [hg2,hk2,hb2,hf1]
    exact ⟨by simp [waterI,hsa,hfs],hf2⟩
end Go.Gm.Tryz
end
section
namespace Go.Gm.Tryz
open Go.Proofs
theorem ne_of_ty {α β:Type} {H:GH} {N M:Nat} {v w:Value} {ty ty' sz sz':Nat} {e:α→List Value} {e':β→List Value} {x:List α} {y:List β} (a:OwnL H N v ty sz e x) (b:OwnL H M w ty' sz' e' y) (h:ty≠ty') {k:Nat} (hk:blkOf v=some k):blkOf w≠some k:=by
 intro hc
 obtain ⟨A,h1,h2⟩:=a.blk_ty hk
 obtain ⟨B,h3,h4⟩:=b.blk_ty hc
 rw [h1] at h3; cases h3
 exact h (h2.symm.trans h4)
section
variable {H:GH} {N:Nat} {l:BLoc} {b:Book} {sg kn:Nat} {s:Stand} {vl vo vg va vw vf:Value}
theorem StIn.sg_ne {α:Type} (h:StIn H N l b sg kn s vl vo vg va vw vf) {v:Value} {ty sz:Nat} {e:α→List Value} {x:List α} (o:OwnL H N v ty sz e x) (hty:ty≠215):blkOf v≠some sg:=by
 intro hc
 obtain ⟨A,h1,h2⟩:=o.blk_ty hc
 rw [h.g] at h1; cases h1
 exact hty h2.symm
theorem StIn.kn_ne {α:Type} (h:StIn H N l b sg kn s vl vo vg va vw vf) {v:Value} {ty sz:Nat} {e:α→List Value} {x:List α} (o:OwnL H N v ty sz e x):blkOf v≠some kn:=by
 intro hc
 obtain ⟨A,h1,h2⟩:=o.blk_ty hc
 obtain ⟨es,c,h3,_⟩:=h.kno
 rw [h3] at h1; cases h1
theorem StIn.sk_ne (h:StIn H N l b sg kn s vl vo vg va vw vf):sg≠kn:=by
 intro hc
 obtain ⟨es,c,h3,_⟩:=h.kno
 have:=h.g
 rw [hc,h3] at this; cases this
theorem Elems.below {α:Type} {H H1:GH} {N:Nat} {a:Option Addr} {sz:Nat} {e:α→List Value} {x:List α} (h:Elems H a sz e x) (hb:∀c,a=some c→c.block<N) (hn:H.next≤H1.next) (hs:∀k,k<N→H1.get k=H.get k):Elems H1 a sz e x:=by
 refine ⟨h.len,fun c hc=>?_,h.nil⟩
 obtain ⟨h1,h2⟩:=h.ok c hc
 refine ⟨Nat.lt_of_lt_of_le h1 hn,?_⟩
 rw [←h2]
 simp only [GH.read]
 rw [hs _ (hb c hc)]
theorem StIn.wr_lives (h:StIn H N l b sg kn s vl vo vg va vw vf) {H1:GH} {x:List Bool} (hn:H.next≤H1.next) (hx:OwnL H1 N vl 4 1 encB x) (hs:∀k,k<H.next→blkOf vl≠some k→H1.get k=H.get k):StIn H1 N l b sg kn { s with lives:=x } vl vo vg va vw vf:=by
 have hN:∀k,k<N→H1.get k=H.get k:=fun k hk=>hs k (by have:=h.sgl; omega) fun hc=>by have:=(h.lives.blk_lt hc).1; omega
 have ho:∀ {α:Type} {w:Value} {ty sz:Nat} {e:α→List Value} {y:List α},OwnL H N w ty sz e y→(∀ {k},blkOf w=some k→blkOf vl≠some k)→OwnL H1 N w ty sz e y:=fun o d=>o.frame hn fun g hg=>hs g (o.blk_lt hg).2 (d hg)
 refine ⟨?_,⟨h.sgl.1,Nat.lt_of_lt_of_le h.sgl.2 hn⟩,⟨Elems.below h.book.t h.bt hn hN,Elems.below h.book.owners h.bo hn hN,Elems.below h.book.events h.be hn hN⟩,h.bt,h.bo,h.be,?_,⟨h.kl.1,Nat.lt_of_lt_of_le h.kl.2 hn⟩,hx,ho h.owners (ne_of_ty h.owners h.lives (by decide)),ho h.grants (ne_of_ty h.grants h.lives (by decide)),ho h.last (ne_of_ty h.last h.lives (by decide)),ho h.waits (ne_of_ty h.waits h.lives (by decide)),ho h.fell (ne_of_ty h.fell h.lives (by decide)),h.oa,h.ow,h.aw⟩
 ·rw [hs sg h.sgl.2 (h.sg_ne h.lives (by decide))]; exact h.g
 ·rw [hs kn h.kl.2 (h.kn_ne h.lives)]; exact h.kno
theorem StIn.upd_lives (h:StIn H N l b sg kn s vl vo vg va vw vf) {H1:GH} {vl':Value} {x:List Bool} (hn:H.next≤H1.next) (hx:OwnL H1 N vl' 4 1 encB x) (hs:∀k,k<H.next→blkOf vl≠some k→H1.get k=H.get k) (hb:∀k,blkOf vl'=some k→blkOf vl=some k∨H.next≤k):
  StIn (H1.put sg (.arr { cells:=bookC l b++ [.map (some kn),vl',vo,vg,va,vw,vf],ty:=215 })) N l b sg kn { s with lives:=x } vl' vo vg va vw vf:=by
 have hN:∀k,k<N→(H1.put sg (.arr { cells:=bookC l b++ [.map (some kn),vl',vo,vg,va,vw,vf],ty:=215 })).get k=H.get k:=fun k hk=>by
  rw [GH.get_put_ne _ _ (by have:=h.sgl; omega)]
  exact hs k (by have:=h.sgl; omega) fun hc=>by have:=(h.lives.blk_lt hc).1; omega
 have hn':H.next≤(H1.put sg (.arr { cells:=bookC l b++ [.map (some kn),vl',vo,vg,va,vw,vf],ty:=215 })).next:=hn
 have ho:∀ {α:Type} {w:Value} {ty sz:Nat} {e:α→List Value} {y:List α},OwnL H N w ty sz e y→ty≠215→(∀ {k},blkOf w=some k→blkOf vl≠some k)→OwnL (H1.put sg (.arr { cells:=bookC l b++ [.map (some kn),vl',vo,vg,va,vw,vf],ty:=215 })) N w ty sz e y:=fun o ht d=>o.frame hn fun g hg=>by
  rw [GH.get_put_ne _ _ (fun hc=>h.sg_ne o ht (by rw [←hc]; exact hg))]
  exact hs g (o.blk_lt hg).2 (d hg)
 have hd:∀ {α:Type} {w:Value} {ty sz:Nat} {e:α→List Value} {y:List α},OwnL H N w ty sz e y→(∀ {k},blkOf w=some k→blkOf vl≠some k)→∀k,blkOf w=some k→blkOf vl'≠some k:=fun o d k hk hc=>(hb k hc).elim (d hk) fun h=>by have:=(o.blk_lt hk).2; omega
 have hself:∀k,blkOf vl'=some k→k≠sg:=fun k hk hc=>(hb k hk).elim (fun h1=>h.sg_ne h.lives (by decide) (by rw [←hc]; exact h1)) fun h1=>by have:=h.sgl; omega
 refine ⟨GH.get_put_same _ _,⟨h.sgl.1,Nat.lt_of_lt_of_le h.sgl.2 hn⟩,⟨Elems.below h.book.t h.bt hn' hN,Elems.below h.book.owners h.bo hn' hN,Elems.below h.book.events h.be hn' hN⟩,h.bt,h.bo,h.be,?_,⟨h.kl.1,Nat.lt_of_lt_of_le h.kl.2 hn⟩,hx.frame (Nat.le_refl _) fun g hg=>GH.get_put_ne _ _ (hself g hg),ho h.owners (by decide) (ne_of_ty h.owners h.lives (by decide)),ho h.grants (by decide) (ne_of_ty h.grants h.lives (by decide)),ho h.last (by decide) (ne_of_ty h.last h.lives (by decide)),ho h.waits (by decide) (ne_of_ty h.waits h.lives (by decide)),ho h.fell (by decide) (ne_of_ty h.fell h.lives (by decide)),h.oa,h.ow,h.aw⟩
 rw [GH.get_put_ne _ _ (Ne.symm h.sk_ne),hs kn h.kl.2 (h.kn_ne h.lives)]; exact h.kno
theorem StIn.wr_owners (h:StIn H N l b sg kn s vl vo vg va vw vf) {H1:GH} {x:List Int} (hn:H.next≤H1.next) (hx:OwnL H1 N vo 3 1 encI x) (hs:∀k,k<H.next→blkOf vo≠some k→H1.get k=H.get k):StIn H1 N l b sg kn { s with owners:=x } vl vo vg va vw vf:=by
 have hN:∀k,k<N→H1.get k=H.get k:=fun k hk=>hs k (by have:=h.sgl; omega) fun hc=>by have:=(h.owners.blk_lt hc).1; omega
 have ho:∀ {α:Type} {w:Value} {ty sz:Nat} {e:α→List Value} {y:List α},OwnL H N w ty sz e y→(∀ {k},blkOf w=some k→blkOf vo≠some k)→OwnL H1 N w ty sz e y:=fun o d=>o.frame hn fun g hg=>hs g (o.blk_lt hg).2 (d hg)
 refine ⟨?_,⟨h.sgl.1,Nat.lt_of_lt_of_le h.sgl.2 hn⟩,⟨Elems.below h.book.t h.bt hn hN,Elems.below h.book.owners h.bo hn hN,Elems.below h.book.events h.be hn hN⟩,h.bt,h.bo,h.be,?_,⟨h.kl.1,Nat.lt_of_lt_of_le h.kl.2 hn⟩,ho h.lives (ne_of_ty h.lives h.owners (by decide)),hx,ho h.grants (ne_of_ty h.grants h.owners (by decide)),ho h.last (fun hk hc=>h.oa _ hc hk),ho h.waits (fun hk hc=>h.ow _ hc hk),ho h.fell (ne_of_ty h.fell h.owners (by decide)),h.oa,h.ow,h.aw⟩
 ·rw [hs sg h.sgl.2 (h.sg_ne h.owners (by decide))]; exact h.g
 ·rw [hs kn h.kl.2 (h.kn_ne h.owners)]; exact h.kno
theorem StIn.upd_owners (h:StIn H N l b sg kn s vl vo vg va vw vf) {H1:GH} {vo':Value} {x:List Int} (hn:H.next≤H1.next) (hx:OwnL H1 N vo' 3 1 encI x) (hs:∀k,k<H.next→blkOf vo≠some k→H1.get k=H.get k) (hb:∀k,blkOf vo'=some k→blkOf vo=some k∨H.next≤k):
  StIn (H1.put sg (.arr { cells:=bookC l b++ [.map (some kn),vl,vo',vg,va,vw,vf],ty:=215 })) N l b sg kn { s with owners:=x } vl vo' vg va vw vf:=by
 have hN:∀k,k<N→(H1.put sg (.arr { cells:=bookC l b++ [.map (some kn),vl,vo',vg,va,vw,vf],ty:=215 })).get k=H.get k:=fun k hk=>by
  rw [GH.get_put_ne _ _ (by have:=h.sgl; omega)]
  exact hs k (by have:=h.sgl; omega) fun hc=>by have:=(h.owners.blk_lt hc).1; omega
 have hn':H.next≤(H1.put sg (.arr { cells:=bookC l b++ [.map (some kn),vl,vo',vg,va,vw,vf],ty:=215 })).next:=hn
 have ho:∀ {α:Type} {w:Value} {ty sz:Nat} {e:α→List Value} {y:List α},OwnL H N w ty sz e y→ty≠215→(∀ {k},blkOf w=some k→blkOf vo≠some k)→OwnL (H1.put sg (.arr { cells:=bookC l b++ [.map (some kn),vl,vo',vg,va,vw,vf],ty:=215 })) N w ty sz e y:=fun o ht d=>o.frame hn fun g hg=>by
  rw [GH.get_put_ne _ _ (fun hc=>h.sg_ne o ht (by rw [←hc]; exact hg))]
  exact hs g (o.blk_lt hg).2 (d hg)
 have hd:∀ {α:Type} {w:Value} {ty sz:Nat} {e:α→List Value} {y:List α},OwnL H N w ty sz e y→(∀ {k},blkOf w=some k→blkOf vo≠some k)→∀k,blkOf w=some k→blkOf vo'≠some k:=fun o d k hk hc=>(hb k hc).elim (d hk) fun h=>by have:=(o.blk_lt hk).2; omega
 have hself:∀k,blkOf vo'=some k→k≠sg:=fun k hk hc=>(hb k hk).elim (fun h1=>h.sg_ne h.owners (by decide) (by rw [←hc]; exact h1)) fun h1=>by have:=h.sgl; omega
 refine ⟨GH.get_put_same _ _,⟨h.sgl.1,Nat.lt_of_lt_of_le h.sgl.2 hn⟩,⟨Elems.below h.book.t h.bt hn' hN,Elems.below h.book.owners h.bo hn' hN,Elems.below h.book.events h.be hn' hN⟩,h.bt,h.bo,h.be,?_,⟨h.kl.1,Nat.lt_of_lt_of_le h.kl.2 hn⟩,ho h.lives (by decide) (ne_of_ty h.lives h.owners (by decide)),hx.frame (Nat.le_refl _) fun g hg=>GH.get_put_ne _ _ (hself g hg),ho h.grants (by decide) (ne_of_ty h.grants h.owners (by decide)),ho h.last (by decide) (fun hk hc=>h.oa _ hc hk),ho h.waits (by decide) (fun hk hc=>h.ow _ hc hk),ho h.fell (by decide) (ne_of_ty h.fell h.owners (by decide)),fun k hk hc=>hd h.last (fun hk hc=>h.oa _ hc hk) k hc hk,fun k hk hc=>hd h.waits (fun hk hc=>h.ow _ hc hk) k hc hk,h.aw⟩
 rw [GH.get_put_ne _ _ (Ne.symm h.sk_ne),hs kn h.kl.2 (h.kn_ne h.owners)]; exact h.kno
theorem StIn.wr_grants (h:StIn H N l b sg kn s vl vo vg va vw vf) {H1:GH} {x:List GSt} (hn:H.next≤H1.next) (hx:OwnL H1 N vg 218 5 encSt x) (hs:∀k,k<H.next→blkOf vg≠some k→H1.get k=H.get k):StIn H1 N l b sg kn { s with grants:=x } vl vo vg va vw vf:=by
 have hN:∀k,k<N→H1.get k=H.get k:=fun k hk=>hs k (by have:=h.sgl; omega) fun hc=>by have:=(h.grants.blk_lt hc).1; omega
 have ho:∀ {α:Type} {w:Value} {ty sz:Nat} {e:α→List Value} {y:List α},OwnL H N w ty sz e y→(∀ {k},blkOf w=some k→blkOf vg≠some k)→OwnL H1 N w ty sz e y:=fun o d=>o.frame hn fun g hg=>hs g (o.blk_lt hg).2 (d hg)
 refine ⟨?_,⟨h.sgl.1,Nat.lt_of_lt_of_le h.sgl.2 hn⟩,⟨Elems.below h.book.t h.bt hn hN,Elems.below h.book.owners h.bo hn hN,Elems.below h.book.events h.be hn hN⟩,h.bt,h.bo,h.be,?_,⟨h.kl.1,Nat.lt_of_lt_of_le h.kl.2 hn⟩,ho h.lives (ne_of_ty h.lives h.grants (by decide)),ho h.owners (ne_of_ty h.owners h.grants (by decide)),hx,ho h.last (ne_of_ty h.last h.grants (by decide)),ho h.waits (ne_of_ty h.waits h.grants (by decide)),ho h.fell (ne_of_ty h.fell h.grants (by decide)),h.oa,h.ow,h.aw⟩
 ·rw [hs sg h.sgl.2 (h.sg_ne h.grants (by decide))]; exact h.g
 ·rw [hs kn h.kl.2 (h.kn_ne h.grants)]; exact h.kno
theorem StIn.upd_grants (h:StIn H N l b sg kn s vl vo vg va vw vf) {H1:GH} {vg':Value} {x:List GSt} (hn:H.next≤H1.next) (hx:OwnL H1 N vg' 218 5 encSt x) (hs:∀k,k<H.next→blkOf vg≠some k→H1.get k=H.get k) (hb:∀k,blkOf vg'=some k→blkOf vg=some k∨H.next≤k):
  StIn (H1.put sg (.arr { cells:=bookC l b++ [.map (some kn),vl,vo,vg',va,vw,vf],ty:=215 })) N l b sg kn { s with grants:=x } vl vo vg' va vw vf:=by
 have hN:∀k,k<N→(H1.put sg (.arr { cells:=bookC l b++ [.map (some kn),vl,vo,vg',va,vw,vf],ty:=215 })).get k=H.get k:=fun k hk=>by
  rw [GH.get_put_ne _ _ (by have:=h.sgl; omega)]
  exact hs k (by have:=h.sgl; omega) fun hc=>by have:=(h.grants.blk_lt hc).1; omega
 have hn':H.next≤(H1.put sg (.arr { cells:=bookC l b++ [.map (some kn),vl,vo,vg',va,vw,vf],ty:=215 })).next:=hn
 have ho:∀ {α:Type} {w:Value} {ty sz:Nat} {e:α→List Value} {y:List α},OwnL H N w ty sz e y→ty≠215→(∀ {k},blkOf w=some k→blkOf vg≠some k)→OwnL (H1.put sg (.arr { cells:=bookC l b++ [.map (some kn),vl,vo,vg',va,vw,vf],ty:=215 })) N w ty sz e y:=fun o ht d=>o.frame hn fun g hg=>by
  rw [GH.get_put_ne _ _ (fun hc=>h.sg_ne o ht (by rw [←hc]; exact hg))]
  exact hs g (o.blk_lt hg).2 (d hg)
 have hd:∀ {α:Type} {w:Value} {ty sz:Nat} {e:α→List Value} {y:List α},OwnL H N w ty sz e y→(∀ {k},blkOf w=some k→blkOf vg≠some k)→∀k,blkOf w=some k→blkOf vg'≠some k:=fun o d k hk hc=>(hb k hc).elim (d hk) fun h=>by have:=(o.blk_lt hk).2; omega
 have hself:∀k,blkOf vg'=some k→k≠sg:=fun k hk hc=>(hb k hk).elim (fun h1=>h.sg_ne h.grants (by decide) (by rw [←hc]; exact h1)) fun h1=>by have:=h.sgl; omega
 refine ⟨GH.get_put_same _ _,⟨h.sgl.1,Nat.lt_of_lt_of_le h.sgl.2 hn⟩,⟨Elems.below h.book.t h.bt hn' hN,Elems.below h.book.owners h.bo hn' hN,Elems.below h.book.events h.be hn' hN⟩,h.bt,h.bo,h.be,?_,⟨h.kl.1,Nat.lt_of_lt_of_le h.kl.2 hn⟩,ho h.lives (by decide) (ne_of_ty h.lives h.grants (by decide)),ho h.owners (by decide) (ne_of_ty h.owners h.grants (by decide)),hx.frame (Nat.le_refl _) fun g hg=>GH.get_put_ne _ _ (hself g hg),ho h.last (by decide) (ne_of_ty h.last h.grants (by decide)),ho h.waits (by decide) (ne_of_ty h.waits h.grants (by decide)),ho h.fell (by decide) (ne_of_ty h.fell h.grants (by decide)),h.oa,h.ow,h.aw⟩
 rw [GH.get_put_ne _ _ (Ne.symm h.sk_ne),hs kn h.kl.2 (h.kn_ne h.grants)]; exact h.kno
theorem StIn.wr_last (h:StIn H N l b sg kn s vl vo vg va vw vf) {H1:GH} {x:List Int} (hn:H.next≤H1.next) (hx:OwnL H1 N va 3 1 encI x) (hs:∀k,k<H.next→blkOf va≠some k→H1.get k=H.get k):StIn H1 N l b sg kn { s with last:=x } vl vo vg va vw vf:=by
 have hN:∀k,k<N→H1.get k=H.get k:=fun k hk=>hs k (by have:=h.sgl; omega) fun hc=>by have:=(h.last.blk_lt hc).1; omega
 have ho:∀ {α:Type} {w:Value} {ty sz:Nat} {e:α→List Value} {y:List α},OwnL H N w ty sz e y→(∀ {k},blkOf w=some k→blkOf va≠some k)→OwnL H1 N w ty sz e y:=fun o d=>o.frame hn fun g hg=>hs g (o.blk_lt hg).2 (d hg)
 refine ⟨?_,⟨h.sgl.1,Nat.lt_of_lt_of_le h.sgl.2 hn⟩,⟨Elems.below h.book.t h.bt hn hN,Elems.below h.book.owners h.bo hn hN,Elems.below h.book.events h.be hn hN⟩,h.bt,h.bo,h.be,?_,⟨h.kl.1,Nat.lt_of_lt_of_le h.kl.2 hn⟩,ho h.lives (ne_of_ty h.lives h.last (by decide)),ho h.owners (fun hk=>h.oa _ hk),ho h.grants (ne_of_ty h.grants h.last (by decide)),hx,ho h.waits (fun hk hc=>h.aw _ hc hk),ho h.fell (ne_of_ty h.fell h.last (by decide)),h.oa,h.ow,h.aw⟩
 ·rw [hs sg h.sgl.2 (h.sg_ne h.last (by decide))]; exact h.g
 ·rw [hs kn h.kl.2 (h.kn_ne h.last)]; exact h.kno
theorem StIn.upd_last (h:StIn H N l b sg kn s vl vo vg va vw vf) {H1:GH} {va':Value} {x:List Int} (hn:H.next≤H1.next) (hx:OwnL H1 N va' 3 1 encI x) (hs:∀k,k<H.next→blkOf va≠some k→H1.get k=H.get k) (hb:∀k,blkOf va'=some k→blkOf va=some k∨H.next≤k):
  StIn (H1.put sg (.arr { cells:=bookC l b++ [.map (some kn),vl,vo,vg,va',vw,vf],ty:=215 })) N l b sg kn { s with last:=x } vl vo vg va' vw vf:=by
 have hN:∀k,k<N→(H1.put sg (.arr { cells:=bookC l b++ [.map (some kn),vl,vo,vg,va',vw,vf],ty:=215 })).get k=H.get k:=fun k hk=>by
  rw [GH.get_put_ne _ _ (by have:=h.sgl; omega)]
  exact hs k (by have:=h.sgl; omega) fun hc=>by have:=(h.last.blk_lt hc).1; omega
 have hn':H.next≤(H1.put sg (.arr { cells:=bookC l b++ [.map (some kn),vl,vo,vg,va',vw,vf],ty:=215 })).next:=hn
 have ho:∀ {α:Type} {w:Value} {ty sz:Nat} {e:α→List Value} {y:List α},OwnL H N w ty sz e y→ty≠215→(∀ {k},blkOf w=some k→blkOf va≠some k)→OwnL (H1.put sg (.arr { cells:=bookC l b++ [.map (some kn),vl,vo,vg,va',vw,vf],ty:=215 })) N w ty sz e y:=fun o ht d=>o.frame hn fun g hg=>by
  rw [GH.get_put_ne _ _ (fun hc=>h.sg_ne o ht (by rw [←hc]; exact hg))]
  exact hs g (o.blk_lt hg).2 (d hg)
 have hd:∀ {α:Type} {w:Value} {ty sz:Nat} {e:α→List Value} {y:List α},OwnL H N w ty sz e y→(∀ {k},blkOf w=some k→blkOf va≠some k)→∀k,blkOf w=some k→blkOf va'≠some k:=fun o d k hk hc=>(hb k hc).elim (d hk) fun h=>by have:=(o.blk_lt hk).2; omega
 have hself:∀k,blkOf va'=some k→k≠sg:=fun k hk hc=>(hb k hk).elim (fun h1=>h.sg_ne h.last (by decide) (by rw [←hc]; exact h1)) fun h1=>by have:=h.sgl; omega
 refine ⟨GH.get_put_same _ _,⟨h.sgl.1,Nat.lt_of_lt_of_le h.sgl.2 hn⟩,⟨Elems.below h.book.t h.bt hn' hN,Elems.below h.book.owners h.bo hn' hN,Elems.below h.book.events h.be hn' hN⟩,h.bt,h.bo,h.be,?_,⟨h.kl.1,Nat.lt_of_lt_of_le h.kl.2 hn⟩,ho h.lives (by decide) (ne_of_ty h.lives h.last (by decide)),ho h.owners (by decide) (fun hk=>h.oa _ hk),ho h.grants (by decide) (ne_of_ty h.grants h.last (by decide)),hx.frame (Nat.le_refl _) fun g hg=>GH.get_put_ne _ _ (hself g hg),ho h.waits (by decide) (fun hk hc=>h.aw _ hc hk),ho h.fell (by decide) (ne_of_ty h.fell h.last (by decide)),hd h.owners (fun hk=>h.oa _ hk),h.ow,fun k hk hc=>hd h.waits (fun hk hc=>h.aw _ hc hk) k hc hk⟩
 rw [GH.get_put_ne _ _ (Ne.symm h.sk_ne),hs kn h.kl.2 (h.kn_ne h.last)]; exact h.kno
theorem StIn.upd_waits (h:StIn H N l b sg kn s vl vo vg va vw vf) {H1:GH} {vw':Value} {x:List Int} (hn:H.next≤H1.next) (hx:OwnL H1 N vw' 3 1 encI x) (hs:∀k,k<H.next→blkOf vw≠some k→H1.get k=H.get k) (hb:∀k,blkOf vw'=some k→blkOf vw=some k∨H.next≤k):
  StIn (H1.put sg (.arr { cells:=bookC l b++ [.map (some kn),vl,vo,vg,va,vw',vf],ty:=215 })) N l b sg kn { s with waits:=x } vl vo vg va vw' vf:=by
 have hN:∀k,k<N→(H1.put sg (.arr { cells:=bookC l b++ [.map (some kn),vl,vo,vg,va,vw',vf],ty:=215 })).get k=H.get k:=fun k hk=>by
  rw [GH.get_put_ne _ _ (by have:=h.sgl; omega)]
  exact hs k (by have:=h.sgl; omega) fun hc=>by have:=(h.waits.blk_lt hc).1; omega
 have hn':H.next≤(H1.put sg (.arr { cells:=bookC l b++ [.map (some kn),vl,vo,vg,va,vw',vf],ty:=215 })).next:=hn
 have ho:∀ {α:Type} {w:Value} {ty sz:Nat} {e:α→List Value} {y:List α},OwnL H N w ty sz e y→ty≠215→(∀ {k},blkOf w=some k→blkOf vw≠some k)→OwnL (H1.put sg (.arr { cells:=bookC l b++ [.map (some kn),vl,vo,vg,va,vw',vf],ty:=215 })) N w ty sz e y:=fun o ht d=>o.frame hn fun g hg=>by
  rw [GH.get_put_ne _ _ (fun hc=>h.sg_ne o ht (by rw [←hc]; exact hg))]
  exact hs g (o.blk_lt hg).2 (d hg)
 have hd:∀ {α:Type} {w:Value} {ty sz:Nat} {e:α→List Value} {y:List α},OwnL H N w ty sz e y→(∀ {k},blkOf w=some k→blkOf vw≠some k)→∀k,blkOf w=some k→blkOf vw'≠some k:=fun o d k hk hc=>(hb k hc).elim (d hk) fun h=>by have:=(o.blk_lt hk).2; omega
 have hself:∀k,blkOf vw'=some k→k≠sg:=fun k hk hc=>(hb k hk).elim (fun h1=>h.sg_ne h.waits (by decide) (by rw [←hc]; exact h1)) fun h1=>by have:=h.sgl; omega
 refine ⟨GH.get_put_same _ _,⟨h.sgl.1,Nat.lt_of_lt_of_le h.sgl.2 hn⟩,⟨Elems.below h.book.t h.bt hn' hN,Elems.below h.book.owners h.bo hn' hN,Elems.below h.book.events h.be hn' hN⟩,h.bt,h.bo,h.be,?_,⟨h.kl.1,Nat.lt_of_lt_of_le h.kl.2 hn⟩,ho h.lives (by decide) (ne_of_ty h.lives h.waits (by decide)),ho h.owners (by decide) (fun hk=>h.ow _ hk),ho h.grants (by decide) (ne_of_ty h.grants h.waits (by decide)),ho h.last (by decide) (fun hk=>h.aw _ hk),hx.frame (Nat.le_refl _) fun g hg=>GH.get_put_ne _ _ (hself g hg),ho h.fell (by decide) (ne_of_ty h.fell h.waits (by decide)),h.oa,hd h.owners (fun hk=>h.ow _ hk),hd h.last (fun hk=>h.aw _ hk)⟩
 rw [GH.get_put_ne _ _ (Ne.symm h.sk_ne),hs kn h.kl.2 (h.kn_ne h.waits)]; exact h.kno
theorem StIn.upd_fell (h:StIn H N l b sg kn s vl vo vg va vw vf) {H1:GH} {vf':Value} {x:List (Int×Int)} (hn:H.next≤H1.next) (hx:OwnL H1 N vf' 285 2 encF x) (hs:∀k,k<H.next→blkOf vf≠some k→H1.get k=H.get k) (hb:∀k,blkOf vf'=some k→blkOf vf=some k∨H.next≤k):
  StIn (H1.put sg (.arr { cells:=bookC l b++ [.map (some kn),vl,vo,vg,va,vw,vf'],ty:=215 })) N l b sg kn { s with fell:=x } vl vo vg va vw vf':=by
 have hN:∀k,k<N→(H1.put sg (.arr { cells:=bookC l b++ [.map (some kn),vl,vo,vg,va,vw,vf'],ty:=215 })).get k=H.get k:=fun k hk=>by
  rw [GH.get_put_ne _ _ (by have:=h.sgl; omega)]
  exact hs k (by have:=h.sgl; omega) fun hc=>by have:=(h.fell.blk_lt hc).1; omega
 have hn':H.next≤(H1.put sg (.arr { cells:=bookC l b++ [.map (some kn),vl,vo,vg,va,vw,vf'],ty:=215 })).next:=hn
 have ho:∀ {α:Type} {w:Value} {ty sz:Nat} {e:α→List Value} {y:List α},OwnL H N w ty sz e y→ty≠215→(∀ {k},blkOf w=some k→blkOf vf≠some k)→OwnL (H1.put sg (.arr { cells:=bookC l b++ [.map (some kn),vl,vo,vg,va,vw,vf'],ty:=215 })) N w ty sz e y:=fun o ht d=>o.frame hn fun g hg=>by
  rw [GH.get_put_ne _ _ (fun hc=>h.sg_ne o ht (by rw [←hc]; exact hg))]
  exact hs g (o.blk_lt hg).2 (d hg)
 have hd:∀ {α:Type} {w:Value} {ty sz:Nat} {e:α→List Value} {y:List α},OwnL H N w ty sz e y→(∀ {k},blkOf w=some k→blkOf vf≠some k)→∀k,blkOf w=some k→blkOf vf'≠some k:=fun o d k hk hc=>(hb k hc).elim (d hk) fun h=>by have:=(o.blk_lt hk).2; omega
 have hself:∀k,blkOf vf'=some k→k≠sg:=fun k hk hc=>(hb k hk).elim (fun h1=>h.sg_ne h.fell (by decide) (by rw [←hc]; exact h1)) fun h1=>by have:=h.sgl; omega
 refine ⟨GH.get_put_same _ _,⟨h.sgl.1,Nat.lt_of_lt_of_le h.sgl.2 hn⟩,⟨Elems.below h.book.t h.bt hn' hN,Elems.below h.book.owners h.bo hn' hN,Elems.below h.book.events h.be hn' hN⟩,h.bt,h.bo,h.be,?_,⟨h.kl.1,Nat.lt_of_lt_of_le h.kl.2 hn⟩,ho h.lives (by decide) (ne_of_ty h.lives h.fell (by decide)),ho h.owners (by decide) (ne_of_ty h.owners h.fell (by decide)),ho h.grants (by decide) (ne_of_ty h.grants h.fell (by decide)),ho h.last (by decide) (ne_of_ty h.last h.fell (by decide)),ho h.waits (by decide) (ne_of_ty h.waits h.fell (by decide)),hx.frame (Nat.le_refl _) fun g hg=>GH.get_put_ne _ _ (hself g hg),h.oa,h.ow,h.aw⟩
 rw [GH.get_put_ne _ _ (Ne.symm h.sk_ne),hs kn h.kl.2 (h.kn_ne h.fell)]; exact h.kno
end
end Go.Gm.Tryz
end
section
namespace Go.Gm.Tryz
open Go.Proofs
def StandIn (H:GH) (N:Nat) (l:BLoc) (b:Book) (sg kn:Nat) (s:Stand) (O:Nat→Prop):Prop:=
 ∃vl vo vg va vw vf,StIn H N l b sg kn s vl vo vg va vw vf∧(∀g,O g↔g=sg∨g=kn∨blkOf vl=some g∨blkOf vo=some g∨blkOf vg=some g∨blkOf va=some g∨blkOf vw=some g∨blkOf vf=some g)
section
variable {H:GH} {N:Nat} {l:BLoc} {b:Book} {sg kn:Nat} {s:Stand} {O:Nat→Prop}
theorem StIn.own_lt {vl vo vg va vw vf:Value} (h:StIn H N l b sg kn s vl vo vg va vw vf) {g:Nat} (hg:g=sg∨g=kn∨blkOf vl=some g∨blkOf vo=some g∨blkOf vg=some g∨blkOf va=some g∨blkOf vw=some g∨blkOf vf=some g):N≤g∧g<H.next:=by
 rcases hg with rfl|rfl|hg|hg|hg|hg|hg|hg
 ·exact h.sgl
 ·exact h.kl
 ·exact h.lives.blk_lt hg
 ·exact h.owners.blk_lt hg
 ·exact h.grants.blk_lt hg
 ·exact h.last.blk_lt hg
 ·exact h.waits.blk_lt hg
 ·exact h.fell.blk_lt hg
theorem StandIn.lt (h:StandIn H N l b sg kn s O):∀g,O g→N≤g∧g<H.next:=by
 obtain ⟨vl,vo,vg,va,vw,vf,h1,h2⟩:=h
 exact fun g hg=>h1.own_lt ((h2 g).1 hg)
theorem StandIn.kstep (h:StandIn H N l b sg kn s O) {H':GH} (f:KnStep kn b.tbl H H'):StandIn H' N l b sg kn s O∧Frm O O H H':=by
 have hlt:=h.lt
 obtain ⟨vl,vo,vg,va,vw,vf,h1,h2⟩:=h
 exact ⟨⟨_,_,_,_,_,_,h1.step f,h2⟩,f.next,fun g hg ho=>f.same g hg fun hc=>ho ((h2 g).2 (.inr (.inl hc))),fun g hg=>.inl hg,fun g hg=>Nat.lt_of_lt_of_le (hlt g hg).2 f.next⟩
theorem StandIn.of {H1:GH} {s1:Stand} {vl vo vg va vw vf vl' vo' vg' va' vw' vf':Value} (_h:StIn H N l b sg kn s vl vo vg va vw vf) (hO:∀g,O g↔g=sg∨g=kn∨blkOf vl=some g∨blkOf vo=some g∨blkOf vg=some g∨blkOf va=some g∨blkOf vw=some g∨blkOf vf=some g)
  (h1:StIn H1 N l b sg kn s1 vl' vo' vg' va' vw' vf') (hn:H.next≤H1.next) (hs:∀g,g<H.next→¬O g→H1.get g=H.get g)
  (b1:∀k,blkOf vl'=some k→blkOf vl=some k∨H.next≤k) (b2:∀k,blkOf vo'=some k→blkOf vo=some k∨H.next≤k) (b3:∀k,blkOf vg'=some k→blkOf vg=some k∨H.next≤k)
  (b4:∀k,blkOf va'=some k→blkOf va=some k∨H.next≤k) (b5:∀k,blkOf vw'=some k→blkOf vw=some k∨H.next≤k) (b6:∀k,blkOf vf'=some k→blkOf vf=some k∨H.next≤k):
  ∃O',Frm O O' H H1∧StandIn H1 N l b sg kn s1 O':=by
 refine ⟨fun g=>g=sg∨g=kn∨blkOf vl'=some g∨blkOf vo'=some g∨blkOf vg'=some g∨blkOf va'=some g∨blkOf vw'=some g∨blkOf vf'=some g,⟨hn,hs,fun g hg=>?_,fun g hg=>(h1.own_lt hg).2⟩,_,_,_,_,_,_,h1,fun g=>Iff.rfl⟩
 rw [hO]
 rcases hg with hg|hg|hg|hg|hg|hg|hg|hg
 ·exact .inl (.inl hg)
 ·exact .inl (.inr (.inl hg))
 ·exact (b1 g hg).imp (fun h=>.inr (.inr (.inl h))) id
 ·exact (b2 g hg).imp (fun h=>.inr (.inr (.inr (.inl h)))) id
 ·exact (b3 g hg).imp (fun h=>.inr (.inr (.inr (.inr (.inl h))))) id
 ·exact (b4 g hg).imp (fun h=>.inr (.inr (.inr (.inr (.inr (.inl h)))))) id
 ·exact (b5 g hg).imp (fun h=>.inr (.inr (.inr (.inr (.inr (.inr (.inl h))))))) id
 ·exact (b6 g hg).imp (fun h=>.inr (.inr (.inr (.inr (.inr (.inr (.inr h))))))) id
end
def freeStep (b:Book) (n:Int) (g:GSt):Int:=if g.is=3 then n else IntKind.i64.wrap (n - waterI b.tbl g.system g.units)
def freeI (b:Book) (s:Stand):Int:=s.grants.foldl (freeStep b) b.supply
theorem free_con {H:GH} {N:Nat} {l:BLoc} {b:Book} {sg kn:Nat} {s:Stand} {vl vo vg va vw vf:Value} (h:StIn H N l b sg kn s vl vo vg va vw vf) (hlen:s.grants.length≤1000):
  GCall Tryz.prog 41 [.pointer (some (ga sg 0 0))] H fun x H'=>x=.ret (vi (freeI b s))∧KnStep kn b.tbl H H':=by
 rcases l with ⟨⟨⟨ra,rf⟩⟩,⟨oa,of'⟩,⟨va',vf'⟩⟩
 refine gcall_wp tok mix fok41 (F:=g41) (c:=_) rfl (n:=33) rfl (rs:= [.tmp 2]) rfl ?_
 have hg:=h.g
 obtain ⟨ag,fg,rfl,hE⟩:=h.grants.elems (fun _=>rfl)
 simp (disch:=omega) [hg]
 refine wp_up tok mix (by kernel_rfl) s.grants.length (fun i ρ m H1=>ρ 0=.pointer (some (ga sg 0 0))∧ρ 14=.slice ag s.grants.length fg∧ρ 15=vi s.grants.length∧ρ 16=vi i∧ρ 3=vi ((s.grants.take i).foldl (freeStep b) b.supply)∧m= []∧KnStep kn b.tbl H H1) (i0:=0) (by omega) (by simp; exact KnStep.of_sub (.refl H) h.kl.2 h.kno) ?_
 rintro i ρ m H1 hi ⟨e0,e14,e15,e16,e3,rfl,hk⟩
 have h1:=h.step hk
 simp [e15,e16]
 refine wpB_dec (fun hlt=>?_) (fun hge=>?_)
 ·obtain ⟨a,rfl,hal,hrd⟩:=(h1.grants.elems' (fun _=>rfl)).at i hlt
  have e:(s.grants.take (i+1)).foldl (freeStep b) b.supply=freeStep b ((s.grants.take i).foldl (freeStep b) b.supply) s.grants[i]:=by
   rw [List.take_succ_eq_append_getElem hlt,List.foldl_append]; rfl
  simp (disch:=omega) [e14,e16,hlt,hrd]
  have hs2:Sub H1 ((H1.push (.arr { cells:= [vi 0,vi 0,vi 0,vi 0,vi 0],ty:=218 })).put H1.next (.arr { cells:= [vi s.grants[i].is,vi s.grants[i].person,vi s.grants[i].estate,vi s.grants[i].system,vi s.grants[i].units],ty:=218 })):=(Sub.push (.refl H1) _).put (Nat.le_refl _) _
  have hk2:=hk.trans (KnStep.of_sub hs2 h1.kl.2 h1.kno)
  refine wpB_bool (fun h5=>?_) (fun h5=>?_)<;>(try simp only [Bool.not_eq_true',Bool.not_eq_false',decide_eq_true_eq,decide_eq_false_iff_not] at h5)
  ·simp (disch:=omega) [e0]
   refine (water_con (h.step hk2) _ _).mono ?_
   rintro x H2 ⟨rfl,hk3⟩
   simp (disch:=omega) [e0,e14,e15,e16,e3,wrap64]
   exact ⟨by rw [e]; simp [freeStep,h5],hk2.trans hk3⟩
  ·simp (disch:=omega) [e0,e14,e15,e16,e3,wrap64]
   have h6:s.grants[i].is=3:=by omega
   exact ⟨by rw [e]; simp [freeStep,h6],hk2⟩
 ·have:i=s.grants.length:=by omega
  subst this
  simp [e3]
  exact ⟨by simp [freeI],hk⟩
theorem exists_con {H:GH} {N:Nat} {l:BLoc} {b:Book} {sg kn:Nat} {s:Stand} {vl vo vg va vw vf:Value} (h:StIn H N l b sg kn s vl vo vg va vw vf) (n:Int) (hn:0≤n):
  C 301 [.pointer (some (ga sg 0 0)),vi n] H (.bool (decide (n<s.owners.length)&&decide (0≤s.owners.getD n.toNat 0))) H:=by
 rcases l with ⟨⟨⟨ra,rf⟩⟩,⟨oa,of'⟩,⟨va',vf'⟩⟩
 refine con_wp tok mix fok301 (F:=g301) (c:=_) rfl (n:=22) rfl (rs:= [.tmp 4]) rfl (anch_closed rfl) ?_
 have hg:=h.g
 obtain ⟨ag,fg,rfl,hE⟩:=h.owners.elems (fun _=>rfl)
 simp (disch:=omega) [hg]
 refine contG_bool (fun h5=>?_) (fun h5=>?_)<;>(try simp only [decide_eq_true_eq,decide_eq_false_iff_not] at h5)
 ·obtain ⟨a,rfl,hal,hrd⟩:=hE.at n.toNat (by omega)
  have e:s.owners[n.toNat]?.getD 0=s.owners[n.toNat]:=by rw [List.getElem?_eq_getElem (by omega)]; rfl
  simp (disch:=omega) [hg,h5,hrd]
 ·simp [h5]
end Go.Gm.Tryz
end
section
namespace Go.Gm.Tryz
open Go.Proofs
def addG (s:Stand) (person estate system units:Int):Stand:= { s with grants:=s.grants++ [⟨1,person,estate,system,units⟩],last:=s.last++ [0] }
theorem add_con {H:GH} {N:Nat} {l:BLoc} {b:Book} {sg kn:Nat} {s:Stand} {O:Nat→Prop} (h:StandIn H N l b sg kn s O) (hlen:s.grants.length≤1000) (hl2:s.last.length≤1000) (p e sy u:Int):
  GCall Tryz.prog 134 [.pointer (some (ga sg 0 0)),vi p,vi e,vi sy,vi u] H fun x H'=>x=.ret (.tuple #[])∧∃O',Frm O O' H H'∧StandIn H' N l b sg kn (addG s p e sy u) O':=by
 rcases l with ⟨⟨⟨ra,rf⟩⟩,⟨oa,of'⟩,⟨va',vf'⟩⟩
 obtain ⟨vl,vo,vg,va,vw,vf,h,hO⟩:=h
 refine gcall_wp tok mix fok134 (F:=g134) (c:=_) rfl (n:=33) rfl (rs:= []) rfl ?_
 have hg:=h.g
 have hsl:=h.sgl.2
 have hsN:=h.sgl.1
 have hlg:=h.grants.len
 have hla:=h.last.len
 obtain ⟨vg',H1,happ,ho1,hn1,hf1,hb1⟩:=(h.grants.push (.arr { cells:= [vi 1,vi p,vi e,vi sy,vi u],ty:=218 })).app (by simp) (by simp) (by decide) ⟨1,p,e,sy,u⟩ (by simp; omega)
 simp only [encSt] at happ
 have c8:40*(1+s.grants.length)≤1000000:=by omega
 have c9:1+s.grants.length≤1000000:=by omega
 have hbg:blkOf vg≠some sg:=h.sg_ne h.grants (by decide)
 have hg1:H1.get sg=some (.arr { cells:=bookC ⟨⟨⟨ra,rf⟩⟩,⟨oa,of'⟩,⟨va',vf'⟩⟩ b++ [.map (some kn),vl,vo,vg,va,vw,vf],ty:=215 }):=by
  rw [hf1 sg (by simp; omega) hbg,GH.get_push_lt _ _ hsl]; exact hg
 simp only [GH.next_push] at hn1
 obtain ⟨ag,fg,rfl⟩:=ho1.slice
 simp (disch:=omega) [hg,hlg,c8,c9,happ,hg1]
 have hS1:=h.upd_grants (by omega) ho1 (fun k hk hne=>by rw [hf1 k (by simp; omega) hne,GH.get_push_lt _ _ hk]) (fun k hk=>(hb1 k hk).imp id fun h=>by simp at h; omega)
 simp only [bookC,List.cons_append,List.nil_append,List.length_append,List.length_cons,List.length_nil,Nat.zero_add] at hS1 hb1
 generalize hH2:H1.put sg _=H2 at hS1 ⊢
 have hf2:∀k,k<H.next→¬O k→H2.get k=H.get k:=by
  intro k hk ho
  rw [hO] at ho
  subst hH2
  rw [GH.get_put_ne _ _ (fun hc=>ho (.inl hc)),hf1 k (by simp; omega) (fun hc=>ho (.inr (.inr (.inr (.inr (.inl hc)))))),GH.get_push_lt _ _ hk]
 have hn2:H.next+1≤H2.next:=by subst hH2; exact hn1
 clear hH2 hf1 happ hg1
 have hg2:=hS1.g
 have hsl2:=hS1.sgl.2
 obtain ⟨va1,H3,happ3,ho3,hn3,hf3,hb3⟩:=(hS1.last.push (.arr { cells:= [vi 0],ty:=3 })).app (by simp) (by simp) (by decide) 0 (by simp; omega)
 simp only [encI] at happ3
 have d8:8*(1+s.last.length)≤1000000:=by omega
 have d9:1+s.last.length≤1000000:=by omega
 have hg3:=(hf3 sg (by simp; omega) (hS1.sg_ne hS1.last (by decide))).trans ((GH.get_push_lt _ _ hsl2).trans hg2)
 simp only [GH.next_push] at hn3
 obtain ⟨aa,fa',rfl⟩:=ho3.slice
 simp (disch:=omega) [hla,d8,d9,happ3,hg3]
 have hS2:=hS1.upd_last (by omega) ho3 (fun k hk hne=>by rw [hf3 k (by simp; omega) hne,GH.get_push_lt _ _ hk]) (fun k hk=>(hb3 k hk).imp id fun h=>by simp at h; omega)
 have hfin:=StandIn.of h hO hS2 (by simp; omega) (fun k hk ho=>by
  have ho':=ho
  rw [hO] at ho'
  rw [GH.get_put_ne _ _ (fun hc=>ho' (.inl hc)),hf3 k (by simp; omega) (fun hc=>ho' (.inr (.inr (.inr (.inr (.inr (.inl hc))))))),GH.get_push_lt _ _ (by omega),hf2 k hk ho]) (fun k hk=>.inl hk) (fun k hk=>.inl hk) (fun k hk=>(hb1 k hk).imp id fun h=>by simp at h; omega) (fun k hk=>(hb3 k hk).imp id fun h=>by simp at h; omega) (fun k hk=>.inl hk) (fun k hk=>.inl hk)
 simpa [addG] using hfin
end Go.Gm.Tryz
end
section
namespace Go.Gm
@[simp] theorem slK_str {T:Tab} {H:GH} (s:ByteArray) (lo hi:Option Value):slK T (some .str) (.string s) lo hi H=slS s (gbound lo hi s.size) H:=nrfl rfl
@[simp] theorem slK_slice {T:Tab} {H:GH} (e:TypeId) (a:Addr) (n c:Nat) (lo hi:Option Value):slK T (some (.slice e)) (.slice (some a) n c) lo hi H=slE (T.get e) a c (gbound lo hi n) H:=nrfl rfl
@[simp] theorem slK_nil {T:Tab} {H:GH} (e:TypeId) (lo hi:Option Value):slK T (some (.slice e)) (.slice none 0 0) lo hi H=slN (T.get e) (gbound lo hi 0) H:=nrfl rfl
@[simp] theorem gadd_block (a:Addr) (n:Nat):(gadd a n).block=a.block:=rfl
end Go.Gm
namespace Go.Gm.Tryz
open Go.Proofs
section
variable {H H':GH} {N:Nat} {l:BLoc} {b:Book} {sg kn:Nat} {s:Stand} {O:Nat→Prop}
theorem StIn.sub {vl vo vg va vw vf:Value} (h:StIn H N l b sg kn s vl vo vg va vw vf) (hs:Sub H H'):StIn H' N l b sg kn s vl vo vg va vw vf:=h.step (KnStep.of_sub hs h.kl.2 h.kno)
theorem StandIn.sub (h:StandIn H N l b sg kn s O) (hs:Sub H H'):StandIn H' N l b sg kn s O∧Frm O O H H':=by
 obtain ⟨vl,vo,vg,va,vw,vf,h1,h2⟩:=h
 exact StandIn.kstep ⟨_,_,_,_,_,_,h1,h2⟩ (KnStep.of_sub hs h1.kl.2 h1.kno)
end
def evAt (b:Book) (n:Int):Ev:=b.events.getD n.toNat default
def serveS (b:Book):Nat→Stand→Stand
 |0,s=>s
 |n+1,s=>match s.waits with
  | []=>s
  |w::ws=>if freeI b s<waterI b.tbl (evAt b w).system (evAt b w).units then s
   else serveS b n { addG s (evAt b w).person (-1) (evAt b w).system (evAt b w).units with waits:=ws }
def serve (b:Book) (s:Stand):Stand:=serveS b s.waits.length s
structure Wf (b:Book) (s:Stand):Prop where
 w:∀n∈s.waits,0≤n∧n<b.events.length
 len:s.grants.length+s.waits.length≤100
 last:s.last.length=s.grants.length
 own:s.owners.length≤100
 ev:b.events.length≤100
 fe:s.fell.length≤s.grants.countP (fun x=>decide (x.is=3))
theorem serveS_wf {b:Book}:∀ {n:Nat} {s:Stand},Wf b s→Wf b (serveS b n s):=by
 intro n
 induction n with
 |zero=>intro s h; exact h
 |succ n ih=>
  intro s h
  simp only [serveS]
  cases hws:s.waits with
  |nil=>exact h
  |cons w ws=>
   simp only
   split
   ·exact h
   ·refine ih ⟨fun n hn=>h.w n (by rw [hws]; exact List.mem_cons_of_mem _ hn),?_,?_,h.own,h.ev,?_⟩
    ·have:=h.len
     simp [hws] at this
     simp [addG]; omega
    ·have:=h.last
     simp [addG]; omega
    ·have:=h.fe
     simpa [addG] using this
theorem serve_wf {b:Book} {s:Stand} (h:Wf b s):Wf b (serve b s):=serveS_wf h
def opens (s:Stand):Nat:=s.grants.countP fun x=>decide (x.is=2)
theorem serveS_opens {b:Book}:∀ {n:Nat} {s:Stand},opens (serveS b n s)=opens s:=by
 intro n
 induction n with
 |zero=>intro s; rfl
 |succ n ih=>
  intro s
  simp only [serveS]
  cases hws:s.waits with
  |nil=>rfl
  |cons w ws=>
   simp only
   split
   ·rfl
   ·rw [ih]; simp [opens,addG]
theorem serve_opens {b:Book} {s:Stand}:opens (serve b s)=opens s:=serveS_opens
theorem serve_con {H:GH} {N:Nat} {l:BLoc} {b:Book} {sg kn:Nat} {s:Stand} {O:Nat→Prop} (h:StandIn H N l b sg kn s O) (hw:Wf b s):
  GCall Tryz.prog 74 [.pointer (some (ga sg 0 0))] H fun x H'=>x=.ret (.tuple #[])∧∃O',Frm O O' H H'∧StandIn H' N l b sg kn (serve b s) O':=by
 rcases l with ⟨⟨⟨ra,rf⟩⟩,⟨oa,of'⟩,⟨va',vf'⟩⟩
 refine gcall_wp tok mix fok74 (F:=g74) (c:=_) rfl (n:=47) rfl (rs:= []) rfl ?_
 simp
 refine wp_loop tok mix (by kernel_rfl) (fun k ρ m H1=>∃s1 O1,k=s1.waits.length∧ρ 0=.pointer (some (ga sg 0 0))∧m= []∧Frm O O1 H H1∧StandIn H1 N ⟨⟨⟨ra,rf⟩⟩,⟨oa,of'⟩,⟨va',vf'⟩⟩ b sg kn s1 O1∧serveS b k s1=serve b s∧Wf b s1) ⟨s,O,rfl,by simp,rfl,Frm.refl (fun g hg=>(h.lt g hg).2),h,rfl,hw⟩ ?_
 rintro k ρ m H1 ⟨s1,O1,rfl,e0,rfl,hf,h1,hsv,hw1⟩
 have h1':=h1
 obtain ⟨vl,vo,vg,va,vw,vf,h1,hO⟩:=h1
 have hg:=h1.g
 have hsl:=h1.sgl.2
 obtain ⟨aw,fw,rfl,hE⟩:=h1.waits.elems (fun _=>rfl)
 simp (disch:=omega) [e0,hg]
 cases hws:s1.waits with
 |nil=>
  simp
  rw [hws] at hsv
  exact ⟨O1,hf,by rw [←hsv]; exact h1'⟩
 |cons w ws=>
  have hpos:(0:Int)<(ws.length:Int)+1:=by omega
  obtain ⟨aw,rfl,hwl,hwr⟩:=hE.at 0 (by rw [hws]; simp)
  have hw0:s1.waits[0]'(by rw [hws]; simp)=w:=by simp [hws]
  rw [hw0] at hwr
  obtain ⟨hwn0,hwn1⟩:=hw1.w w (by rw [hws]; simp)
  obtain ⟨av,rfl,hvl,hvr⟩:=h1.book.events.at w.toNat (by omega)
  have hev:evAt b w=b.events[w.toNat]:=getD_at (by omega)
  have hlw:s1.waits.length=ws.length+1:=by rw [hws]; rfl
  simp (disch:=omega) [hlw,e0,hg,hwr,hvr]
  generalize hH2:GH.put _ _ _=H2
  have hs2:Sub H1 H2:=by subst hH2; exact (Sub.push (.refl H1) _).put (Nat.le_refl _) _
  have hb2:H2.get H1.next=some (.arr { cells:=encEv (evAt b w),ty:=54 }):=by subst hH2; rw [hev]; simp
  have hl2:H1.next<H2.next:=by subst hH2; simp
  clear hH2
  have h2:=h1.sub hs2
  rw [←hev]
  refine (water_con h2 (evAt b w).system (evAt b w).units).mono ?_
  rintro x H3 ⟨rfl,hk3⟩
  have h3:=h2.step hk3
  simp (disch:=omega) [e0]
  refine (free_con h3 (by have:=hw1.len; omega)).mono ?_
  rintro x H4 ⟨rfl,hk4⟩
  have h4:=h3.step hk4
  have hknl:=h1.kl.2
  have hne:H1.next≠kn:=by omega
  have hl3:=hk3.next
  have hl4:=hk4.next
  have hb3:=(hk3.same _ hl2 hne).trans hb2
  have hb4:=(hk4.same _ (by omega) hne).trans hb3
  have hf4:Frm O1 O1 H1 H4:=by
   have:=StandIn.kstep ⟨_,_,_,_,_,_,h1,hO⟩ ((KnStep.of_sub hs2 h1.kl.2 h1.kno).trans (hk3.trans hk4))
   exact this.2
  simp
  refine wpB_bool (fun h5=>?_) (fun h5=>?_)<;>(try simp only [decide_eq_true_eq,decide_eq_false_iff_not] at h5)
  ·simp
   refine ⟨O1,hf.trans hf4,?_⟩
   have:serve b s=s1:=by rw [←hsv,hlw]; simp only [serveS,hws]; rw [if_pos h5]
   rw [this]
   exact ⟨_,_,_,_,_,_,h4,hO⟩
  ·simp (disch:=omega) [e0,hb4]
   refine (add_con ⟨_,_,_,_,_,_,h4,hO⟩ (by have:=hw1.len; omega) (by have:=hw1.len; have:=hw1.last; omega) _ _ _ _).mono ?_
   rintro x H5 ⟨rfl,O5,hf5,h5'⟩
   obtain ⟨vl5,vo5,vg5,va5,vw5,vf5,h6,hO5⟩:=h5'
   have hg6:=h6.g
   have hw6:=h6.waits
   have hsl6:=h6.sgl.2
   obtain ⟨a6,f6,rfl⟩:=hw6.slice
   have hlw6:(addG s1 (evAt b w).person (-1) (evAt b w).system (evAt b w).units).waits=w::ws:=hws
   rw [hlw6] at hw6
   cases a6 with
   |none=>
    obtain ⟨_,_,h7,h8⟩:=hw6.elems (fun _=>rfl)
    cases h7
    have:=h8.nil rfl
    cases this
   |some a6=>
   obtain ⟨hfl,_,ht6⟩:=hw6.tail (fun _=>rfl)
   subst hfl
   simp (disch:=omega) [e0,hg6,hlw6]
   have c1:(1:Int)≤(ws.length:Int)+1:=by omega
   simp (disch:=omega) [e0,hg6,hlw6,c1]
   have hS6:=h6.upd_waits (x:=ws) (Nat.le_refl _) ht6 (fun k hk hne=>rfl) (fun k hk=>.inl (by simpa [hlw6] using hk))
   simp only [bookC,List.cons_append,List.nil_append,List.length_cons,Nat.add_sub_cancel] at hS6
   have hfin:=StandIn.of h6 hO5 hS6 (by simp) (fun k hk ho=>by
    have ho':=ho
    rw [hO5] at ho'
    rw [GH.get_put_ne _ _ (fun hc=>ho' (.inl hc))]) (fun k hk=>.inl hk) (fun k hk=>.inl hk) (fun k hk=>.inl hk) (fun k hk=>.inl hk) (fun k hk=>.inl (by simpa [hlw6] using hk)) (fun k hk=>.inl hk)
   obtain ⟨O7,hf7,h7⟩:=hfin
   have hlt:freeI b s1≥waterI b.tbl (evAt b w).system (evAt b w).units:=by omega
   refine ⟨ws.length,by omega,_,rfl,O7,((hf.trans hf4).trans hf5).trans hf7,h7,?_,?_⟩
   ·rw [←hsv,hlw]
    simp only [serveS,hws]
    rw [if_neg h5]
   ·refine ⟨fun n hn=>hw1.w n (by rw [hws]; exact List.mem_cons_of_mem _ hn),?_,?_,hw1.own,hw1.ev,?_⟩
    ·have:=hw1.len
     simp [addG]; omega
    ·have:=hw1.last
     simp [addG]; omega
    ·have:=hw1.fe
     simpa [addG] using this
end Go.Gm.Tryz
end
end
