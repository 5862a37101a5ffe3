/-
  (A part of the proof: Env, F, LexA, LexB, LexC, LexD, TokEq, ParseA, ParseB, ParseN, ParseC, ParseD, ParseE, ParseF, ParseG, ParseH, ParseI.)
-/
import Derived.Test.YtmngkfmgnkeclaaGreatDoorVmBC
import Derived.Test.YtmngkfmgnkeclaaGreatDoorVmCA
import Derived.Test.YtmngkfmgnkeclaaGreatDoorVmCB
import Derived.Test.YtmngkfmgnkeclaaGreatDoorVmBH
import Derived.Test.YtmngkfmgnkeclaaGreatDoorVmBE
import Derived.Test.YtmngkfmgnkeclaaGreatDoorVmAJ
import Derived.Test.YtmngkfmgnkeclaaGreatDoorVmBF
import Derived.Test.YtmngkfmgnkeclaaGreatDoorRows
import Derived.KernelRfl
set_option maxRecDepth 1000000
set_option maxHeartbeats 0
set_option linter.unusedSimpArgs false
namespace Go.Proofs.YtmngkfmgnkeclaaGreatDoor.Vm
open Go Go.VM Go.Proofs
abbrev ff:TI:=⟨.func,1,8,[.nilfn],false,false⟩
abbrev G3 (t:TypeId):TI:=⟨(.ptr t),1,8,[.nilp],false,false⟩
abbrev G8 (t:TypeId):TI:=⟨(.slice t),1,24,[.aq],false,false⟩
noncomputable def vT:TT:=(.node none (.node (some ff) (.node (some ⟨(.int .i64),1,8,[.int .i64 0],false,false⟩) (.node (some ⟨(.struct [(0,2),(1,3),(2,4),(3,6)]),4,24,[.int .i64 0,.int .i64 0,(.bool false),.int .u8 0],true,true⟩) (.node (some (G3 203)) (.node (some (G8 38)) (.node (some (G3 65)) (.node (some ⟨(.struct [(0,124),(1,125)]),2,32,[.nilp,.aq],true,true⟩) .leaf .leaf) (.node (some ff) .leaf .leaf)) (.node (some ⟨(.iface false),1,16,[.nili],false,false⟩) (.node (some ⟨(.struct [(0,9),(1,9),(2,96)]),3,48,[(.str []),(.str []),.nili],true,false⟩) .leaf .leaf) (.node none .leaf .leaf))) (.node (some ff) (.node (some ff) (.node (some (G3 160)) .leaf .leaf) (.node (some ff) .leaf .leaf)) (.node (some ff) (.node (some ⟨(.struct [(0,174),(1,174),(2,174)]),3,6,[.int .u16 0,.int .u16 0,.int .u16 0],true,true⟩) .leaf .leaf) (.node none .leaf .leaf)))) (.node (some (G8 36)) (.node (some ff) (.node (some ff) (.node (some ff) .leaf .leaf) (.node (some ff) .leaf .leaf)) (.node (some (G8 9)) (.node (some ⟨.uptr,1,8,[.nilp],false,false⟩) .leaf .leaf) (.node none .leaf .leaf))) (.node (some ff) (.node (some ⟨(.map 5 86),1,8,[.nilm],false,false⟩) (.node (some (G8 153)) .leaf .leaf) (.node none .leaf .leaf)) (.node none (.node (some ⟨(.struct [(0,9)]),1,16,[(.str [])],true,true⟩) .leaf .leaf) (.node none .leaf .leaf))))) (.node (some ⟨.str,1,16,[(.str [])],false,false⟩) (.node (some ⟨(.struct [(0,17)]),1,8,[.nilp],true,false⟩) (.node (some ⟨(.struct [(0,30),(2,4),(3,31),(4,34)]),11,144,[.int .i64 0,.int .i64 0,(.bool false),.aq,.int .u8 0,.int .i64 0,.int .i64 0,(.bool false),(.str []),.aq,.aq],true,true⟩) (.node (some ff) (.node (some ff) .leaf .leaf) (.node (some ⟨(.arr 20 130),20,160,[.int .u64 0,.int .u64 0,.int .u64 0,.int .u64 0,.int .u64 0,.int .u64 0,.int .u64 0,.int .u64 0,.int .u64 0,.int .u64 0,.int .u64 0,.int .u64 0,.int .u64 0,.int .u64 0,.int .u64 0,.int .u64 0,.int .u64 0,.int .u64 0,.int .u64 0,.int .u64 0],true,false⟩) .leaf .leaf)) (.node (some ff) (.node (some (G8 166)) .leaf .leaf) (.node none .leaf .leaf))) (.node (some ff) (.node (some ff) (.node (some ff) .leaf .leaf) (.node (some ⟨(.int .i32),1,4,[.int .i32 0],false,false⟩) .leaf .leaf)) (.node (some ⟨(.arr 16 114),32,32,[.int .u8 0,.int .u8 0,.int .u8 0,.int .u8 0,.int .u8 0,.int .u8 0,.int .u8 0,.int .u8 0,.int .u8 0,.int .u8 0,.int .u8 0,.int .u8 0,.int .u8 0,.int .u8 0,.int .u8 0,.int .u8 0,.int .u8 0,.int .u8 0,.int .u8 0,.int .u8 0,.int .u8 0,.int .u8 0,.int .u8 0,.int .u8 0,.int .u8 0,.int .u8 0,.int .u8 0,.int .u8 0,.int .u8 0,.int .u8 0,.int .u8 0,.int .u8 0],true,false⟩) (.node (some ⟨(.struct [(0,154),(1,154),(2,154)]),3,12,[.int .u32 0,.int .u32 0,.int .u32 0],true,true⟩) .leaf .leaf) (.node none .leaf .leaf)))) (.node (some ff) (.node (some ⟨(.struct [(0,5),(1,41),(3,42)]),4,56,[.int .u8 0,.int .u8 0,(.str []),.aq],true,true⟩) (.node (some (G8 76)) (.node (some ff) .leaf .leaf) (.node (some ⟨(.struct [(0,17),(1,17),(2,17),(3,9)]),4,40,[.nilp,.nilp,.nilp,(.str [])],true,false⟩) .leaf .leaf)) (.node (some ff) (.node (some (G8 179)) .leaf .leaf) (.node none .leaf .leaf))) (.node (some ff) (.node (some ff) (.node (some ff) .leaf .leaf) (.node none .leaf .leaf)) (.node (some ff) (.node (some (G3 179)) .leaf .leaf) (.node none .leaf .leaf)))))) (.node (some ⟨(.int .u8),1,1,[.int .u8 0],false,false⟩) (.node (some ⟨.str,1,16,[(.str [])],false,false⟩) (.node (some (G3 214)) (.node (some ⟨(.struct [(0,5),(1,30),(3,4),(4,9),(5,31),(6,32)]),7,96,[.int .u8 0,.int .i64 0,.int .i64 0,(.bool false),(.str []),.aq,.aq],true,true⟩) (.node (some ⟨(.struct [(0,60),(1,3),(2,3)]),3,40,[.aq,.int .i64 0,.int .i64 0],true,true⟩) (.node (some ff) .leaf .leaf) (.node (some ff) .leaf .leaf)) (.node none (.node (some ff) .leaf .leaf) (.node none .leaf .leaf))) (.node (some ⟨(.struct [(0,44),(4,3)]),5,64,[.int .u8 0,.int .u8 0,(.str []),.aq,.int .i64 0],true,true⟩) (.node (some ff) (.node (some ff) .leaf .leaf) (.node (some ⟨(.int .u8),1,1,[.int .u8 0],false,false⟩) .leaf .leaf)) (.node (some ⟨(.struct [(0,5),(1,5)]),2,2,[.int .u8 0,.int .u8 0],true,true⟩) (.node (some ff) .leaf .leaf) (.node none .leaf .leaf)))) (.node none (.node (some ⟨(.struct [(0,5),(1,9)]),2,24,[.int .u8 0,(.str [])],true,true⟩) (.node (some ff) (.node (some (G3 133)) .leaf .leaf) (.node (some ⟨(.arr 64 5),64,64,[.int .u8 0,.int .u8 0,.int .u8 0,.int .u8 0,.int .u8 0,.int .u8 0,.int .u8 0,.int .u8 0,.int .u8 0,.int .u8 0,.int .u8 0,.int .u8 0,.int .u8 0,.int .u8 0,.int .u8 0,.int .u8 0,.int .u8 0,.int .u8 0,.int .u8 0,.int .u8 0,.int .u8 0,.int .u8 0,.int .u8 0,.int .u8 0,.int .u8 0,.int .u8 0,.int .u8 0,.int .u8 0,.int .u8 0,.int .u8 0,.int .u8 0,.int .u8 0,.int .u8 0,.int .u8 0,.int .u8 0,.int .u8 0,.int .u8 0,.int .u8 0,.int .u8 0,.int .u8 0,.int .u8 0,.int .u8 0,.int .u8 0,.int .u8 0,.int .u8 0,.int .u8 0,.int .u8 0,.int .u8 0,.int .u8 0,.int .u8 0,.int .u8 0,.int .u8 0,.int .u8 0,.int .u8 0,.int .u8 0,.int .u8 0,.int .u8 0,.int .u8 0,.int .u8 0,.int .u8 0,.int .u8 0,.int .u8 0,.int .u8 0,.int .u8 0],true,false⟩) .leaf .leaf)) (.node (some ff) (.node (some ff) .leaf .leaf) (.node none .leaf .leaf))) (.node (some ff) (.node (some (G3 34)) (.node (some ⟨(.struct [(0,3),(1,3)]),2,16,[.int .i64 0,.int .i64 0],true,true⟩) .leaf .leaf) (.node none .leaf .leaf)) (.node (some ff) (.node (some ff) .leaf .leaf) (.node none .leaf .leaf))))) (.node (some ⟨(.struct [(0,9),(1,12)]),2,24,[(.str []),.int .u64 0],true,false⟩) (.node (some ⟨(.int .i32),1,4,[.int .i32 0],false,false⟩) (.node (some ⟨(.struct [(0,5),(1,5),(2,30),(4,9),(5,31)]),6,64,[.int .u8 0,.int .u8 0,.int .i64 0,.int .i64 0,(.str []),.aq],true,true⟩) (.node (some ff) (.node (some ⟨(.arr 256 4),256,256,[(.bool false),(.bool false),(.bool false),(.bool false),(.bool false),(.bool false),(.bool false),(.bool false),(.bool false),(.bool false),(.bool false),(.bool false),(.bool false),(.bool false),(.bool false),(.bool false),(.bool false),(.bool false),(.bool false),(.bool false),(.bool false),(.bool false),(.bool false),(.bool false),(.bool false),(.bool false),(.bool false),(.bool false),(.bool false),(.bool false),(.bool false),(.bool false),(.bool false),(.bool false),(.bool false),(.bool false),(.bool false),(.bool false),(.bool false),(.bool false),(.bool false),(.bool false),(.bool false),(.bool false),(.bool false),(.bool false),(.bool false),(.bool false),(.bool false),(.bool false),(.bool false),(.bool false),(.bool false),(.bool false),(.bool false),(.bool false),(.bool false),(.bool false),(.bool false),(.bool false),(.bool false),(.bool false),(.bool false),(.bool false),(.bool false),(.bool false),(.bool false),(.bool false),(.bool false),(.bool false),(.bool false),(.bool false),(.bool false),(.bool false),(.bool false),(.bool false),(.bool false),(.bool false),(.bool false),(.bool false),(.bool false),(.bool false),(.bool false),(.bool false),(.bool false),(.bool false),(.bool false),(.bool false),(.bool false),(.bool false),(.bool false),(.bool false),(.bool false),(.bool false),(.bool false),(.bool false),(.bool false),(.bool false),(.bool false),(.bool false),(.bool false),(.bool false),(.bool false),(.bool false),(.bool false),(.bool false),(.bool false),(.bool false),(.bool false),(.bool false),(.bool false),(.bool false),(.bool false),(.bool false),(.bool false),(.bool false),(.bool false),(.bool false),(.bool false),(.bool false),(.bool false),(.bool false),(.bool false),(.bool false),(.bool false),(.bool false),(.bool false),(.bool false),(.bool false),(.bool false),(.bool false),(.bool false),(.bool false),(.bool false),(.bool false),(.bool false),(.bool false),(.bool false),(.bool false),(.bool false),(.bool false),(.bool false),(.bool false),(.bool false),(.bool false),(.bool false),(.bool false),(.bool false),(.bool false),(.bool false),(.bool false),(.bool false),(.bool false),(.bool false),(.bool false),(.bool false),(.bool false),(.bool false),(.bool false),(.bool false),(.bool false),(.bool false),(.bool false),(.bool false),(.bool false),(.bool false),(.bool false),(.bool false),(.bool false),(.bool false),(.bool false),(.bool false),(.bool false),(.bool false),(.bool false),(.bool false),(.bool false),(.bool false),(.bool false),(.bool false),(.bool false),(.bool false),(.bool false),(.bool false),(.bool false),(.bool false),(.bool false),(.bool false),(.bool false),(.bool false),(.bool false),(.bool false),(.bool false),(.bool false),(.bool false),(.bool false),(.bool false),(.bool false),(.bool false),(.bool false),(.bool false),(.bool false),(.bool false),(.bool false),(.bool false),(.bool false),(.bool false),(.bool false),(.bool false),(.bool false),(.bool false),(.bool false),(.bool false),(.bool false),(.bool false),(.bool false),(.bool false),(.bool false),(.bool false),(.bool false),(.bool false),(.bool false),(.bool false),(.bool false),(.bool false),(.bool false),(.bool false),(.bool false),(.bool false),(.bool false),(.bool false),(.bool false),(.bool false),(.bool false),(.bool false),(.bool false),(.bool false),(.bool false),(.bool false),(.bool false),(.bool false),(.bool false),(.bool false),(.bool false),(.bool false),(.bool false),(.bool false),(.bool false),(.bool false),(.bool false),(.bool false),(.bool false),(.bool false),(.bool false),(.bool false),(.bool false)],true,false⟩) .leaf .leaf) (.node (some ff) .leaf .leaf)) (.node none (.node (some ⟨(.struct [(0,103),(1,4)]),2,32,[.aq,(.bool false)],true,true⟩) .leaf .leaf) (.node none .leaf .leaf))) (.node none (.node (some ff) (.node (some ff) .leaf .leaf) (.node (some ⟨(.struct [(0,12),(1,12),(2,154),(3,208),(4,5),(5,5),(6,209),(7,210),(8,148),(9,211),(10,212)]),11,48,[.int .u64 0,.int .u64 0,.int .u32 0,.int .u8 0,.int .u8 0,.int .u8 0,.int .u8 0,.nilfn,.nilp,.int .i32 0,.int .i32 0],true,false⟩) .leaf .leaf)) (.node (some ff) (.node (some ff) .leaf .leaf) (.node none .leaf .leaf)))) (.node (some ⟨(.struct [(0,3),(1,3)]),2,16,[.int .i64 0,.int .i64 0],true,true⟩) (.node none (.node none (.node none .leaf .leaf) (.node (some ⟨(.struct [(0,204)]),0,0,[],true,false⟩) .leaf .leaf)) (.node (some ff) (.node (some ⟨(.struct [(0,170),(1,171),(2,3)]),3,56,[.aq,.aq,.int .i64 0],true,true⟩) .leaf .leaf) (.node none .leaf .leaf))) (.node none (.node (some ⟨(.map 9 5),1,8,[.nilm],false,false⟩) (.node none .leaf .leaf) (.node none .leaf .leaf)) (.node (some (G8 5)) (.node (some ⟨(.arr 24 5),24,24,[.int .u8 0,.int .u8 0,.int .u8 0,.int .u8 0,.int .u8 0,.int .u8 0,.int .u8 0,.int .u8 0,.int .u8 0,.int .u8 0,.int .u8 0,.int .u8 0,.int .u8 0,.int .u8 0,.int .u8 0,.int .u8 0,.int .u8 0,.int .u8 0,.int .u8 0,.int .u8 0,.int .u8 0,.int .u8 0,.int .u8 0,.int .u8 0],true,false⟩) .leaf .leaf) (.node none .leaf .leaf))))))) (.node (some ⟨(.int .i64),1,8,[.int .i64 0],false,false⟩) (.node (some ⟨.bool,1,1,[(.bool false)],false,false⟩) (.node (some ⟨(.struct [(0,2),(1,3),(2,4),(3,6)]),4,24,[.int .i64 0,.int .i64 0,(.bool false),.int .u8 0],true,true⟩) (.node (some (G3 206)) (.node (some (G8 34)) (.node (some ⟨(.struct [(0,60),(1,3),(2,3)]),3,40,[.aq,.int .i64 0,.int .i64 0],true,true⟩) (.node (some ff) .leaf .leaf) (.node none .leaf .leaf)) (.node (some ⟨(.iface false),1,16,[.nili],false,false⟩) (.node (some ⟨(.struct [(0,9),(1,9),(2,96)]),3,48,[(.str []),(.str []),.nili],true,false⟩) .leaf .leaf) (.node none .leaf .leaf))) (.node (some (G8 50)) (.node (some ff) (.node (some ff) .leaf .leaf) (.node (some ⟨(.int .u8),1,1,[.int .u8 0],false,false⟩) .leaf .leaf)) (.node (some ⟨(.arr 256 5),256,256,[.int .u8 0,.int .u8 0,.int .u8 0,.int .u8 0,.int .u8 0,.int .u8 0,.int .u8 0,.int .u8 0,.int .u8 0,.int .u8 0,.int .u8 0,.int .u8 0,.int .u8 0,.int .u8 0,.int .u8 0,.int .u8 0,.int .u8 0,.int .u8 0,.int .u8 0,.int .u8 0,.int .u8 0,.int .u8 0,.int .u8 0,.int .u8 0,.int .u8 0,.int .u8 0,.int .u8 0,.int .u8 0,.int .u8 0,.int .u8 0,.int .u8 0,.int .u8 0,.int .u8 0,.int .u8 0,.int .u8 0,.int .u8 0,.int .u8 0,.int .u8 0,.int .u8 0,.int .u8 0,.int .u8 0,.int .u8 0,.int .u8 0,.int .u8 0,.int .u8 0,.int .u8 0,.int .u8 0,.int .u8 0,.int .u8 0,.int .u8 0,.int .u8 0,.int .u8 0,.int .u8 0,.int .u8 0,.int .u8 0,.int .u8 0,.int .u8 0,.int .u8 0,.int .u8 0,.int .u8 0,.int .u8 0,.int .u8 0,.int .u8 0,.int .u8 0,.int .u8 0,.int .u8 0,.int .u8 0,.int .u8 0,.int .u8 0,.int .u8 0,.int .u8 0,.int .u8 0,.int .u8 0,.int .u8 0,.int .u8 0,.int .u8 0,.int .u8 0,.int .u8 0,.int .u8 0,.int .u8 0,.int .u8 0,.int .u8 0,.int .u8 0,.int .u8 0,.int .u8 0,.int .u8 0,.int .u8 0,.int .u8 0,.int .u8 0,.int .u8 0,.int .u8 0,.int .u8 0,.int .u8 0,.int .u8 0,.int .u8 0,.int .u8 0,.int .u8 0,.int .u8 0,.int .u8 0,.int .u8 0,.int .u8 0,.int .u8 0,.int .u8 0,.int .u8 0,.int .u8 0,.int .u8 0,.int .u8 0,.int .u8 0,.int .u8 0,.int .u8 0,.int .u8 0,.int .u8 0,.int .u8 0,.int .u8 0,.int .u8 0,.int .u8 0,.int .u8 0,.int .u8 0,.int .u8 0,.int .u8 0,.int .u8 0,.int .u8 0,.int .u8 0,.int .u8 0,.int .u8 0,.int .u8 0,.int .u8 0,.int .u8 0,.int .u8 0,.int .u8 0,.int .u8 0,.int .u8 0,.int .u8 0,.int .u8 0,.int .u8 0,.int .u8 0,.int .u8 0,.int .u8 0,.int .u8 0,.int .u8 0,.int .u8 0,.int .u8 0,.int .u8 0,.int .u8 0,.int .u8 0,.int .u8 0,.int .u8 0,.int .u8 0,.int .u8 0,.int .u8 0,.int .u8 0,.int .u8 0,.int .u8 0,.int .u8 0,.int .u8 0,.int .u8 0,.int .u8 0,.int .u8 0,.int .u8 0,.int .u8 0,.int .u8 0,.int .u8 0,.int .u8 0,.int .u8 0,.int .u8 0,.int .u8 0,.int .u8 0,.int .u8 0,.int .u8 0,.int .u8 0,.int .u8 0,.int .u8 0,.int .u8 0,.int .u8 0,.int .u8 0,.int .u8 0,.int .u8 0,.int .u8 0,.int .u8 0,.int .u8 0,.int .u8 0,.int .u8 0,.int .u8 0,.int .u8 0,.int .u8 0,.int .u8 0,.int .u8 0,.int .u8 0,.int .u8 0,.int .u8 0,.int .u8 0,.int .u8 0,.int .u8 0,.int .u8 0,.int .u8 0,.int .u8 0,.int .u8 0,.int .u8 0,.int .u8 0,.int .u8 0,.int .u8 0,.int .u8 0,.int .u8 0,.int .u8 0,.int .u8 0,.int .u8 0,.int .u8 0,.int .u8 0,.int .u8 0,.int .u8 0,.int .u8 0,.int .u8 0,.int .u8 0,.int .u8 0,.int .u8 0,.int .u8 0,.int .u8 0,.int .u8 0,.int .u8 0,.int .u8 0,.int .u8 0,.int .u8 0,.int .u8 0,.int .u8 0,.int .u8 0,.int .u8 0,.int .u8 0,.int .u8 0,.int .u8 0,.int .u8 0,.int .u8 0,.int .u8 0,.int .u8 0,.int .u8 0,.int .u8 0,.int .u8 0,.int .u8 0,.int .u8 0,.int .u8 0,.int .u8 0,.int .u8 0,.int .u8 0,.int .u8 0,.int .u8 0,.int .u8 0,.int .u8 0,.int .u8 0,.int .u8 0,.int .u8 0,.int .u8 0,.int .u8 0,.int .u8 0,.int .u8 0,.int .u8 0,.int .u8 0,.int .u8 0],true,false⟩) (.node (some ⟨(.struct [(0,174),(1,174),(2,174)]),3,6,[.int .u16 0,.int .u16 0,.int .u16 0],true,true⟩) .leaf .leaf) (.node none .leaf .leaf)))) (.node (some ⟨(.int .i64),1,8,[.int .i64 0],false,false⟩) (.node (some ⟨(.struct [(0,5),(1,9)]),2,24,[.int .u8 0,(.str [])],true,true⟩) (.node (some ff) (.node (some ff) .leaf .leaf) (.node (some ⟨(.arr 32 5),32,32,[.int .u8 0,.int .u8 0,.int .u8 0,.int .u8 0,.int .u8 0,.int .u8 0,.int .u8 0,.int .u8 0,.int .u8 0,.int .u8 0,.int .u8 0,.int .u8 0,.int .u8 0,.int .u8 0,.int .u8 0,.int .u8 0,.int .u8 0,.int .u8 0,.int .u8 0,.int .u8 0,.int .u8 0,.int .u8 0,.int .u8 0,.int .u8 0,.int .u8 0,.int .u8 0,.int .u8 0,.int .u8 0,.int .u8 0,.int .u8 0,.int .u8 0,.int .u8 0],true,false⟩) .leaf .leaf)) (.node (some ff) (.node (some ff) .leaf .leaf) (.node none .leaf .leaf))) (.node (some ff) (.node (some ff) (.node (some ⟨(.struct [(0,3),(1,3)]),2,16,[.int .i64 0,.int .i64 0],true,true⟩) .leaf .leaf) (.node none .leaf .leaf)) (.node (some ff) (.node (some ⟨(.struct [(0,9)]),1,16,[(.str [])],true,true⟩) .leaf .leaf) (.node none .leaf .leaf))))) (.node (some ⟨(.int .u64),1,8,[.int .u64 0],false,false⟩) (.node (some ⟨(.iface true),1,16,[.nili],false,false⟩) (.node (some ⟨(.struct [(0,30),(2,4),(3,31),(4,34)]),11,144,[.int .i64 0,.int .i64 0,(.bool false),.aq,.int .u8 0,.int .i64 0,.int .i64 0,(.bool false),(.str []),.aq,.aq],true,true⟩) (.node (some ff) (.node (some ⟨(.arr 256 4),256,256,[(.bool false),(.bool false),(.bool false),(.bool false),(.bool false),(.bool false),(.bool false),(.bool false),(.bool false),(.bool false),(.bool false),(.bool false),(.bool false),(.bool false),(.bool false),(.bool false),(.bool false),(.bool false),(.bool false),(.bool false),(.bool false),(.bool false),(.bool false),(.bool false),(.bool false),(.bool false),(.bool false),(.bool false),(.bool false),(.bool false),(.bool false),(.bool false),(.bool false),(.bool false),(.bool false),(.bool false),(.bool false),(.bool false),(.bool false),(.bool false),(.bool false),(.bool false),(.bool false),(.bool false),(.bool false),(.bool false),(.bool false),(.bool false),(.bool false),(.bool false),(.bool false),(.bool false),(.bool false),(.bool false),(.bool false),(.bool false),(.bool false),(.bool false),(.bool false),(.bool false),(.bool false),(.bool false),(.bool false),(.bool false),(.bool false),(.bool false),(.bool false),(.bool false),(.bool false),(.bool false),(.bool false),(.bool false),(.bool false),(.bool false),(.bool false),(.bool false),(.bool false),(.bool false),(.bool false),(.bool false),(.bool false),(.bool false),(.bool false),(.bool false),(.bool false),(.bool false),(.bool false),(.bool false),(.bool false),(.bool false),(.bool false),(.bool false),(.bool false),(.bool false),(.bool false),(.bool false),(.bool false),(.bool false),(.bool false),(.bool false),(.bool false),(.bool false),(.bool false),(.bool false),(.bool false),(.bool false),(.bool false),(.bool false),(.bool false),(.bool false),(.bool false),(.bool false),(.bool false),(.bool false),(.bool false),(.bool false),(.bool false),(.bool false),(.bool false),(.bool false),(.bool false),(.bool false),(.bool false),(.bool false),(.bool false),(.bool false),(.bool false),(.bool false),(.bool false),(.bool false),(.bool false),(.bool false),(.bool false),(.bool false),(.bool false),(.bool false),(.bool false),(.bool false),(.bool false),(.bool false),(.bool false),(.bool false),(.bool false),(.bool false),(.bool false),(.bool false),(.bool false),(.bool false),(.bool false),(.bool false),(.bool false),(.bool false),(.bool false),(.bool false),(.bool false),(.bool false),(.bool false),(.bool false),(.bool false),(.bool false),(.bool false),(.bool false),(.bool false),(.bool false),(.bool false),(.bool false),(.bool false),(.bool false),(.bool false),(.bool false),(.bool false),(.bool false),(.bool false),(.bool false),(.bool false),(.bool false),(.bool false),(.bool false),(.bool false),(.bool false),(.bool false),(.bool false),(.bool false),(.bool false),(.bool false),(.bool false),(.bool false),(.bool false),(.bool false),(.bool false),(.bool false),(.bool false),(.bool false),(.bool false),(.bool false),(.bool false),(.bool false),(.bool false),(.bool false),(.bool false),(.bool false),(.bool false),(.bool false),(.bool false),(.bool false),(.bool false),(.bool false),(.bool false),(.bool false),(.bool false),(.bool false),(.bool false),(.bool false),(.bool false),(.bool false),(.bool false),(.bool false),(.bool false),(.bool false),(.bool false),(.bool false),(.bool false),(.bool false),(.bool false),(.bool false),(.bool false),(.bool false),(.bool false),(.bool false),(.bool false),(.bool false),(.bool false),(.bool false),(.bool false),(.bool false),(.bool false),(.bool false),(.bool false),(.bool false),(.bool false),(.bool false),(.bool false),(.bool false),(.bool false),(.bool false),(.bool false),(.bool false),(.bool false),(.bool false),(.bool false),(.bool false),(.bool false),(.bool false),(.bool false),(.bool false),(.bool false)],true,false⟩) .leaf .leaf) (.node (some ⟨(.arr 65 5),65,65,[.int .u8 0,.int .u8 0,.int .u8 0,.int .u8 0,.int .u8 0,.int .u8 0,.int .u8 0,.int .u8 0,.int .u8 0,.int .u8 0,.int .u8 0,.int .u8 0,.int .u8 0,.int .u8 0,.int .u8 0,.int .u8 0,.int .u8 0,.int .u8 0,.int .u8 0,.int .u8 0,.int .u8 0,.int .u8 0,.int .u8 0,.int .u8 0,.int .u8 0,.int .u8 0,.int .u8 0,.int .u8 0,.int .u8 0,.int .u8 0,.int .u8 0,.int .u8 0,.int .u8 0,.int .u8 0,.int .u8 0,.int .u8 0,.int .u8 0,.int .u8 0,.int .u8 0,.int .u8 0,.int .u8 0,.int .u8 0,.int .u8 0,.int .u8 0,.int .u8 0,.int .u8 0,.int .u8 0,.int .u8 0,.int .u8 0,.int .u8 0,.int .u8 0,.int .u8 0,.int .u8 0,.int .u8 0,.int .u8 0,.int .u8 0,.int .u8 0,.int .u8 0,.int .u8 0,.int .u8 0,.int .u8 0,.int .u8 0,.int .u8 0,.int .u8 0,.int .u8 0],true,false⟩) .leaf .leaf)) (.node (some ff) (.node (some ff) .leaf .leaf) (.node none .leaf .leaf))) (.node (some ff) (.node none (.node (some (G3 5)) .leaf .leaf) (.node (some ⟨(.int .i32),1,4,[.int .i32 0],false,false⟩) .leaf .leaf)) (.node (some ⟨(.int .u64),1,8,[.int .u64 0],false,false⟩) (.node (some ff) .leaf .leaf) (.node none .leaf .leaf)))) (.node (some ff) (.node (some ⟨(.struct [(0,5),(1,41),(3,42)]),4,56,[.int .u8 0,.int .u8 0,(.str []),.aq],true,true⟩) (.node (some ff) (.node (some ⟨(.int .i64),1,8,[.int .i64 0],false,false⟩) .leaf .leaf) (.node (some ⟨(.arr 0 16),0,0,[],true,false⟩) .leaf .leaf)) (.node (some ff) (.node (some ⟨(.struct [(0,170),(1,171),(2,3)]),3,56,[.aq,.aq,.int .i64 0],true,true⟩) .leaf .leaf) (.node none .leaf .leaf))) (.node (some (G8 41)) (.node none (.node (some (G3 173)) .leaf .leaf) (.node none .leaf .leaf)) (.node (some (G3 127)) (.node (some ff) .leaf .leaf) (.node none .leaf .leaf)))))) (.node (some ⟨(.int .u8),1,1,[.int .u8 0],false,false⟩) (.node (some ⟨.str,1,16,[(.str [])],false,false⟩) (.node (some ⟨(.struct [(0,17)]),1,8,[.nilp],true,false⟩) (.node (some ⟨(.struct [(0,5),(1,30),(3,4),(4,9),(5,31),(6,32)]),7,96,[.int .u8 0,.int .i64 0,.int .i64 0,(.bool false),(.str []),.aq,.aq],true,true⟩) (.node (some ff) (.node (some ⟨(.int .u64),1,8,[.int .u64 0],false,false⟩) .leaf .leaf) (.node (some ff) .leaf .leaf)) (.node (some ff) (.node (some ff) .leaf .leaf) (.node none .leaf .leaf))) (.node (some ⟨(.struct [(0,44),(4,3)]),5,64,[.int .u8 0,.int .u8 0,(.str []),.aq,.int .i64 0],true,true⟩) (.node (some ff) (.node (some ff) .leaf .leaf) (.node (some ff) .leaf .leaf)) (.node (some ⟨(.struct [(0,5),(1,5)]),2,2,[.int .u8 0,.int .u8 0],true,true⟩) (.node (some ⟨(.struct [(0,154),(1,154),(2,154)]),3,12,[.int .u32 0,.int .u32 0,.int .u32 0],true,true⟩) .leaf .leaf) (.node none .leaf .leaf)))) (.node (some ff) (.node (some (G8 44)) (.node (some ff) (.node (some ff) .leaf .leaf) (.node (some ⟨(.struct [(0,17),(1,17),(2,17),(3,9)]),4,40,[.nilp,.nilp,.nilp,(.str [])],true,false⟩) .leaf .leaf)) (.node (some ff) (.node (some (G8 176)) .leaf .leaf) (.node none .leaf .leaf))) (.node (some ff) (.node (some ff) (.node (some ⟨(.int .u32),1,4,[.int .u32 0],false,false⟩) .leaf .leaf) (.node none .leaf .leaf)) (.node (some ff) (.node (some (G3 176)) .leaf .leaf) (.node none .leaf .leaf))))) (.node (some ⟨(.struct [(0,9),(1,12)]),2,24,[(.str []),.int .u64 0],true,false⟩) (.node (some ff) (.node (some ⟨(.struct [(0,5),(1,5),(2,30),(4,9),(5,31)]),6,64,[.int .u8 0,.int .u8 0,.int .i64 0,.int .i64 0,(.str []),.aq],true,true⟩) (.node (some ff) (.node none .leaf .leaf) (.node (some ff) .leaf .leaf)) (.node (some ff) (.node (some ⟨(.struct [(0,103),(1,4)]),2,32,[.aq,(.bool false)],true,true⟩) .leaf .leaf) (.node none .leaf .leaf))) (.node (some ff) (.node (some ff) (.node (some ff) .leaf .leaf) (.node (some ⟨(.struct [(0,12),(1,12),(2,154),(3,208),(4,5),(5,5),(6,209),(7,210),(8,148),(9,211),(10,212)]),11,48,[.int .u64 0,.int .u64 0,.int .u32 0,.int .u8 0,.int .u8 0,.int .u8 0,.int .u8 0,.nilfn,.nilp,.int .i32 0,.int .i32 0],true,false⟩) .leaf .leaf)) (.node (some ff) (.node (some (G3 184)) .leaf .leaf) (.node none .leaf .leaf)))) (.node (some ⟨(.struct [(0,3),(1,3)]),2,16,[.int .i64 0,.int .i64 0],true,true⟩) (.node (some ff) (.node none (.node (some ff) .leaf .leaf) (.node (some ⟨(.struct [(0,204)]),0,0,[],true,false⟩) .leaf .leaf)) (.node (some ff) (.node (some ⟨(.int .u16),1,2,[.int .u16 0],false,false⟩) .leaf .leaf) (.node none .leaf .leaf))) (.node (some ff) (.node (some ff) (.node (some ff) .leaf .leaf) (.node none .leaf .leaf)) (.node (some ⟨(.struct [(0,124),(1,125)]),2,32,[.nilp,.aq],true,true⟩) (.node (some ff) .leaf .leaf) (.node none .leaf .leaf))))))))
theorem P9:vy Tryz.prog vT:=Qz (d:=8) (by kernel_rfl)
noncomputable def vF:Tr Func:=(.node none (.node none (.node (some Tryz.f3) (.node (some Tryz.f7) (.node (some Tryz.f15) (.node (some Tryz.f31) (.node (some Tryz.f63) (.node none .leaf .leaf) .leaf) (.node none (.node none .leaf .leaf) .leaf)) (.node (some Tryz.f47) (.node none (.node none .leaf .leaf) .leaf) (.node none .leaf .leaf))) (.node (some Tryz.f23) (.node (some Tryz.f39) (.node none (.node none .leaf .leaf) .leaf) (.node (some Tryz.f103) (.node none .leaf .leaf) .leaf)) (.node (some Tryz.f55) (.node none (.node none .leaf .leaf) .leaf) (.node none .leaf .leaf)))) (.node (some Tryz.f11) (.node (some Tryz.f19) (.node (some Tryz.f35) (.node (some Tryz.f67) (.node none .leaf .leaf) .leaf) (.node none (.node none .leaf .leaf) .leaf)) (.node (some Tryz.f51) (.node (some Tryz.f83) (.node none .leaf .leaf) .leaf) (.node none .leaf .leaf))) (.node (some Tryz.f27) (.node (some Tryz.f43) (.node none (.node none .leaf .leaf) .leaf) (.node none (.node none .leaf .leaf) .leaf)) (.node (some Tryz.f59) (.node none (.node none .leaf .leaf) .leaf) (.node none .leaf .leaf))))) (.node (some Tryz.f5) (.node (some Tryz.f9) (.node (some Tryz.f17) (.node (some Tryz.f33) (.node (some Tryz.f65) (.node none .leaf .leaf) .leaf) (.node none (.node none .leaf .leaf) .leaf)) (.node none (.node (some Tryz.f81) (.node none .leaf .leaf) .leaf) (.node (some Tryz.f113) .leaf .leaf))) (.node (some Tryz.f25) (.node (some Tryz.f41) (.node (some Tryz.f73) (.node none .leaf .leaf) .leaf) (.node none (.node none .leaf .leaf) .leaf)) (.node (some Tryz.f57) (.node none (.node none .leaf .leaf) .leaf) (.node none .leaf .leaf)))) (.node (some Tryz.f13) (.node (some Tryz.f21) (.node (some Tryz.f37) (.node (some Tryz.f69) (.node none .leaf .leaf) .leaf) (.node (some Tryz.f101) (.node none .leaf .leaf) .leaf)) (.node (some Tryz.f53) (.node (some Tryz.f85) (.node none .leaf .leaf) .leaf) (.node none .leaf .leaf))) (.node (some Tryz.f29) (.node none (.node (some Tryz.f77) (.node none .leaf .leaf) .leaf) (.node none .leaf .leaf)) (.node (some Tryz.f61) (.node none (.node none .leaf .leaf) .leaf) (.node none .leaf .leaf)))))) (.node none (.node (some Tryz.f4) (.node (some Tryz.f8) (.node (some Tryz.f16) (.node (some Tryz.f32) (.node (some Tryz.f64) (.node none .leaf .leaf) .leaf) (.node none (.node none .leaf .leaf) .leaf)) (.node (some Tryz.f48) (.node (some Tryz.f80) (.node none .leaf .leaf) .leaf) (.node none .leaf .leaf))) (.node (some Tryz.f24) (.node (some Tryz.f40) (.node none (.node none .leaf .leaf) .leaf) (.node (some Tryz.f104) (.node none .leaf .leaf) .leaf)) (.node (some Tryz.f56) (.node none (.node none .leaf .leaf) .leaf) (.node none .leaf .leaf)))) (.node (some Tryz.f12) (.node (some Tryz.f20) (.node (some Tryz.f36) (.node (some Tryz.f68) (.node none .leaf .leaf) .leaf) (.node none (.node none .leaf .leaf) .leaf)) (.node (some Tryz.f52) (.node (some Tryz.f84) (.node none .leaf .leaf) .leaf) (.node none .leaf .leaf))) (.node (some Tryz.f28) (.node (some Tryz.f44) (.node none (.node none .leaf .leaf) .leaf) (.node none (.node none .leaf .leaf) .leaf)) (.node (some Tryz.f60) (.node none (.node none .leaf .leaf) .leaf) (.node none .leaf .leaf))))) (.node (some Tryz.f6) (.node (some Tryz.f10) (.node (some Tryz.f18) (.node (some Tryz.f34) (.node (some Tryz.f66) (.node none .leaf .leaf) .leaf) (.node none (.node none .leaf .leaf) .leaf)) (.node (some Tryz.f50) (.node (some Tryz.f82) (.node none .leaf .leaf) .leaf) (.node (some Tryz.f114) .leaf .leaf))) (.node (some Tryz.f26) (.node (some Tryz.f42) (.node (some Tryz.f74) (.node none .leaf .leaf) .leaf) (.node none (.node none .leaf .leaf) .leaf)) (.node (some Tryz.f58) (.node none (.node none .leaf .leaf) .leaf) (.node none .leaf .leaf)))) (.node (some Tryz.f14) (.node (some Tryz.f22) (.node (some Tryz.f38) (.node (some Tryz.f70) (.node none .leaf .leaf) .leaf) (.node (some Tryz.f102) (.node none .leaf .leaf) .leaf)) (.node (some Tryz.f54) (.node (some Tryz.f86) (.node none .leaf .leaf) .leaf) (.node none .leaf .leaf))) (.node (some Tryz.f30) (.node (some Tryz.f46) (.node (some Tryz.f78) (.node none .leaf .leaf) .leaf) (.node none .leaf .leaf)) (.node (some Tryz.f62) (.node none (.node none .leaf .leaf) .leaf) (.node none .leaf .leaf)))))))
theorem Qb:Tr.qP (N1 Tryz.prog) vF:=(Tr.ab ca (Tr.ab ca (Tr.ab (cB Tryz.func3 Tryz.call3 (by kernel_rfl)) (Tr.ab (cB Tryz.func7 Tryz.call7 (by kernel_rfl)) (Tr.ab (cB Tryz.func15 Tryz.call15 (by kernel_rfl)) (Tr.ab (cB Tryz.func31 Tryz.call31 (by kernel_rfl)) (Tr.ab (cB Tryz.func63 Tryz.call63 (by kernel_rfl)) (Tr.ab ca Tr.aa Tr.aa) Tr.aa) (Tr.ab ca (Tr.ab ca Tr.aa Tr.aa) Tr.aa)) (Tr.ab (cB Tryz.func47 Tryz.call47 (by kernel_rfl)) (Tr.ab ca (Tr.ab ca Tr.aa Tr.aa) Tr.aa) (Tr.ab ca Tr.aa Tr.aa))) (Tr.ab (cB Tryz.func23 Tryz.call23 (by kernel_rfl)) (Tr.ab (cB Tryz.func39 Tryz.call39 (by kernel_rfl)) (Tr.ab ca (Tr.ab ca Tr.aa Tr.aa) Tr.aa) (Tr.ab (cB Tryz.func103 Tryz.call103 (by kernel_rfl)) (Tr.ab ca Tr.aa Tr.aa) Tr.aa)) (Tr.ab (cB Tryz.func55 Tryz.call55 (by kernel_rfl)) (Tr.ab ca (Tr.ab ca Tr.aa Tr.aa) Tr.aa) (Tr.ab ca Tr.aa Tr.aa)))) (Tr.ab (cB Tryz.func11 Tryz.call11 (by kernel_rfl)) (Tr.ab (cB Tryz.func19 Tryz.call19 (by kernel_rfl)) (Tr.ab (cB Tryz.func35 Tryz.call35 (by kernel_rfl)) (Tr.ab (cB Tryz.func67 Tryz.call67 (by kernel_rfl)) (Tr.ab ca Tr.aa Tr.aa) Tr.aa) (Tr.ab ca (Tr.ab ca Tr.aa Tr.aa) Tr.aa)) (Tr.ab (cB Tryz.func51 Tryz.call51 (by kernel_rfl)) (Tr.ab (cB Tryz.func83 Tryz.call83 (by kernel_rfl)) (Tr.ab ca Tr.aa Tr.aa) Tr.aa) (Tr.ab ca Tr.aa Tr.aa))) (Tr.ab (cB Tryz.func27 Tryz.call27 (by kernel_rfl)) (Tr.ab (cB Tryz.func43 Tryz.call43 (by kernel_rfl)) (Tr.ab ca (Tr.ab ca Tr.aa Tr.aa) Tr.aa) (Tr.ab ca (Tr.ab ca Tr.aa Tr.aa) Tr.aa)) (Tr.ab (cB Tryz.func59 Tryz.call59 (by kernel_rfl)) (Tr.ab ca (Tr.ab ca Tr.aa Tr.aa) Tr.aa) (Tr.ab ca Tr.aa Tr.aa))))) (Tr.ab (cB Tryz.func5 Tryz.call5 (by kernel_rfl)) (Tr.ab (cB Tryz.func9 Tryz.call9 (by kernel_rfl)) (Tr.ab (cB Tryz.func17 Tryz.call17 (by kernel_rfl)) (Tr.ab (cB Tryz.func33 Tryz.call33 (by kernel_rfl)) (Tr.ab (cB Tryz.func65 Tryz.call65 (by kernel_rfl)) (Tr.ab ca Tr.aa Tr.aa) Tr.aa) (Tr.ab ca (Tr.ab ca Tr.aa Tr.aa) Tr.aa)) (Tr.ab ca (Tr.ab (cB Tryz.func81 Tryz.call81 (by kernel_rfl)) (Tr.ab ca Tr.aa Tr.aa) Tr.aa) (Tr.ab (cB Tryz.func113 Tryz.call113 (by kernel_rfl)) Tr.aa Tr.aa))) (Tr.ab (cB Tryz.func25 Tryz.call25 (by kernel_rfl)) (Tr.ab (cB Tryz.func41 Tryz.call41 (by kernel_rfl)) (Tr.ab (cB Tryz.func73 Tryz.call73 (by kernel_rfl)) (Tr.ab ca Tr.aa Tr.aa) Tr.aa) (Tr.ab ca (Tr.ab ca Tr.aa Tr.aa) Tr.aa)) (Tr.ab (cB Tryz.func57 Tryz.call57 (by kernel_rfl)) (Tr.ab ca (Tr.ab ca Tr.aa Tr.aa) Tr.aa) (Tr.ab ca Tr.aa Tr.aa)))) (Tr.ab (cB Tryz.func13 Tryz.call13 (by kernel_rfl)) (Tr.ab (cB Tryz.func21 Tryz.call21 (by kernel_rfl)) (Tr.ab (cB Tryz.func37 Tryz.call37 (by kernel_rfl)) (Tr.ab (cB Tryz.func69 Tryz.call69 (by kernel_rfl)) (Tr.ab ca Tr.aa Tr.aa) Tr.aa) (Tr.ab (cB Tryz.func101 Tryz.call101 (by kernel_rfl)) (Tr.ab ca Tr.aa Tr.aa) Tr.aa)) (Tr.ab (cB Tryz.func53 Tryz.call53 (by kernel_rfl)) (Tr.ab (cB Tryz.func85 Tryz.call85 (by kernel_rfl)) (Tr.ab ca Tr.aa Tr.aa) Tr.aa) (Tr.ab ca Tr.aa Tr.aa))) (Tr.ab (cB Tryz.func29 Tryz.call29 (by kernel_rfl)) (Tr.ab ca (Tr.ab (cB Tryz.func77 Tryz.call77 (by kernel_rfl)) (Tr.ab ca Tr.aa Tr.aa) Tr.aa) (Tr.ab ca Tr.aa Tr.aa)) (Tr.ab (cB Tryz.func61 Tryz.call61 (by kernel_rfl)) (Tr.ab ca (Tr.ab ca Tr.aa Tr.aa) Tr.aa) (Tr.ab ca Tr.aa Tr.aa)))))) (Tr.ab ca (Tr.ab (cB Tryz.func4 Tryz.call4 (by kernel_rfl)) (Tr.ab (cB Tryz.func8 Tryz.call8 (by kernel_rfl)) (Tr.ab (cB Tryz.func16 Tryz.call16 (by kernel_rfl)) (Tr.ab (cB Tryz.func32 Tryz.call32 (by kernel_rfl)) (Tr.ab (cB Tryz.func64 Tryz.call64 (by kernel_rfl)) (Tr.ab ca Tr.aa Tr.aa) Tr.aa) (Tr.ab ca (Tr.ab ca Tr.aa Tr.aa) Tr.aa)) (Tr.ab (cB Tryz.func48 Tryz.call48 (by kernel_rfl)) (Tr.ab (cB Tryz.func80 Tryz.call80 (by kernel_rfl)) (Tr.ab ca Tr.aa Tr.aa) Tr.aa) (Tr.ab ca Tr.aa Tr.aa))) (Tr.ab (cB Tryz.func24 Tryz.call24 (by kernel_rfl)) (Tr.ab (cB Tryz.func40 Tryz.call40 (by kernel_rfl)) (Tr.ab ca (Tr.ab ca Tr.aa Tr.aa) Tr.aa) (Tr.ab (cB Tryz.func104 Tryz.call104 (by kernel_rfl)) (Tr.ab ca Tr.aa Tr.aa) Tr.aa)) (Tr.ab (cB Tryz.func56 Tryz.call56 (by kernel_rfl)) (Tr.ab ca (Tr.ab ca Tr.aa Tr.aa) Tr.aa) (Tr.ab ca Tr.aa Tr.aa)))) (Tr.ab (cB Tryz.func12 Tryz.call12 (by kernel_rfl)) (Tr.ab (cB Tryz.func20 Tryz.call20 (by kernel_rfl)) (Tr.ab (cB Tryz.func36 Tryz.call36 (by kernel_rfl)) (Tr.ab (cB Tryz.func68 Tryz.call68 (by kernel_rfl)) (Tr.ab ca Tr.aa Tr.aa) Tr.aa) (Tr.ab ca (Tr.ab ca Tr.aa Tr.aa) Tr.aa)) (Tr.ab (cB Tryz.func52 Tryz.call52 (by kernel_rfl)) (Tr.ab (cB Tryz.func84 Tryz.call84 (by kernel_rfl)) (Tr.ab ca Tr.aa Tr.aa) Tr.aa) (Tr.ab ca Tr.aa Tr.aa))) (Tr.ab (cB Tryz.func28 Tryz.call28 (by kernel_rfl)) (Tr.ab (cB Tryz.func44 Tryz.call44 (by kernel_rfl)) (Tr.ab ca (Tr.ab ca Tr.aa Tr.aa) Tr.aa) (Tr.ab ca (Tr.ab ca Tr.aa Tr.aa) Tr.aa)) (Tr.ab (cB Tryz.func60 Tryz.call60 (by kernel_rfl)) (Tr.ab ca (Tr.ab ca Tr.aa Tr.aa) Tr.aa) (Tr.ab ca Tr.aa Tr.aa))))) (Tr.ab (cB Tryz.func6 Tryz.call6 (by kernel_rfl)) (Tr.ab (cB Tryz.func10 Tryz.call10 (by kernel_rfl)) (Tr.ab (cB Tryz.func18 Tryz.call18 (by kernel_rfl)) (Tr.ab (cB Tryz.func34 Tryz.call34 (by kernel_rfl)) (Tr.ab (cB Tryz.func66 Tryz.call66 (by kernel_rfl)) (Tr.ab ca Tr.aa Tr.aa) Tr.aa) (Tr.ab ca (Tr.ab ca Tr.aa Tr.aa) Tr.aa)) (Tr.ab (cB Tryz.func50 Tryz.call50 (by kernel_rfl)) (Tr.ab (cB Tryz.func82 Tryz.call82 (by kernel_rfl)) (Tr.ab ca Tr.aa Tr.aa) Tr.aa) (Tr.ab (cB Tryz.func114 Tryz.call114 (by kernel_rfl)) Tr.aa Tr.aa))) (Tr.ab (cB Tryz.func26 Tryz.call26 (by kernel_rfl)) (Tr.ab (cB Tryz.func42 Tryz.call42 (by kernel_rfl)) (Tr.ab (cB Tryz.func74 Tryz.call74 (by kernel_rfl)) (Tr.ab ca Tr.aa Tr.aa) Tr.aa) (Tr.ab ca (Tr.ab ca Tr.aa Tr.aa) Tr.aa)) (Tr.ab (cB Tryz.func58 Tryz.call58 (by kernel_rfl)) (Tr.ab ca (Tr.ab ca Tr.aa Tr.aa) Tr.aa) (Tr.ab ca Tr.aa Tr.aa)))) (Tr.ab (cB Tryz.func14 Tryz.call14 (by kernel_rfl)) (Tr.ab (cB Tryz.func22 Tryz.call22 (by kernel_rfl)) (Tr.ab (cB Tryz.func38 Tryz.call38 (by kernel_rfl)) (Tr.ab (cB Tryz.func70 Tryz.call70 (by kernel_rfl)) (Tr.ab ca Tr.aa Tr.aa) Tr.aa) (Tr.ab (cB Tryz.func102 Tryz.call102 (by kernel_rfl)) (Tr.ab ca Tr.aa Tr.aa) Tr.aa)) (Tr.ab (cB Tryz.func54 Tryz.call54 (by kernel_rfl)) (Tr.ab (cB Tryz.func86 Tryz.call86 (by kernel_rfl)) (Tr.ab ca Tr.aa Tr.aa) Tr.aa) (Tr.ab ca Tr.aa Tr.aa))) (Tr.ab (cB Tryz.func30 Tryz.call30 (by kernel_rfl)) (Tr.ab (cB Tryz.func46 Tryz.call46 (by kernel_rfl)) (Tr.ab (cB Tryz.func78 Tryz.call78 (by kernel_rfl)) (Tr.ab ca Tr.aa Tr.aa) Tr.aa) (Tr.ab ca Tr.aa Tr.aa)) (Tr.ab (cB Tryz.func62 Tryz.call62 (by kernel_rfl)) (Tr.ab ca (Tr.ab ca Tr.aa Tr.aa) Tr.aa) (Tr.ab ca Tr.aa Tr.aa)))))))
noncomputable def vP:Tr Prim:=(.node none (.node none (.node none (.node none (.node none (.node none (.node none (.node none .leaf .leaf) .leaf) (.node none (.node none .leaf .leaf) .leaf)) (.node none (.node (some (.lib jl)) (.node none .leaf .leaf) .leaf) (.node none .leaf .leaf))) (.node none (.node none (.node none (.node none .leaf .leaf) .leaf) (.node none (.node none .leaf .leaf) .leaf)) (.node none (.node (some (.builderString 5)) (.node none .leaf .leaf) .leaf) (.node none .leaf .leaf)))) (.node none (.node none (.node none (.node none (.node none .leaf .leaf) .leaf) (.node (some .indexByte) (.node none .leaf .leaf) .leaf)) (.node none (.node none (.node none .leaf .leaf) .leaf) (.node none .leaf .leaf))) (.node none (.node none (.node none (.node none .leaf .leaf) .leaf) (.node none (.node none .leaf .leaf) .leaf)) (.node none (.node none (.node none .leaf .leaf) .leaf) (.node none .leaf .leaf))))) (.node none (.node none (.node none (.node none (.node none (.node none .leaf .leaf) .leaf) (.node none (.node none .leaf .leaf) .leaf)) (.node (some (.lib (iX 143))) (.node none (.node none .leaf .leaf) .leaf) (.node none .leaf .leaf))) (.node none (.node none (.node none (.node none .leaf .leaf) .leaf) (.node (some (.copyCheck [(126,2,0),(127,2,0)])) (.node none .leaf .leaf) .leaf)) (.node none (.node none (.node none .leaf .leaf) .leaf) (.node none .leaf .leaf)))) (.node none (.node none (.node none (.node none (.node none .leaf .leaf) .leaf) (.node none (.node none .leaf .leaf) .leaf)) (.node none (.node none (.node none .leaf .leaf) .leaf) (.node none .leaf .leaf))) (.node none (.node (some (.lib lF)) (.node none (.node none .leaf .leaf) .leaf) (.node none .leaf .leaf)) (.node none (.node none (.node none .leaf .leaf) .leaf) (.node none .leaf .leaf)))))) (.node none (.node none (.node none (.node none (.node none (.node none (.node none .leaf .leaf) .leaf) (.node none (.node none .leaf .leaf) .leaf)) (.node none (.node none (.node none .leaf .leaf) .leaf) (.node none .leaf .leaf))) (.node none (.node none (.node (some (.lib gL)) (.node none .leaf .leaf) .leaf) (.node none (.node none .leaf .leaf) .leaf)) (.node none (.node none (.node none .leaf .leaf) .leaf) (.node none .leaf .leaf)))) (.node none (.node none (.node none (.node none (.node none .leaf .leaf) .leaf) (.node none (.node none .leaf .leaf) .leaf)) (.node none (.node none (.node none .leaf .leaf) .leaf) (.node none .leaf .leaf))) (.node none (.node none (.node none (.node none .leaf .leaf) .leaf) (.node none (.node none .leaf .leaf) .leaf)) (.node none (.node none (.node none .leaf .leaf) .leaf) (.node none .leaf .leaf))))) (.node none (.node none (.node none (.node none (.node none (.node none .leaf .leaf) .leaf) (.node none (.node none .leaf .leaf) .leaf)) (.node none (.node none (.node none .leaf .leaf) .leaf) (.node none .leaf .leaf))) (.node none (.node none (.node none (.node none .leaf .leaf) .leaf) (.node none (.node none .leaf .leaf) .leaf)) (.node none (.node none (.node none .leaf .leaf) .leaf) (.node none .leaf .leaf)))) (.node none (.node none (.node none (.node none (.node none .leaf .leaf) .leaf) (.node none (.node none .leaf .leaf) .leaf)) (.node none (.node none (.node none .leaf .leaf) .leaf) (.node none .leaf .leaf))) (.node none (.node none (.node none (.node none .leaf .leaf) .leaf) (.node none .leaf .leaf)) (.node none (.node none (.node none .leaf .leaf) .leaf) (.node none .leaf .leaf)))))))
noncomputable def vG:Tr (List AV):=(.node (some [.int .u8 240,.int .u8 240,.int .u8 240,.int .u8 240,.int .u8 240,.int .u8 240,.int .u8 240,.int .u8 240,.int .u8 240,.int .u8 240,.int .u8 240,.int .u8 240,.int .u8 240,.int .u8 240,.int .u8 240,.int .u8 240,.int .u8 240,.int .u8 240,.int .u8 240,.int .u8 240,.int .u8 240,.int .u8 240,.int .u8 240,.int .u8 240,.int .u8 240,.int .u8 240,.int .u8 240,.int .u8 240,.int .u8 240,.int .u8 240,.int .u8 240,.int .u8 240,.int .u8 240,.int .u8 240,.int .u8 240,.int .u8 240,.int .u8 240,.int .u8 240,.int .u8 240,.int .u8 240,.int .u8 240,.int .u8 240,.int .u8 240,.int .u8 240,.int .u8 240,.int .u8 240,.int .u8 240,.int .u8 240,.int .u8 240,.int .u8 240,.int .u8 240,.int .u8 240,.int .u8 240,.int .u8 240,.int .u8 240,.int .u8 240,.int .u8 240,.int .u8 240,.int .u8 240,.int .u8 240,.int .u8 240,.int .u8 240,.int .u8 240,.int .u8 240,.int .u8 240,.int .u8 240,.int .u8 240,.int .u8 240,.int .u8 240,.int .u8 240,.int .u8 240,.int .u8 240,.int .u8 240,.int .u8 240,.int .u8 240,.int .u8 240,.int .u8 240,.int .u8 240,.int .u8 240,.int .u8 240,.int .u8 240,.int .u8 240,.int .u8 240,.int .u8 240,.int .u8 240,.int .u8 240,.int .u8 240,.int .u8 240,.int .u8 240,.int .u8 240,.int .u8 240,.int .u8 240,.int .u8 240,.int .u8 240,.int .u8 240,.int .u8 240,.int .u8 240,.int .u8 240,.int .u8 240,.int .u8 240,.int .u8 240,.int .u8 240,.int .u8 240,.int .u8 240,.int .u8 240,.int .u8 240,.int .u8 240,.int .u8 240,.int .u8 240,.int .u8 240,.int .u8 240,.int .u8 240,.int .u8 240,.int .u8 240,.int .u8 240,.int .u8 240,.int .u8 240,.int .u8 240,.int .u8 240,.int .u8 240,.int .u8 240,.int .u8 240,.int .u8 240,.int .u8 240,.int .u8 240,.int .u8 240,.int .u8 240,.int .u8 240,.int .u8 241,.int .u8 241,.int .u8 241,.int .u8 241,.int .u8 241,.int .u8 241,.int .u8 241,.int .u8 241,.int .u8 241,.int .u8 241,.int .u8 241,.int .u8 241,.int .u8 241,.int .u8 241,.int .u8 241,.int .u8 241,.int .u8 241,.int .u8 241,.int .u8 241,.int .u8 241,.int .u8 241,.int .u8 241,.int .u8 241,.int .u8 241,.int .u8 241,.int .u8 241,.int .u8 241,.int .u8 241,.int .u8 241,.int .u8 241,.int .u8 241,.int .u8 241,.int .u8 241,.int .u8 241,.int .u8 241,.int .u8 241,.int .u8 241,.int .u8 241,.int .u8 241,.int .u8 241,.int .u8 241,.int .u8 241,.int .u8 241,.int .u8 241,.int .u8 241,.int .u8 241,.int .u8 241,.int .u8 241,.int .u8 241,.int .u8 241,.int .u8 241,.int .u8 241,.int .u8 241,.int .u8 241,.int .u8 241,.int .u8 241,.int .u8 241,.int .u8 241,.int .u8 241,.int .u8 241,.int .u8 241,.int .u8 241,.int .u8 241,.int .u8 241,.int .u8 241,.int .u8 241,.int .u8 2,.int .u8 2,.int .u8 2,.int .u8 2,.int .u8 2,.int .u8 2,.int .u8 2,.int .u8 2,.int .u8 2,.int .u8 2,.int .u8 2,.int .u8 2,.int .u8 2,.int .u8 2,.int .u8 2,.int .u8 2,.int .u8 2,.int .u8 2,.int .u8 2,.int .u8 2,.int .u8 2,.int .u8 2,.int .u8 2,.int .u8 2,.int .u8 2,.int .u8 2,.int .u8 2,.int .u8 2,.int .u8 2,.int .u8 2,.int .u8 19,.int .u8 3,.int .u8 3,.int .u8 3,.int .u8 3,.int .u8 3,.int .u8 3,.int .u8 3,.int .u8 3,.int .u8 3,.int .u8 3,.int .u8 3,.int .u8 3,.int .u8 35,.int .u8 3,.int .u8 3,.int .u8 52,.int .u8 4,.int .u8 4,.int .u8 4,.int .u8 68,.int .u8 241,.int .u8 241,.int .u8 241,.int .u8 241,.int .u8 241,.int .u8 241,.int .u8 241,.int .u8 241,.int .u8 241,.int .u8 241,.int .u8 241]) (.node (some [.int .u8 128,.int .u8 191,.int .u8 160,.int .u8 191,.int .u8 128,.int .u8 159,.int .u8 144,.int .u8 191,.int .u8 128,.int .u8 143,.int .u8 0,.int .u8 0,.int .u8 0,.int .u8 0,.int .u8 0,.int .u8 0,.int .u8 0,.int .u8 0,.int .u8 0,.int .u8 0,.int .u8 0,.int .u8 0,.int .u8 0,.int .u8 0,.int .u8 0,.int .u8 0,.int .u8 0,.int .u8 0,.int .u8 0,.int .u8 0,.int .u8 0,.int .u8 0]) (.node none (.node none .leaf .leaf) .leaf) (.node (some [(.opq true)]) (.node none .leaf .leaf) .leaf)) (.node (some [.int .u8 0,.int .u8 0,.int .u8 0,.int .u8 0,.int .u8 0,.int .u8 0,.int .u8 0,.int .u8 0,.int .u8 0,.int .u8 1,.int .u8 1,.int .u8 1,.int .u8 1,.int .u8 1,.int .u8 0,.int .u8 0,.int .u8 0,.int .u8 0,.int .u8 0,.int .u8 0,.int .u8 0,.int .u8 0,.int .u8 0,.int .u8 0,.int .u8 0,.int .u8 0,.int .u8 0,.int .u8 0,.int .u8 0,.int .u8 0,.int .u8 0,.int .u8 0,.int .u8 1,.int .u8 0,.int .u8 0,.int .u8 0,.int .u8 0,.int .u8 0,.int .u8 0,.int .u8 0,.int .u8 0,.int .u8 0,.int .u8 0,.int .u8 0,.int .u8 0,.int .u8 0,.int .u8 0,.int .u8 0,.int .u8 0,.int .u8 0,.int .u8 0,.int .u8 0,.int .u8 0,.int .u8 0,.int .u8 0,.int .u8 0,.int .u8 0,.int .u8 0,.int .u8 0,.int .u8 0,.int .u8 0,.int .u8 0,.int .u8 0,.int .u8 0,.int .u8 0,.int .u8 0,.int .u8 0,.int .u8 0,.int .u8 0,.int .u8 0,.int .u8 0,.int .u8 0,.int .u8 0,.int .u8 0,.int .u8 0,.int .u8 0,.int .u8 0,.int .u8 0,.int .u8 0,.int .u8 0,.int .u8 0,.int .u8 0,.int .u8 0,.int .u8 0,.int .u8 0,.int .u8 0,.int .u8 0,.int .u8 0,.int .u8 0,.int .u8 0,.int .u8 0,.int .u8 0,.int .u8 0,.int .u8 0,.int .u8 0,.int .u8 0,.int .u8 0,.int .u8 0,.int .u8 0,.int .u8 0,.int .u8 0,.int .u8 0,.int .u8 0,.int .u8 0,.int .u8 0,.int .u8 0,.int .u8 0,.int .u8 0,.int .u8 0,.int .u8 0,.int .u8 0,.int .u8 0,.int .u8 0,.int .u8 0,.int .u8 0,.int .u8 0,.int .u8 0,.int .u8 0,.int .u8 0,.int .u8 0,.int .u8 0,.int .u8 0,.int .u8 0,.int .u8 0,.int .u8 0,.int .u8 0,.int .u8 0,.int .u8 0,.int .u8 0,.int .u8 0,.int .u8 0,.int .u8 0,.int .u8 0,.int .u8 0,.int .u8 0,.int .u8 0,.int .u8 0,.int .u8 0,.int .u8 0,.int .u8 0,.int .u8 0,.int .u8 0,.int .u8 0,.int .u8 0,.int .u8 0,.int .u8 0,.int .u8 0,.int .u8 0,.int .u8 0,.int .u8 0,.int .u8 0,.int .u8 0,.int .u8 0,.int .u8 0,.int .u8 0,.int .u8 0,.int .u8 0,.int .u8 0,.int .u8 0,.int .u8 0,.int .u8 0,.int .u8 0,.int .u8 0,.int .u8 0,.int .u8 0,.int .u8 0,.int .u8 0,.int .u8 0,.int .u8 0,.int .u8 0,.int .u8 0,.int .u8 0,.int .u8 0,.int .u8 0,.int .u8 0,.int .u8 0,.int .u8 0,.int .u8 0,.int .u8 0,.int .u8 0,.int .u8 0,.int .u8 0,.int .u8 0,.int .u8 0,.int .u8 0,.int .u8 0,.int .u8 0,.int .u8 0,.int .u8 0,.int .u8 0,.int .u8 0,.int .u8 0,.int .u8 0,.int .u8 0,.int .u8 0,.int .u8 0,.int .u8 0,.int .u8 0,.int .u8 0,.int .u8 0,.int .u8 0,.int .u8 0,.int .u8 0,.int .u8 0,.int .u8 0,.int .u8 0,.int .u8 0,.int .u8 0,.int .u8 0,.int .u8 0,.int .u8 0,.int .u8 0,.int .u8 0,.int .u8 0,.int .u8 0,.int .u8 0,.int .u8 0,.int .u8 0,.int .u8 0,.int .u8 0,.int .u8 0,.int .u8 0,.int .u8 0,.int .u8 0,.int .u8 0,.int .u8 0,.int .u8 0,.int .u8 0,.int .u8 0,.int .u8 0,.int .u8 0,.int .u8 0,.int .u8 0,.int .u8 0,.int .u8 0,.int .u8 0,.int .u8 0,.int .u8 0,.int .u8 0,.int .u8 0,.int .u8 0,.int .u8 0,.int .u8 0,.int .u8 0,.int .u8 0,.int .u8 0,.int .u8 0,.int .u8 0,.int .u8 0,.int .u8 0,.int .u8 0,.int .u8 0,.int .u8 0,.int .u8 0,.int .u8 0,.int .u8 0]) (.node none (.node none .leaf .leaf) .leaf) (.node none (.node none .leaf .leaf) .leaf)))
noncomputable def vI:Tr (List Nat):=(.node none (.node none (.node none (.node none (.node (some [34]) (.node none (.node none (.node none .leaf .leaf) .leaf) (.node none (.node none .leaf .leaf) .leaf)) (.node none (.node none (.node none .leaf .leaf) .leaf) (.node none .leaf .leaf))) (.node (some [44]) (.node none (.node none (.node none .leaf .leaf) .leaf) (.node none (.node none .leaf .leaf) .leaf)) (.node none (.node none (.node none .leaf .leaf) .leaf) (.node none .leaf .leaf)))) (.node (some [50]) (.node none (.node none (.node none (.node none .leaf .leaf) .leaf) (.node none (.node none .leaf .leaf) .leaf)) (.node none (.node none (.node none .leaf .leaf) .leaf) (.node none .leaf .leaf))) (.node (some [41]) (.node (some [41]) (.node none (.node none .leaf .leaf) .leaf) (.node none (.node none .leaf .leaf) .leaf)) (.node none (.node none (.node none .leaf .leaf) .leaf) (.node none .leaf .leaf))))) (.node none (.node none (.node (some [38]) (.node none (.node none (.node none .leaf .leaf) .leaf) (.node none (.node none .leaf .leaf) .leaf)) (.node none (.node none (.node none .leaf .leaf) .leaf) (.node none .leaf .leaf))) (.node (some [50]) (.node none (.node none (.node none .leaf .leaf) .leaf) (.node none (.node none .leaf .leaf) .leaf)) (.node none (.node none (.node none .leaf .leaf) .leaf) (.node none .leaf .leaf)))) (.node (some [50]) (.node none (.node none (.node none (.node none .leaf .leaf) .leaf) (.node none (.node none .leaf .leaf) .leaf)) (.node (some [41]) (.node none (.node none .leaf .leaf) .leaf) (.node none .leaf .leaf))) (.node none (.node none (.node none (.node none .leaf .leaf) .leaf) (.node none .leaf .leaf)) (.node none (.node none (.node none .leaf .leaf) .leaf) (.node none .leaf .leaf)))))) (.node none (.node none (.node (some [34]) (.node none (.node none (.node none (.node none .leaf .leaf) .leaf) (.node none (.node none .leaf .leaf) .leaf)) (.node none (.node none (.node none .leaf .leaf) .leaf) (.node none .leaf .leaf))) (.node none (.node none (.node none (.node none .leaf .leaf) .leaf) (.node none (.node none .leaf .leaf) .leaf)) (.node none (.node none (.node none .leaf .leaf) .leaf) (.node none .leaf .leaf)))) (.node none (.node none (.node none (.node none (.node none .leaf .leaf) .leaf) (.node none (.node none .leaf .leaf) .leaf)) (.node none (.node none (.node none .leaf .leaf) .leaf) (.node none .leaf .leaf))) (.node (some [38]) (.node none (.node none (.node none .leaf .leaf) .leaf) (.node none (.node none .leaf .leaf) .leaf)) (.node none (.node none (.node none .leaf .leaf) .leaf) (.node none .leaf .leaf))))) (.node none (.node (some [44]) (.node none (.node none (.node none (.node none .leaf .leaf) .leaf) (.node none (.node none .leaf .leaf) .leaf)) (.node none (.node none (.node none .leaf .leaf) .leaf) (.node none .leaf .leaf))) (.node (some [44]) (.node (some [50]) (.node none (.node none .leaf .leaf) .leaf) (.node none (.node none .leaf .leaf) .leaf)) (.node none (.node none (.node none .leaf .leaf) .leaf) (.node none .leaf .leaf)))) (.node none (.node (some [44]) (.node none (.node (some [1000031,1000032]) (.node none .leaf .leaf) .leaf) (.node none (.node none .leaf .leaf) .leaf)) (.node none (.node none (.node none .leaf .leaf) .leaf) (.node none .leaf .leaf))) (.node none (.node none (.node none (.node none .leaf .leaf) .leaf) (.node none .leaf .leaf)) (.node none (.node none (.node none .leaf .leaf) .leaf) (.node none .leaf .leaf)))))))
noncomputable def QG:List Nat:=[24,62]
noncomputable def Qn:List Nat:=[]
theorem NZ:eD Tryz.prog vT (fun b=>vG.get b) 45 (.lib lF):=D8 (g3:=0) (g4:=1) Tryz.call45 (fun s w h hT=>Tryz.utf8_ValidString s w h hT) rfl rfl (by kernel_rfl) (by kernel_rfl)
theorem NV:eD Tryz.prog vT (fun b=>vG.get b) 49 (.lib (iX 143)):=GG (g16:=5) (fun w w' h=>by rcases h with rfl | ⟨t,rfl⟩;exact Go.RowKit.Below.refl _ _;exact Lib.bytesWorld_below _ _ _) Tryz.call49 (fun s h1 v h2 w=>Tryz.strconv_Atoi_ok s h1 v h2 w) (fun s h1 h2 ev w h3 h4=>(Tryz.strconv_Atoi_range s h1 h2 ev w h3 h4).mono fun e w' ⟨N,e1,_,_,e2⟩=>⟨N,e1,e2⟩) rfl
theorem ON:eD Tryz.prog vT (fun b=>vG.get b) 72 (.lib gL):=yu Tryz.call72 fun s c w h1 h2=>Tryz.strings_TrimLeft s c w h1 h2
theorem N2:eD Tryz.prog vT (fun b=>vG.get b) 79 (.lib jl):=Bm (g3:=0) (g4:=1) Tryz.call79 (fun s w hT=>Tryz.utf8_DecodeRuneInString s w hT) rfl rfl (by kernel_rfl) (by kernel_rfl)
theorem Nb:eD Tryz.prog vT (fun b=>vG.get b) 87 (.builderString 5):=rT ⟨Tryz.call87,KS (by kernel_rfl),xN,DP⟩
theorem OH:eD Tryz.prog vT (fun b=>vG.get b) 99 .indexByte:=wu (fun s c w=>by
 rw [run_callFunc_extern Tryz.func99 (by kernel_rfl) (by kernel_rfl) (by kernel_rfl) (e:=Extern.BytealgIndexByte.indexByte) (by kernel_rfl),Lib.run_indexByteString]
 rfl)
theorem JV:eD Tryz.prog vT (fun b=>vG.get b) 105 (.copyCheck [(126,2,0),(127,2,0)]):=xX ⟨Tryz.call105,Jr,fun b o w e n h1 h2 h3 h4 h5=>GZ b o w e n h1 h2 h3 h4 (J7 (by kernel_rfl) h5)⟩
theorem PO:Tr.qP (fun f q=>eD Tryz.prog vT (fun b=>vG.get b) f q) vP:=(Tr.ab ay (Tr.ab ay (Tr.ab ay (Tr.ab ay (Tr.ab ay (Tr.ab ay (Tr.ab ay (Tr.ab ay Tr.aa Tr.aa) Tr.aa) (Tr.ab ay (Tr.ab ay Tr.aa Tr.aa) Tr.aa)) (Tr.ab ay (Tr.ab (nV N2) (Tr.ab ay Tr.aa Tr.aa) Tr.aa) (Tr.ab ay Tr.aa Tr.aa))) (Tr.ab ay (Tr.ab ay (Tr.ab ay (Tr.ab ay Tr.aa Tr.aa) Tr.aa) (Tr.ab ay (Tr.ab ay Tr.aa Tr.aa) Tr.aa)) (Tr.ab ay (Tr.ab (nV Nb) (Tr.ab ay Tr.aa Tr.aa) Tr.aa) (Tr.ab ay Tr.aa Tr.aa)))) (Tr.ab ay (Tr.ab ay (Tr.ab ay (Tr.ab ay (Tr.ab ay Tr.aa Tr.aa) Tr.aa) (Tr.ab (nV OH) (Tr.ab ay Tr.aa Tr.aa) Tr.aa)) (Tr.ab ay (Tr.ab ay (Tr.ab ay Tr.aa Tr.aa) Tr.aa) (Tr.ab ay Tr.aa Tr.aa))) (Tr.ab ay (Tr.ab ay (Tr.ab ay (Tr.ab ay Tr.aa Tr.aa) Tr.aa) (Tr.ab ay (Tr.ab ay Tr.aa Tr.aa) Tr.aa)) (Tr.ab ay (Tr.ab ay (Tr.ab ay Tr.aa Tr.aa) Tr.aa) (Tr.ab ay Tr.aa Tr.aa))))) (Tr.ab ay (Tr.ab ay (Tr.ab ay (Tr.ab ay (Tr.ab ay (Tr.ab ay Tr.aa Tr.aa) Tr.aa) (Tr.ab ay (Tr.ab ay Tr.aa Tr.aa) Tr.aa)) (Tr.ab (nV NV) (Tr.ab ay (Tr.ab ay Tr.aa Tr.aa) Tr.aa) (Tr.ab ay Tr.aa Tr.aa))) (Tr.ab ay (Tr.ab ay (Tr.ab ay (Tr.ab ay Tr.aa Tr.aa) Tr.aa) (Tr.ab (nV JV) (Tr.ab ay Tr.aa Tr.aa) Tr.aa)) (Tr.ab ay (Tr.ab ay (Tr.ab ay Tr.aa Tr.aa) Tr.aa) (Tr.ab ay Tr.aa Tr.aa)))) (Tr.ab ay (Tr.ab ay (Tr.ab ay (Tr.ab ay (Tr.ab ay Tr.aa Tr.aa) Tr.aa) (Tr.ab ay (Tr.ab ay Tr.aa Tr.aa) Tr.aa)) (Tr.ab ay (Tr.ab ay (Tr.ab ay Tr.aa Tr.aa) Tr.aa) (Tr.ab ay Tr.aa Tr.aa))) (Tr.ab ay (Tr.ab (nV NZ) (Tr.ab ay (Tr.ab ay Tr.aa Tr.aa) Tr.aa) (Tr.ab ay Tr.aa Tr.aa)) (Tr.ab ay (Tr.ab ay (Tr.ab ay Tr.aa Tr.aa) Tr.aa) (Tr.ab ay Tr.aa Tr.aa)))))) (Tr.ab ay (Tr.ab ay (Tr.ab ay (Tr.ab ay (Tr.ab ay (Tr.ab ay (Tr.ab ay Tr.aa Tr.aa) Tr.aa) (Tr.ab ay (Tr.ab ay Tr.aa Tr.aa) Tr.aa)) (Tr.ab ay (Tr.ab ay (Tr.ab ay Tr.aa Tr.aa) Tr.aa) (Tr.ab ay Tr.aa Tr.aa))) (Tr.ab ay (Tr.ab ay (Tr.ab (nV ON) (Tr.ab ay Tr.aa Tr.aa) Tr.aa) (Tr.ab ay (Tr.ab ay Tr.aa Tr.aa) Tr.aa)) (Tr.ab ay (Tr.ab ay (Tr.ab ay Tr.aa Tr.aa) Tr.aa) (Tr.ab ay Tr.aa Tr.aa)))) (Tr.ab ay (Tr.ab ay (Tr.ab ay (Tr.ab ay (Tr.ab ay Tr.aa Tr.aa) Tr.aa) (Tr.ab ay (Tr.ab ay Tr.aa Tr.aa) Tr.aa)) (Tr.ab ay (Tr.ab ay (Tr.ab ay Tr.aa Tr.aa) Tr.aa) (Tr.ab ay Tr.aa Tr.aa))) (Tr.ab ay (Tr.ab ay (Tr.ab ay (Tr.ab ay Tr.aa Tr.aa) Tr.aa) (Tr.ab ay (Tr.ab ay Tr.aa Tr.aa) Tr.aa)) (Tr.ab ay (Tr.ab ay (Tr.ab ay Tr.aa Tr.aa) Tr.aa) (Tr.ab ay Tr.aa Tr.aa))))) (Tr.ab ay (Tr.ab ay (Tr.ab ay (Tr.ab ay (Tr.ab ay (Tr.ab ay Tr.aa Tr.aa) Tr.aa) (Tr.ab ay (Tr.ab ay Tr.aa Tr.aa) Tr.aa)) (Tr.ab ay (Tr.ab ay (Tr.ab ay Tr.aa Tr.aa) Tr.aa) (Tr.ab ay Tr.aa Tr.aa))) (Tr.ab ay (Tr.ab ay (Tr.ab ay (Tr.ab ay Tr.aa Tr.aa) Tr.aa) (Tr.ab ay (Tr.ab ay Tr.aa Tr.aa) Tr.aa)) (Tr.ab ay (Tr.ab ay (Tr.ab ay Tr.aa Tr.aa) Tr.aa) (Tr.ab ay Tr.aa Tr.aa)))) (Tr.ab ay (Tr.ab ay (Tr.ab ay (Tr.ab ay (Tr.ab ay Tr.aa Tr.aa) Tr.aa) (Tr.ab ay (Tr.ab ay Tr.aa Tr.aa) Tr.aa)) (Tr.ab ay (Tr.ab ay (Tr.ab ay Tr.aa Tr.aa) Tr.aa) (Tr.ab ay Tr.aa Tr.aa))) (Tr.ab ay (Tr.ab ay (Tr.ab ay (Tr.ab ay Tr.aa Tr.aa) Tr.aa) (Tr.ab ay Tr.aa Tr.aa)) (Tr.ab ay (Tr.ab ay (Tr.ab ay Tr.aa Tr.aa) Tr.aa) (Tr.ab ay Tr.aa Tr.aa)))))))
noncomputable def vE:Env where
 T:=vT
 F i:=vF.get i
 prim i:=vP.get i
 full i:=QG.any fun j=>i.beq j
 isLook i:=Qn.any fun j=>i.beq j
 imm f t:=match vI.get f with
  | some l=>l.any fun j=>t.beq j
  | none=>false
 G b:=vG.get b
 memo _:=[]
theorem QD:yT Tryz.prog vE:=⟨P9,fun f fn h=>Tr.lq vF _ Qb f fn h,GI fun f q h=>Tr.lq vP _ PO f q h,by kernel_rfl,(fun _ _ h=>by cases h),fun _ r _ _ h _=>absurd (show (none:Option (List AV→Option AV))=some r from h) (by simp),fun _ r _ _ _ _ h=>absurd (show (none:Option (List AV→St→cV (AV×St)))=some r from h) (by simp)⟩
noncomputable def g9:AV→Option AV:=fun l=>fY l fun m=>ak (aG vE) 19 [.str m] (St.mk 1 0 (Tr.node (some (VM.Obj.cells 44 [.int .u8 0,.int .u8 0,.str [],.aq])) Tr.leaf Tr.leaf)) fun d a _x=>iy d fun n=>da n 0 fun b=>iy d fun o=>da o 1 fun p=>bV .i64 p fun e=>bI (e != 0) (ao (aG vE) 4 (.mp 0 0) (.agg [.int .u8 0,.int .u8 0,.str [],.aq]) [.int .u8 0,.int .u8 0,.str [],.aq] a fun _x f _x_1=>aA 4 true (.mp 0 0) f fun q _x=>aE q fun r s t u=>(iL f 0 (.tup [.agg [.int .u8 r,.int .u8 s,.str t,u],.int .i64 e]) fun v=>some v)) (af b (af b (bP (St.add a (VM.Obj.cells 65 [b,.int .i64 0,.int .i64 0])) fun w=>ak (aG vE) 20 [.mp (St.h a) 0] w fun y z _x=>aE y fun g i j c=>(af c (ao (aG vE) 4 (.mp 0 0) (.agg [.int .u8 g,.int .u8 i,.str j,c]) [.int .u8 g,.int .u8 i,.str j,c] z fun _x k _x_1=>aA 4 true (.mp 0 0) k fun a0 _x=>aE a0 fun a1 a2 a3 a4=>(iL k 0 (.tup [.agg [.int .u8 a1,.int .u8 a2,.str a3,a4],.int .i64 0]) fun a5=>some a5))))))
theorem Qi (x0:AV):cP vE 9 [x0]=g9 x0:=by kernel_rfl
noncomputable def g10:AV→Option AV:=fun d=>aE d fun a e _x c=>(af c (aV c fun f=>aK (bI (a != 2) (bI (a != 3) (bI (a != 1) (some ([.bool true],St.mk 0 0 Tr.leaf)) (some ([.bool (e != 9)],St.mk 0 0 Tr.leaf))) (some ([.bool false],St.mk 0 0 Tr.leaf))) (some ([.bool false],St.mk 0 0 Tr.leaf))) fun b=>bK b.1 fun g h=>du g fun i=>cT h (aK (bI i (ak (aG vE) 21 [f,.fn (Fn.func 22) [] []] b.2 fun j k _x=>du j fun l=>some ([.bool !l],k)) (some ([.bool false],Prod.snd b))) fun m=>bK m.1 fun n o=>du n fun p=>cT o (some (.bool p)))))
theorem M3 (x0:AV):cP vE 10 [x0]=g10 x0:=by kernel_rfl
noncomputable def wW:dK→Option (dK ⊕ Nat×dK):=fun b=>bK b.1 fun c h=>bK h fun i j=>fY i fun a=>bK j fun k l=>bV .i64 k fun d=>cT l (bI (decide (d < 7)) (bZ 1 (.sl 1 [.fn (Fn.func 30) [] [],.fn (Fn.func 31) [] [],.fn (Fn.func 32) [] [],.fn (Fn.func 33) [] [],.fn (Fn.func 34) [] [],.fn (Fn.func 35) [] [],.fn (Fn.func 36) [] []] .shut) d b.2 fun m _x=>aA 1 false m b.2 fun n _x=>jR (aG vE) (Sx.prim (sx vE 19)) n [.str a] b.2 fun f g _x=>iy f fun o=>da o 0 fun p=>bV .u8 p fun q=>iy f fun r=>da r 1 fun s=>bV .i64 s fun e=>bI (decide (e > 0)) (fJ e (List.length a) fun t=>bA (List.drop 0 (List.take t a)) fun u=>gf 2 24 41 c [.agg [.int .u8 q,.str u]] g fun v w _x=>fJ e (List.length a) fun y=>bA (List.drop y (List.take (List.length a) a)) fun z=>some (Sum.inr (0,[v,.str z],w))) (bA (IntKind.wrap .i64 (d+1)) fun a0=>some (Sum.inl ([c,.str a,.int .i64 a0],g)))) (some (Sum.inr (0,[c,.str a],Prod.snd b))))
noncomputable def A4:dK→Option (dK ⊕ Nat×dK):=fun a=>bK a.1 fun b e=>bK e fun f g=>fY f fun c=>cT g (bI (!c==[]) (aK (bu wW ([b,.str c,.int .i64 0],Prod.snd a)) fun d=>bK d.2.1 fun h i=>bK i fun j k=>fY j fun l=>cT k (some (Sum.inl ([h,.str l],Prod.snd d.2)))) (some (Sum.inr (0,[b],Prod.snd a))))
noncomputable def g19:AV→Option AV:=fun c=>fY c fun a=>bI (decide ((↑(List.length a):Int) > 65536)) (some (.tup [.aq,.int .i64 40])) (ak (aG vE) 29 [.str a] (St.mk 0 0 Tr.leaf) fun d e _x=>du d fun f=>bI (!f) (some (.tup [.aq,.int .i64 4])) (aK (bu A4 ([.aq,.str a],e)) fun b=>bK b.2.1 fun g h=>cT h (iL b.2.2 0 (.tup [g,.int .i64 0]) fun i=>some i)))
theorem Eh (x0:AV):cP vE 19 [x0]=g19 x0:=by kernel_rfl
noncomputable def py (e:AV) (g:dK):dK→Option (dK ⊕ Nat×dK):=fun b=>bK b.1 fun i q=>cT q (aK (ct 0 i fun r=>aA 1 false r b.2 fun s _x=>bV .u8 s fun t=>bI (t != 0) (ak (aG vE) 38 [e,.sl 1 [.str [108,101,116]] .shut] b.2 fun u v _x=>du u fun w=>some ([.bool !w],v)) (some ([.bool false],Prod.snd b))) fun c=>bK c.1 fun y z=>du y fun a0=>cT z (bI a0 (aA 1 false (.mp (St.h g.2) 3) c.2 fun a1 a2=>ak (aG vE) 39 [e] c.2 fun a3 a4 j=>aE a3 fun a5 a6 a7 f=>(cQ (apart (Fx.mk a2 gg.kept) j&&(apart (⟨[],.kept⟩) j&&true)) (af f (af f (aV f fun k=>af k (aV k fun a8=>gf 4 56 44 a1 [.agg [.int .u8 a5,.int .u8 a6,.str a7,a8]] a4 fun d a9 _x=>af d (af d (ao (aG vE) 1 (.mp (St.h g.2) 3) d [d] a9 fun _x a _x_1=>aA 2 true i a fun b0 _x=>gU b0 fun l m=>(bP (St.add a (VM.Obj.cells 41 [.int .u8 0,.str []])) fun b1=>ao (aG vE) 2 (.mp (St.h a) 0) (.agg [.int .u8 l,.str m]) [.int .u8 l,.str m] b1 fun _x b2 _x_2=>ak (aG vE) 37 [e] b2 fun n b3 _x=>iy n fun b4=>da b4 0 fun b5=>gU b5 fun o p=>(iy n fun b6=>da b6 1 fun b7=>bV .i64 b7 fun _x=>ao (aG vE) 2 (.mp (St.h a) 0) (.agg [.int .u8 o,.str p]) [.int .u8 o,.str p] b3 fun _x b8 _x_3=>some (Sum.inl ([.mp (St.h a) 0],b8)))))))))))) (some (Sum.inr (0,[],Prod.snd c)))))
noncomputable def rL (b:AV) (k:St):dK→Option (dK ⊕ Nat×dK):=fun a=>bK a.1 fun l z=>cT z (ct 0 l fun a0=>aA 1 false a0 a.2 fun a1 _x=>bV .u8 a1 fun a2=>bI (a2 != 0) (bP (St.add a.2 (VM.Obj.cells 44 [.int .u8 0,.int .u8 0,.str [],.aq])) fun a3=>ak (aG vE) 38 [b,.sl 1 [.str [108,101,116]] .shut] a3 fun a4 m _x=>du a4 fun a5=>aK (bI a5 (ak (aG vE) 39 [b] m fun a6 a7 _x=>aE a6 fun a8 a9 b0 g=>(af g (af g (aV g fun b1=>ak (aG vE) 40 [b] a7 fun b2 b3 _x=>lT b2 fun b4=>pU true b4 fun n=>cQ (tf 4 n) (gf 4 56 44 (.sl 4 [.agg [.int .u8 a8,.int .u8 a9,.str b0,b1]] .shut) n b3 fun d b5 _x=>af d (af d (ao (aG vE) 4 (.mp (St.h a.2) 0) (.agg [.int .u8 5,.int .u8 0,.str [],d]) [.int .u8 5,.int .u8 0,.str [],d] b5 fun _x b6 _x_1=>some ([],b6)))))))) (ao (aG vE) 1 (.mp (St.h a.2) 0) (.int .u8 3) [.int .u8 3] m fun _x b7 _x_1=>ak (aG vE) 37 [b] b7 fun o i _x=>iy o fun b8=>da b8 0 fun b9=>gU b9 fun p q=>(iy o fun c0=>da c0 1 fun c1=>bV .i64 c1 fun _x=>bP (St.add i (VM.Obj.cells 41 [.int .u8 0,.str []])) fun c2=>ao (aG vE) 2 (.mp (St.h i) 0) (.agg [.int .u8 p,.str q]) [.int .u8 p,.str q] c2 fun _x c3 _x_2=>aK (bu (py b a) ([.mp (St.h i) 0],c3)) fun r=>cT r.2.1 (some ([],Prod.snd r.2))))) fun e=>cT e.1 (aA 1 false (.mp (St.h k) 3) e.2 fun c4 _x=>aA 4 true (.mp (St.h a.2) 0) e.2 fun c5 _x=>aE c5 fun c6 c7 c8 j=>(af j (af j (aV j fun s=>af s (aV s fun c9=>gf 4 56 44 c4 [.agg [.int .u8 c6,.int .u8 c7,.str c8,c9]] e.2 fun f d0 _x=>af f (af f (ao (aG vE) 1 (.mp (St.h k) 3) f [f] d0 fun _x c _x_1=>aA 2 true l c fun d1 _x=>gU d1 fun t u=>(bP (St.add c (VM.Obj.cells 41 [.int .u8 0,.str []])) fun d2=>ao (aG vE) 2 (.mp (St.h c) 0) (.agg [.int .u8 t,.str u]) [.int .u8 t,.str u] d2 fun _x d3 _x_2=>ak (aG vE) 37 [b] d3 fun v d4 _x=>iy v fun d5=>da d5 0 fun d6=>gU d6 fun w y=>(iy v fun d7=>da d7 1 fun d8=>bV .i64 d8 fun _x=>ao (aG vE) 2 (.mp (St.h c) 0) (.agg [.int .u8 w,.str y]) [.int .u8 w,.str y] d4 fun _x d9 _x_3=>some (Sum.inl ([.mp (St.h c) 0],d9)))))))))))) (some (Sum.inr (0,[],Prod.snd a))))
noncomputable def RY:AV→St→Option (AV×St):=fun c st=>bP (St.add st (VM.Obj.cells 44 [.int .u8 0,.int .u8 0,.str [],.aq])) fun a=>bP (St.add a (VM.Obj.cells 44 [.int .u8 0,.int .u8 0,.str [],.aq])) fun s=>ao (aG vE) 4 (.mp (St.h a) 0) (.agg [.int .u8 4,.int .u8 0,.str [],.aq]) [.int .u8 4,.int .u8 0,.str [],.aq] s fun _x t _x_1=>ak (aG vE) 37 [c] t fun i d _x=>iy i fun u=>da u 0 fun v=>gU v fun j k=>(iy i fun w=>da w 1 fun y=>bV .i64 y fun _x=>bP (St.add d (VM.Obj.cells 41 [.int .u8 0,.str []])) fun z=>ao (aG vE) 2 (.mp (St.h d) 0) (.agg [.int .u8 j,.str k]) [.int .u8 j,.str k] z fun _x a0 _x_2=>aK (bu (rL c a) ([.mp (St.h d) 0],a0)) fun e=>cT e.2.1 (aA 1 false (.mp (St.h a) 3) e.2.2 fun a1 a2=>ak (aG vE) 39 [c] e.2.2 fun a3 a4 l=>aE a3 fun a5 a6 a7 f=>(cQ (apart (Fx.mk a2 gg.kept) l&&(apart (⟨[],.kept⟩) l&&true)) (af f (af f (aV f fun m=>af m (aV m fun a8=>gf 4 56 44 a1 [.agg [.int .u8 a5,.int .u8 a6,.str a7,a8]] a4 fun b a9 _x=>af b (af b (ao (aG vE) 1 (.mp (St.h a) 3) b [b] a9 fun _x n _x_3=>aA 4 true (.mp (St.h a) 0) n fun b0 _x=>aE b0 fun o p q g=>(af g (ao (aG vE) 4 (.mp (St.h st) 0) (.agg [.int .u8 o,.int .u8 p,.str q,g]) [.int .u8 o,.int .u8 p,.str q,g] n fun _x r _x_4=>aA 4 true (.mp (St.h st) 0) r fun b1 _x=>aE b1 fun b2 b3 b4 b5=>(some (.agg [.int .u8 b2,.int .u8 b3,.str b4,b5],r)))))))))))))
theorem Og (x0:AV) (st:St):ey vE 20 [x0] st=RY x0 st:=by kernel_rfl
noncomputable def g21:AV→AV→Option AV:=fun a b=>ak (aG vE) 41 [a,b] (St.mk 0 0 Tr.leaf) fun c _x _x_1=>bV .i64 c fun d=>some (.bool (decide (d≥0)))
theorem NA (x0 x1:AV):cP vE 21 [x0,x1]=g21 x0 x1:=by kernel_rfl
noncomputable def g22:AV→Option AV:=fun b=>aE b fun c d e a=>(af a (aV a fun f=>ak (aG vE) 10 [.agg [.int .u8 c,.int .u8 d,.str e,f]] (St.mk 0 0 Tr.leaf) fun g _x _x_1=>du g fun h=>some (.bool !h)))
theorem N8 (x0:AV):cP vE 22 [x0]=g22 x0:=by kernel_rfl
noncomputable def Sy:AV→Option AV:=fun a=>fY a fun b=>dF (aG vE) (fu (Prim.lib lF) [.str b]) (St.mk 0 0 Tr.leaf) fun c _x _x_1=>du c fun d=>some (.bool d)
theorem MN (x0:AV):cP vE 29 [x0]=Sy x0:=by kernel_rfl
noncomputable def RR:AV→Option AV:=fun a=>fY a fun b=>ak (aG vE) 46 [.str b,.str [32,9,10,13]] (St.mk 0 0 Tr.leaf) fun c _x _x_1=>bV .i64 c fun d=>some (.tup [.int .u8 1,.int .i64 d])
theorem M0 (x0:AV):cP vE 30 [x0]=RR x0:=by kernel_rfl
noncomputable def mM (a:List UInt8):dK→Option (dK ⊕ Nat×dK):=fun e=>bK e.1 fun m n=>bV .i64 m fun f=>bK n fun o p=>bV .u8 o fun c=>bK p fun q r=>bV .i64 q fun d=>bK r fun s t=>bV .i64 s fun b=>cT t (bI (decide (b < (↑(List.length a):Int))) (fJ b (List.length a) fun u=>bA (List.drop u (List.take (List.length a) a)) fun v=>ak (aG vE) 47 [.str v,.str [40,42]] e.2 fun w h _x=>du w fun y=>aK (bI y (bA (IntKind.wrap .i64 (f+1)) fun z=>bA (IntKind.wrap .i64 (b+2)) fun a0=>some (Sum.inl ([.int .i64 z,.int .u8 c,.int .i64 d,.int .i64 a0],h))) (fJ b (List.length a) fun a1=>bA (List.drop a1 (List.take (List.length a) a)) fun a2=>ak (aG vE) 47 [.str a2,.str [42,41]] h fun a3 g _x=>du a3 fun a4=>aK (bI a4 (bA (IntKind.wrap .i64 (f - 1)) fun i=>bA (IntKind.wrap .i64 (b+2)) fun j=>bI (i==0) (some (Sum.inr (Sum.inr (Sum.inr (1,[.int .u8 2,.int .i64 j],g))))) (some (Sum.inl ([.int .i64 i,.int .u8 c,.int .i64 d,.int .i64 j],g)))) (bA (IntKind.wrap .i64 (b+1)) fun a5=>some (Sum.inl ([.int .i64 f,.int .u8 c,.int .i64 d,.int .i64 a5],g)))) fun a6=>kq a6 fun k=>bK k.1 fun a7 a8=>bV .i64 a7 fun a9=>bK a8 fun b0 b1=>bV .u8 b0 fun b2=>bK b1 fun b3 b4=>bV .i64 b3 fun b5=>bK b4 fun b6 b7=>bV .i64 b6 fun b8=>cT b7 (some (Sum.inl ([.int .i64 a9,.int .u8 b2,.int .i64 b5,.int .i64 b8],Prod.snd k))))) fun b9=>kq b9 fun l=>bK l.1 fun c0 c1=>bV .i64 c0 fun c2=>bK c1 fun c3 c4=>bV .u8 c3 fun c5=>bK c4 fun c6 c7=>bV .i64 c6 fun c8=>bK c7 fun c9 d0=>bV .i64 c9 fun d1=>cT d0 (some (Sum.inl ([.int .i64 c2,.int .u8 c5,.int .i64 c8,.int .i64 d1],Prod.snd l)))) (some (Sum.inr (0,[.int .u8 c,.int .i64 d],Prod.snd e))))
noncomputable def Rh:AV→Option AV:=fun c=>fY c fun a=>ak (aG vE) 47 [.str a,.str [40,42]] (St.mk 0 0 Tr.leaf) fun d e _x=>du d fun f=>bI (!f) (some (.tup [.int .u8 0,.int .i64 0])) (aK (bu (mM a) ([.int .i64 0,.int .u8 0,.int .i64 0,.int .i64 0],e)) fun b=>bK b.2.1 fun g h=>bV .u8 g fun i=>bK h fun j k=>bV .i64 j fun l=>cT k (sH b.1 (some (.tup [.int .u8 9,.int .i64 (↑(List.length a):Int)])) fun _x=>some (.tup [.int .u8 i,.int .i64 l])))
theorem MH (x0:AV):cP vE 31 [x0]=Rh x0:=by kernel_rfl
noncomputable def R5:AV→Option AV:=fun e=>fY e fun a=>cQ (Nat.ble 1 (List.length a)) (bA (List.drop 0 (List.take 1 a)) fun f=>ak (aG vE) 46 [.str f,.str [97,98,99,100,101,102,103,104,105,106,107,108,109,110,111,112,113,114,115,116,117,118,119,120,121,122,95]] (St.mk 0 0 Tr.leaf) fun g h _x=>bV .i64 g fun i=>bI (i==0) (some (.tup [.int .u8 0,.int .i64 0])) (ak (aG vE) 46 [.str a,.str [97,98,99,100,101,102,103,104,105,106,107,108,109,110,111,112,113,114,115,116,117,118,119,120,121,122,95,65,66,67,68,69,70,71,72,73,74,75,76,77,78,79,80,81,82,83,84,85,86,87,88,89,90,39,48,49,50,51,52,53,54,55,56,57]] h fun j k _x=>bV .i64 j fun b=>ak (aG vE) 48 [] k fun l m c=>cQ (apart c (⟨[],.kept⟩)&&true) (cQ (apart c (⟨[],.kept⟩)&&true) (fJ b (List.length a) fun n=>bA (List.drop 0 (List.take n a)) fun o=>cQ (apart c (⟨[],.kept⟩)&&true) (dF (aG vE) (iO (Env.T vE) 93 l (.str o) true) m fun d _x _x_1=>iy d fun p=>da p 0 fun q=>bV .u8 q fun r=>iy d fun s=>da s 1 fun t=>du t fun u=>bI u (some (.tup [.int .u8 r,.int .i64 b])) (some (.tup [.int .u8 4,.int .i64 b])))))))
theorem M5 (x0:AV):cP vE 32 [x0]=R5 x0:=by kernel_rfl
noncomputable def SG:AV→Option AV:=fun w=>fY w fun a=>ak (aG vE) 46 [.str a,.str [48,49,50,51,52,53,54,55,56,57]] (St.mk 0 0 Tr.leaf) fun y h _x=>bV .i64 y fun c=>aK (bI (c==0) (some ([.bool true],h)) (fJ c (List.length a) fun z=>bA (List.drop z (List.take (List.length a) a)) fun l6=>ak (aG vE) 47 [.str l6,.str [46]] h fun v7 a0 _x=>du v7 fun a1=>some ([.bool !a1],a0))) fun i=>bK i.1 fun a2 a3=>du a2 fun a4=>cT a3 (bI a4 (some (.tup [.int .u8 5,.int .i64 c])) (bA (IntKind.wrap .i64 (c+1)) fun a5=>fJ a5 (List.length a) fun a6=>bA (List.drop a6 (List.take (List.length a) a)) fun a7=>ak (aG vE) 46 [.str a7,.str [48,49,50,51,52,53,54,55,56,57]] i.2 fun a8 a9 _x=>bV .i64 a8 fun d=>bA (IntKind.wrap .i64 (c+d)) fun b0=>bA (IntKind.wrap .i64 (c+1)) fun b1=>bA (IntKind.wrap .i64 (b1+d)) fun b=>bA (IntKind.wrap .i64 (b+1)) fun j=>bA (if (↑(List.length a):Int) < j then (↑(List.length a):Int) else j) fun b2=>fJ b2 (List.length a) fun k=>fJ b k fun b3=>bA (List.drop b3 (List.take k a)) fun b4=>ak (aG vE) 46 [.str b4,.str [101,69]] a9 fun b5 l _x=>bV .i64 b5 fun b6=>aK (bI (decide (b6 > 0)) (bA (IntKind.wrap .i64 (b+1)) fun b7=>bA (IntKind.wrap .i64 (b+2)) fun m=>bA (if (↑(List.length a):Int) < m then (↑(List.length a):Int) else m) fun b8=>fJ b8 (List.length a) fun n=>fJ b7 n fun b9=>bA (List.drop b9 (List.take n a)) fun c0=>ak (aG vE) 46 [.str c0,.str [43,45]] l fun c1 c2 _x=>bV .i64 c1 fun f=>bA (IntKind.wrap .i64 (b+1)) fun c3=>bA (IntKind.wrap .i64 (c3+f)) fun c4=>fJ c4 (List.length a) fun c5=>bA (List.drop c5 (List.take (List.length a) a)) fun c6=>ak (aG vE) 46 [.str c6,.str [48,49,50,51,52,53,54,55,56,57]] c2 fun c7 o _x=>bV .i64 c7 fun g=>aK (bI (decide (g > 0)) (bA (IntKind.wrap .i64 (b+1)) fun c8=>bA (IntKind.wrap .i64 (b+1)) fun c9=>bA (IntKind.wrap .i64 (c9+f)) fun d0=>bA (IntKind.wrap .i64 (d0+g)) fun d1=>fJ d1 (List.length a) fun p=>fJ c8 p fun d2=>bA (List.drop d2 (List.take p a)) fun d3=>ak (aG vE) 50 [.str d3,.str [43]] o fun d4 d5 _x=>fY d4 fun d6=>dF (aG vE) (fu (Prim.lib (iX 143)) [.str d6]) d5 fun q r _x=>iy q fun d7=>da d7 0 fun d8=>bV .i64 d8 fun d9=>iy q fun e0=>da e0 1 fun e1=>aK (FW BinOp.neq e1) fun e2=>du e2 fun e3=>aK (bI e3 (some ([.int .i64 1073741824],r)) (some ([.int .i64 d9],r))) fun s=>bK s.1 fun e4 e5=>bV .i64 e4 fun e6=>cT e5 (bA (IntKind.wrap .i64 (b+1)) fun e7=>bA (IntKind.wrap .i64 (e7+f)) fun e8=>bA (IntKind.wrap .i64 (e8+g)) fun e9=>some ([.int .i64 e9,.int .i64 e6],Prod.snd s))) (some ([.int .i64 b,.int .i64 0],o))) fun t=>bK t.1 fun f0 f1=>bV .i64 f0 fun f2=>bK f1 fun f3 f4=>bV .i64 f3 fun f5=>cT f4 (some ([.int .i64 f2,.int .i64 f5],Prod.snd t))) (some ([.int .i64 b,.int .i64 0],l))) fun e=>bK e.1 fun f6 f7=>bV .i64 f6 fun u=>bK f7 fun f8 f9=>bV .i64 f8 fun v=>cT f9 (aK (bI (decide (b0 > 15)) (some ([.bool true],Prod.snd e)) (bA (IntKind.wrap .i64 (v - d)) fun h0=>bI (decide (h0 < -22)) (some ([.bool true],Prod.snd e)) (bA (IntKind.wrap .i64 (v - d)) fun h1=>some ([.bool (decide (h1 > 22))],Prod.snd e)))) fun h2=>bK h2.1 fun h3 h4=>du h3 fun h5=>cT h4 (bI h5 (some (.tup [.int .u8 9,.int .i64 u])) (some (.tup [.int .u8 6,.int .i64 u]))))))
theorem N3 (x0:AV):cP vE 33 [x0]=SG x0:=by kernel_rfl
noncomputable def gn (b:List UInt8):dK→Option (dK ⊕ Nat×dK):=fun c=>bK c.1 fun k l=>bV .u8 k fun d=>bK l fun m n=>bV .i64 m fun e=>bK n fun o p=>bV .i64 o fun a=>cT p (bI (decide (a < (↑(List.length b):Int))) (aK (fb b a fun g=>bI ((↑(UInt8.toNat g):Int)==34) (bA (IntKind.wrap .i64 (a+1)) fun q=>some (Sum.inr (Sum.inr (1,[.int .u8 7,.int .i64 q],Prod.snd c)))) (bI ((↑(UInt8.toNat g):Int)==92) (aK (bA (IntKind.wrap .i64 (a+1)) fun r=>bI (decide (r < (↑(List.length b):Int))) (bA (IntKind.wrap .i64 (a+1)) fun s=>fb b s fun t=>ak (aG vE) 51 [.str [110,116,92,34],.int .u8 (↑(UInt8.toNat t):Int)] c.2 fun u v _x=>bV .i64 u fun w=>some ([.bool (decide (w≥0))],v)) (some ([.bool false],Prod.snd c))) fun f=>bK f.1 fun y z=>du y fun a0=>cT z (bI a0 (bA (IntKind.wrap .i64 (a+1)) fun a1=>some (Sum.inl ([.int .i64 a1,.int .u8 d,.int .i64 e],Prod.snd f))) (fJ a (List.length b) fun a2=>bA (List.drop a2 (List.take (List.length b) b)) fun a3=>ak (aG vE) 51 [.str a3,.int .u8 34] f.2 fun a4 h _x=>bV .i64 a4 fun i=>bI (decide (i≥0)) (bA (IntKind.wrap .i64 (a+i)) fun a5=>bA (IntKind.wrap .i64 (a5+1)) fun a6=>some (Sum.inr (Sum.inr (1,[.int .u8 9,.int .i64 a6],h)))) (some (Sum.inr (Sum.inr (1,[.int .u8 9,.int .i64 (↑(List.length b):Int)],h))))))) (some (Sum.inl ([.int .i64 a,.int .u8 d,.int .i64 e],Prod.snd c))))) fun a7=>kq a7 fun j=>bK j.1 fun a8 a9=>bV .i64 a8 fun b0=>bK a9 fun b1 b2=>bV .u8 b1 fun b3=>bK b2 fun b4 b5=>bV .i64 b4 fun b6=>cT b5 (bA (IntKind.wrap .i64 (b0+1)) fun b7=>some (Sum.inl ([.int .u8 b3,.int .i64 b6,.int .i64 b7],Prod.snd j)))) (some (Sum.inr (0,[.int .u8 d,.int .i64 e],Prod.snd c))))
noncomputable def Ra:AV→Option AV:=fun g=>fY g fun a=>fb a 0 fun h=>bI ((↑(UInt8.toNat h):Int) != 34) (some (.tup [.int .u8 0,.int .i64 0])) (ak (aG vE) 51 [.str a,.int .u8 10] (St.mk 0 0 Tr.leaf) fun i b _x=>bV .i64 i fun c=>aK (bI (decide (c≥0)) (fJ c (List.length a) fun j=>bA (List.drop 0 (List.take j a)) fun k=>some ([.str k],b)) (some ([.str a],b))) fun d=>bK d.1 fun l m=>fY l fun e=>cT m (aK (bu (gn e) ([.int .u8 0,.int .i64 0,.int .i64 1],Prod.snd d)) fun f=>bK f.2.1 fun n o=>bV .u8 n fun p=>bK o fun q r=>bV .i64 q fun s=>cT r (sH f.1 (some (.tup [.int .u8 9,.int .i64 (↑(List.length e):Int)])) fun _x=>some (.tup [.int .u8 p,.int .i64 s]))))
theorem OO (x0:AV):cP vE 34 [x0]=Ra x0:=by kernel_rfl
noncomputable def RE:AV→Option AV:=fun o=>fY o fun b=>aK (bI (decide ((↑(List.length b):Int) > 1)) (cQ (Nat.ble 2 (List.length b)) (bA (List.drop 0 (List.take 2 b)) fun a=>aK (bI (a==[45,62]) (some ([.bool (a==[45,62])],St.mk 0 0 Tr.leaf)) (aK (bI (a==[58,58]) (some ([.bool (a==[58,58])],St.mk 0 0 Tr.leaf)) (aK (bI (a==[60,62]) (some ([.bool (a==[60,62])],St.mk 0 0 Tr.leaf)) (aK (bI (a==[60,61]) (some ([.bool (a==[60,61])],St.mk 0 0 Tr.leaf)) (aK (bI (a==[62,61]) (some ([.bool (a==[62,61])],St.mk 0 0 Tr.leaf)) (aK (bI (a==[43,46]) (some ([.bool (a==[43,46])],St.mk 0 0 Tr.leaf)) (aK (bI (a==[45,46]) (some ([.bool (a==[45,46])],St.mk 0 0 Tr.leaf)) (aK (bI (a==[42,46]) (some ([.bool (a==[42,46])],St.mk 0 0 Tr.leaf)) (aK (bI (a==[47,46]) (some ([.bool (a==[47,46])],St.mk 0 0 Tr.leaf)) (aK (bI (a==[38,38]) (some ([.bool (a==[38,38])],St.mk 0 0 Tr.leaf)) (some ([.bool (a==[124,124])],St.mk 0 0 Tr.leaf))) fun c=>bK c.1 fun p q=>du p fun r=>cT q (some ([.bool r],Prod.snd c)))) fun d=>bK d.1 fun s t=>du s fun u=>cT t (some ([.bool u],Prod.snd d)))) fun e=>bK e.1 fun v w=>du v fun y=>cT w (some ([.bool y],Prod.snd e)))) fun f=>bK f.1 fun z a0=>du z fun a1=>cT a0 (some ([.bool a1],Prod.snd f)))) fun g=>bK g.1 fun a2 a3=>du a2 fun a4=>cT a3 (some ([.bool a4],Prod.snd g)))) fun h=>bK h.1 fun a5 a6=>du a5 fun a7=>cT a6 (some ([.bool a7],Prod.snd h)))) fun i=>bK i.1 fun a8 a9=>du a8 fun b0=>cT a9 (some ([.bool b0],Prod.snd i)))) fun j=>bK j.1 fun b1 b2=>du b1 fun b3=>cT b2 (some ([.bool b3],Prod.snd j)))) fun k=>bK k.1 fun b4 b5=>du b4 fun b6=>cT b5 (some ([.bool b6],Prod.snd k)))) fun l=>bK l.1 fun b7 b8=>du b7 fun b9=>cT b8 (bI b9 (some (Sum.inr (.tup [.int .u8 8,.int .i64 2]))) (some (Sum.inl ([.int .u8 0,.int .i64 0],Prod.snd l)))))) (some (Sum.inl ([.int .u8 0,.int .i64 0],St.mk 0 0 Tr.leaf)))) fun c0=>kq c0 fun m=>bK m.1 fun c1 c2=>bV .u8 c1 fun _x=>bK c2 fun c3 c4=>bV .i64 c3 fun _x=>cT c4 (cQ (Nat.ble 1 (List.length b)) (bA (List.drop 0 (List.take 1 b)) fun c5=>ak (aG vE) 46 [.str c5,.str [40,41,91,93,44,59,124,61,60,62,43,45,42,47,94,64]] m.2 fun c6 _x _x_1=>bV .i64 c6 fun n=>bA (if n < 1 then n else 1) fun c7=>some (.tup [.int .u8 8,.int .i64 c7])))
theorem Ng (x0:AV):cP vE 35 [x0]=RE x0:=by kernel_rfl
noncomputable def RV:AV→Option AV:=fun b=>fY b fun c=>ak (aG vE) 52 [.str c] (St.mk 0 0 Tr.leaf) fun a _x _x_1=>iy a fun d=>da d 0 fun e=>bV .i64 e fun _x=>iy a fun f=>da f 1 fun g=>bV .i64 g fun h=>some (.tup [.int .u8 9,.int .i64 h])
theorem N7 (x0:AV):cP vE 36 [x0]=RV x0:=by kernel_rfl
noncomputable def xW (b:AV) (st:St):dK→Option (dK ⊕ Nat×dK):=fun a=>bK a.1 fun i j=>bV .i64 i fun e=>bK j fun k l=>bV .i64 k fun c=>cT l (cQ (notNil b) (ct 0 b fun m=>aA 1 false m a.2 fun n _x=>fC n fun o=>bI (decide (c < (↑o:Int))) (cQ (notNil b) (ct 0 b fun p=>aA 1 false p a.2 fun q _x=>bZ 2 q c a.2 fun r _x=>aA 2 true r a.2 fun s _x=>gU s fun t u=>(ak (aG vE) 53 [.agg [.int .u8 t,.str u]] a.2 fun v d _x=>du v fun w=>bI (!w) (cQ (notNil b) (ct 0 b fun y=>aA 1 false y d fun z _x=>bZ 2 z c d fun a0 _x=>aA 2 true a0 d fun a1 _x=>gU a1 fun f g=>(ao (aG vE) 2 (.mp (St.h st) 0) (.agg [.int .u8 f,.str g]) [.int .u8 f,.str g] d fun _x a2 _x_1=>some (Sum.inr (1,[.int .i64 c],a2))))) (bA (IntKind.wrap .i64 (c+1)) fun a3=>some (Sum.inl ([.int .i64 e,.int .i64 a3],d)))))) (some (Sum.inr (0,[.int .i64 e],Prod.snd a)))))
noncomputable def Rd:AV→St→Option (AV×St):=fun b st=>bP (St.add st (VM.Obj.cells 41 [.int .u8 0,.str []])) fun d=>cQ (notNil b) (ct 1 b fun f=>aA 1 false f d fun g _x=>bV .i64 g fun i=>aK (bu (xW b st) ([.int .i64 0,.int .i64 i],d)) fun a=>bK a.2.1 fun j k=>bV .i64 j fun l=>cT k (sH a.1 (cQ (notNil b) (ct 0 b fun m=>aA 1 false m a.2.2 fun n o=>fC n fun p=>ao (aG vE) 2 (.mp (St.h st) 0) (.agg [.int .u8 0,.str []]) [.int .u8 0,.str []] a.2.2 fun _x e c=>cQ (apart (⟨[],.kept⟩) c&&(apart (Fx.mk o gg.kept) c&&(apart (⟨[],.kept⟩) c&&(apart (⟨[],.kept⟩) c&&(apart (⟨[],.kept⟩) c&&true))))) (aA 2 true (.mp (St.h st) 0) e fun q _x=>gU q fun r s=>(some (.tup [.agg [.int .u8 r,.str s],.int .i64 (↑p:Int)],e))))) fun _x=>aA 2 true (.mp (St.h st) 0) a.2.2 fun t _x=>gU t fun u v=>(some (.tup [.agg [.int .u8 u,.str v],.int .i64 l],Prod.snd a.2))))
theorem I7 (x0:AV) (st:St):ey vE 37 [x0] st=Rd x0 st:=by kernel_rfl
noncomputable def Q2:AV→AV→St→Option (AV×St):=fun i c st=>ak (aG vE) 37 [i] st fun d b _x=>iy d fun j=>da j 0 fun k=>gU k fun e f=>(iy d fun l=>da l 1 fun m=>bV .i64 m fun _x=>bP (St.add b (VM.Obj.cells 41 [.int .u8 0,.str []])) fun n=>ao (aG vE) 2 (.mp (St.h b) 0) (.agg [.int .u8 e,.str f]) [.int .u8 e,.str f] n fun _x a _x_1=>aK (aA 1 false (.mp (St.h b) 0) a fun o _x=>bV .u8 o fun p=>bI (p==3) (aA 1 false (.mp (St.h b) 1) a fun q _x=>fY q fun r=>ak (aG vE) 54 [c,.str r] a fun s t _x=>du s fun u=>some ([.bool u],t)) (aA 1 false (.mp (St.h b) 0) a fun v _x=>bV .u8 v fun w=>bI (w==8) (aA 1 false (.mp (St.h b) 1) a fun y _x=>fY y fun z=>ak (aG vE) 54 [c,.str z] a fun a0 a1 _x=>du a0 fun a2=>some ([.bool a2],a1)) (some ([.bool false],a)))) fun g=>bK g.1 fun a3 a4=>du a3 fun a5=>cT a4 (some (.bool a5,Prod.snd g)))
theorem NG (x0 x1:AV) (st:St):ey vE 38 [x0,x1] st=Q2 x0 x1 st:=by kernel_rfl
noncomputable def xB (e:St) (i:AV) (j:Nat):dK→Option (dK ⊕ Nat×dK):=fun a=>bK a.1 fun k l=>bV .i64 k fun c=>cT l (bI (decide (c < (↑j:Int))) (bZ 2 i c a.2 fun m _x=>aA 2 true m a.2 fun n _x=>gU n fun f g=>(bP (St.add a.2 (VM.Obj.cells 41 [.int .u8 0,.str []])) fun o=>ao (aG vE) 2 (.mp (St.h a.2) 0) (.agg [.int .u8 f,.str g]) [.int .u8 f,.str g] o fun _x d _x_1=>aA 1 false (.mp (St.h e) 3) d fun p _x=>aA 2 true (.mp (St.h a.2) 0) d fun q _x=>gU q fun r s=>(gf 4 56 44 p [.agg [.int .u8 1,.int .u8 r,.str s,.aq]] d fun b t _x=>af b (af b (ao (aG vE) 1 (.mp (St.h e) 3) b [b] t fun _x u _x_2=>bA (IntKind.wrap .i64 (c+1)) fun v=>some (Sum.inl ([.int .i64 v],u))))))) (some (Sum.inr (0,[],Prod.snd a))))
noncomputable def Sm:AV→St→Option (AV×St):=fun a st=>bP (St.add st (VM.Obj.cells 44 [.int .u8 0,.int .u8 0,.str [],.aq])) fun w=>ak (aG vE) 37 [a] w fun g c _x=>iy g fun y=>da y 0 fun z=>gU z fun i j=>(iy g fun a0=>da a0 1 fun a1=>bV .i64 a1 fun k=>bP (St.add c (VM.Obj.cells 41 [.int .u8 0,.str []])) fun a2=>ao (aG vE) 2 (.mp (St.h c) 0) (.agg [.int .u8 i,.str j]) [.int .u8 i,.str j] a2 fun _x b _x_1=>aA 2 true (.mp (St.h c) 0) b fun a3 _x=>gU a3 fun l m=>(bP (St.add b (VM.Obj.cells 44 [.int .u8 0,.int .u8 0,.str [],.aq])) fun a4=>ao (aG vE) 4 (.mp (St.h b) 0) (.agg [.int .u8 1,.int .u8 l,.str m,.aq]) [.int .u8 1,.int .u8 l,.str m,.aq] a4 fun _x d _x_2=>cQ (notNil a) (ct 0 a fun a5=>aA 1 false a5 d fun a6 _x=>cQ (notNil a) (ct 1 a fun a7=>aA 1 false a7 d fun a8 _x=>bV .i64 a8 fun a9=>fO 2 a6 (some a9) (some k) none fun n=>fC n fun b0=>aK (bu (xB b n b0) ([.int .i64 0],d)) fun e=>cT e.2.1 (bA (IntKind.wrap .i64 (k+1)) fun o=>cQ (notNil a) (ct 0 a fun b1=>aA 1 false b1 e.2.2 fun b2 _x=>fC b2 fun p=>bA (if (↑p:Int) < o then (↑p:Int) else o) fun q=>cQ (notNil a) (ct 1 a fun b3=>ao (aG vE) 1 b3 (.int .i64 q) [.int .i64 q] e.2.2 fun _x r _x_3=>aA 4 true (.mp (St.h b) 0) r fun b4 _x=>aE b4 fun s t u f=>(af f (ao (aG vE) 4 (.mp (St.h st) 0) (.agg [.int .u8 s,.int .u8 t,.str u,f]) [.int .u8 s,.int .u8 t,.str u,f] r fun _x v _x_4=>aA 4 true (.mp (St.h st) 0) v fun b5 _x=>aE b5 fun b6 b7 b8 b9=>(some (.agg [.int .u8 b6,.int .u8 b7,.str b8,b9],v)))))))))))
theorem Ow (x0:AV) (st:St):ey vE 39 [x0] st=Sm x0 st:=by kernel_rfl
noncomputable def tX (b:AV):dK→Option (dK ⊕ Nat×dK):=fun c=>bK c.1 fun d g=>cT g (ak (aG vE) 55 [b,.int .u8 5,.str [95]] c.2 fun h e _x=>du h fun i=>bI i (ak (aG vE) 56 [b,.bool true] e fun j k _x=>aE j fun l m n a=>(af a (af a (aV a fun f=>af f (aV f fun o=>gf 4 56 44 d [.agg [.int .u8 l,.int .u8 m,.str n,o]] k fun p q _x=>some (Sum.inl ([p],q))))))) (some (Sum.inr (0,[d],e))))
noncomputable def Sd:AV→St→Option (AV×St):=fun a st=>ak (aG vE) 38 [a,.sl 1 [.str [114,101,99]] .shut] st fun y j _x=>du y fun z=>aK (bI z (ak (aG vE) 39 [a] j fun v4 k _x=>aE v4 fun a0 a1 a2 b=>(af b (af b (aV b fun l=>af l (aV l fun a3=>bP (St.add k (Obj.tok 1 44)) fun a4=>some ([.sl 4 [.agg [.int .u8 a0,.int .u8 a1,.str a2,a3]] (Perm.own (St.h k))],a4)))))) (some ([.aq],j))) fun m=>bK m.1 fun n a5=>cT a5 (ak (aG vE) 37 [a] m.2 fun o c _x=>iy o fun a6=>da a6 0 fun a7=>gU a7 fun p q=>(iy o fun a8=>da a8 1 fun a9=>bV .i64 a9 fun _x=>bP (St.add c (VM.Obj.cells 41 [.int .u8 0,.str []])) fun b0=>ao (aG vE) 2 (.mp (St.h c) 0) (.agg [.int .u8 p,.str q]) [.int .u8 p,.str q] b0 fun _x d _x_1=>aA 1 false (.mp (St.h c) 0) d fun b1 _x=>bV .u8 b1 fun b2=>aK (bI (b2==4) (ak (aG vE) 39 [a] d fun b3 b4 _x=>aE b3 fun b5 b6 b7 e=>(af e (af e (aV e fun r=>af r (aV r fun b8=>gf 4 56 44 n [.agg [.int .u8 b5,.int .u8 b6,.str b7,b8]] b4 fun b9 c0 _x=>aK (bu (tX a) ([b9],c0)) fun s=>bK s.2.1 fun c1 c2=>cT c2 (some ([c1],Prod.snd s.2))))))) (ak (aG vE) 56 [a,.bool true] d fun c3 c4 _x=>aE c3 fun c5 c6 c7 f=>(af f (af f (aV f fun t=>af t (aV t fun c8=>gf 4 56 44 n [.agg [.int .u8 c5,.int .u8 c6,.str c7,c8]] c4 fun c9 d0 _x=>some ([c9],d0))))))) fun u=>bK u.1 fun d1 d2=>cT d2 (ak (aG vE) 57 [a,.str [61]] u.2 fun d3 d4 _x=>aE d3 fun d5 d6 d7 g=>(ak (aG vE) 58 [a] d4 fun d8 d9 _x=>aE d8 fun e0 e1 e2 i=>(af g (af i (af g (aV g fun v=>af i (aV i fun w=>af v (aV v fun e3=>af w (aV w fun e4=>gf 4 56 44 d1 [.agg [.int .u8 d5,.int .u8 d6,.str d7,e3],.agg [.int .u8 e0,.int .u8 e1,.str e2,e4]] d9 fun e5 e6 _x=>some (oneOf [e5],e6))))))))))))
theorem NY (x0:AV) (st:St):ey vE 40 [x0] st=Sd x0 st:=by kernel_rfl
noncomputable def ud (e:AV) (f:AV) (g:Nat):dK→Option (dK ⊕ Nat×dK):=fun a=>bK a.1 fun h i=>bV .i64 h fun c=>bK i fun j k=>bV .i64 j fun b=>cT k (bI (decide (b < (↑g:Int))) (bZ 4 e b a.2 fun l _x=>aA 4 true l a.2 fun m _x=>aE m fun n o p q=>(jR (aG vE) (Sx.prim (sx vE 41)) f [.agg [.int .u8 n,.int .u8 o,.str p,q]] a.2 fun r d _x=>du r fun s=>bI s (some (Sum.inr (1,[.int .i64 b],d))) (bA (IntKind.wrap .i64 (b+1)) fun t=>some (Sum.inl ([.int .i64 c,.int .i64 t],d))))) (some (Sum.inr (0,[.int .i64 c],Prod.snd a))))
noncomputable def Rb:AV→AV→Option AV:=fun a c=>fC a fun d=>aK (bu (ud a c d) ([.int .i64 0,.int .i64 0],St.mk 0 0 Tr.leaf)) fun b=>bK b.2.1 fun e f=>bV .i64 e fun g=>cT f (sH b.1 (some (.int .i64 (-1))) fun _x=>some (.int .i64 g))
theorem H9 (x0 x1:AV):cP vE 41 [x0,x1]=Rb x0 x1:=by kernel_rfl
noncomputable def SC:AV→AV→Option AV:=fun b c=>fY b fun a=>fY c fun d=>dF (aG vE) (fu (Prim.lib gL) [.str a,.str d]) (St.mk 0 0 Tr.leaf) fun e _x _x_1=>fY e fun f=>bA (IntKind.wrap .i64 ((↑(List.length a):Int) - (↑(List.length f):Int))) fun g=>some (.int .i64 g)
theorem NS (x0 x1:AV):cP vE 46 [x0,x1]=SC x0 x1:=by kernel_rfl
noncomputable def RS:AV→AV→Option AV:=fun a b=>fY a fun c=>fY b fun d=>ak (aG vE) 73 [.str c,.str d] (St.mk 0 0 Tr.leaf) fun e _x _x_1=>du e fun f=>some (.bool f)
theorem OK (x0 x1:AV):cP vE 47 [x0,x1]=RS x0 x1:=by kernel_rfl
noncomputable def R8:AV→AV→Option AV:=fun a b=>fY a fun c=>fY b fun d=>ak (aG vE) 77 [.str c,.str d] (St.mk 0 0 Tr.leaf) fun e _x _x_1=>fY e fun f=>some (.str f)
theorem N9 (x0 x1:AV):cP vE 50 [x0,x1]=R8 x0 x1:=by kernel_rfl
noncomputable def Si:AV→AV→Option AV:=fun a b=>fY a fun c=>bV .u8 b fun d=>ak (aG vE) 78 [.str c,.int .u8 d] (St.mk 0 0 Tr.leaf) fun e _x _x_1=>bV .i64 e fun f=>some (.int .i64 f)
theorem Nh (x0 x1:AV):cP vE 51 [x0,x1]=Si x0 x1:=by kernel_rfl
noncomputable def QS:AV→Option AV:=fun f=>fY f fun a=>bI (a==[]) (some (.tup [.int .i64 (-1),.int .i64 0])) (dF (aG vE) (fu (Prim.lib jl) [.str a]) (St.mk 0 0 Tr.leaf) fun b c _x=>iy b fun g=>da g 0 fun h=>bV .i32 h fun d=>iy b fun i=>da i 1 fun j=>bV .i64 j fun e=>aK (bI (d==65533) (some ([.bool (decide (e < 2))],c)) (some ([.bool false],c))) fun k=>bK k.1 fun l m=>du l fun n=>cT m (bI n (some (.tup [.int .i64 (-1),.int .i64 1])) (bA (IntKind.wrap .i64 d) fun o=>some (.tup [.int .i64 o,.int .i64 e]))))
theorem HR (x0:AV):cP vE 52 [x0]=QS x0:=by kernel_rfl
noncomputable def Rk:AV→Option AV:=fun b=>gU b fun a _x=>(aK (bI (a==1) (some ([.bool true],St.mk 0 0 Tr.leaf)) (some ([.bool (a==2)],St.mk 0 0 Tr.leaf))) fun c=>bK c.1 fun d e=>du d fun f=>cT e (some (.bool f)))
theorem MV (x0:AV):cP vE 53 [x0]=Rk x0:=by kernel_rfl
noncomputable def Ss:AV→AV→Option AV:=fun a b=>fY b fun c=>ak (aG vE) 80 [a,.str c] (St.mk 0 0 Tr.leaf) fun d _x _x_1=>bV .i64 d fun e=>some (.bool (decide (e≥0)))
theorem Oi (x0 x1:AV):cP vE 54 [x0,x1]=Ss x0 x1:=by kernel_rfl
noncomputable def RD:AV→AV→AV→St→Option (AV×St):=fun e m n st=>bV .u8 m fun o=>fY n fun p=>ak (aG vE) 37 [e] st fun f c _x=>iy f fun q=>da q 0 fun r=>gU r fun g i=>(iy f fun s=>da s 1 fun t=>bV .i64 t fun _x=>bP (St.add c (VM.Obj.cells 41 [.int .u8 0,.str []])) fun u=>ao (aG vE) 2 (.mp (St.h c) 0) (.agg [.int .u8 g,.str i]) [.int .u8 g,.str i] u fun _x b _x_1=>aA 1 false (.mp (St.h c) 0) b fun v _x=>bV .u8 v fun a=>aK (bI (a==4) (some ([.bool (a==4)],b)) (aK (bI (a==5) (some ([.bool (a==5)],b)) (aK (bI (a==7) (some ([.bool (a==7)],b)) (aK (bI (a==9) (some ([.bool (a==9)],b)) (some ([.bool (a==o)],b))) fun j=>bK j.1 fun w y=>du w fun z=>cT y (some ([.bool z],Prod.snd j)))) fun k=>bK k.1 fun a0 a1=>du a0 fun a2=>cT a1 (some ([.bool a2],Prod.snd k)))) fun l=>bK l.1 fun a3 a4=>du a3 fun a5=>cT a4 (some ([.bool a5],Prod.snd l)))) fun d=>bK d.1 fun a6 a7=>du a6 fun a8=>cT a7 (bI a8 (some (.bool true,Prod.snd d)) (ak (aG vE) 38 [e,.sl 1 [.str [116,114,117,101],.str [102,97,108,115,101],.str [40],.str [91],.str p] .shut] d.2 fun a9 b0 _x=>du a9 fun b1=>some (.bool b1,b0))))
theorem IY (x0 x1 x2:AV) (st:St):ey vE 55 [x0,x1,x2] st=RD x0 x1 x2 st:=by kernel_rfl
noncomputable def SE:AV→AV→St→Option (AV×St):=fun a x1 st=>du x1 fun b0=>bP (St.add st (VM.Obj.cells 44 [.int .u8 0,.int .u8 0,.str [],.aq])) fun j=>aK (bI b0 (some ([.str [112,97,116,116,101,114,110],.int .u8 17,.int .u8 18,.str [95],.fn (Fn.func 81) [a] [],.int .u8 5],j)) (some ([.str [101,120,112,114],.int .u8 14,.int .u8 15,.str [40],.fn (Fn.func 58) [a] [],.int .u8 6],j))) fun k=>bK k.1 fun v3 l4=>fY v3 fun l5=>bK l4 fun v6 l7=>bV .u8 v6 fun n8=>bK l7 fun v9 b3=>bV .u8 v9 fun b4=>bK b3 fun b5 b6=>fY b5 fun b7=>bK b6 fun l b8=>bK b8 fun b9 c0=>bV .u8 b9 fun c1=>cT c0 (ak (aG vE) 37 [a] k.2 fun m c _x=>iy m fun c2=>da c2 0 fun c3=>gU c3 fun n o=>(iy m fun c4=>da c4 1 fun c5=>bV .i64 c5 fun _x=>bP (St.add c (VM.Obj.cells 41 [.int .u8 0,.str []])) fun c6=>ao (aG vE) 2 (.mp (St.h c) 0) (.agg [.int .u8 n,.str o]) [.int .u8 n,.str o] c6 fun _x c7 _x_1=>ak (aG vE) 55 [a,.int .u8 c1,.str b7] c7 fun c8 b _x=>du c8 fun c9=>bI (!c9) (ak (aG vE) 82 [.str l5] b fun d0 d1 _x=>aE d0 fun p q r d=>(af d (ao (aG vE) 4 (.mp (St.h st) 0) (.agg [.int .u8 p,.int .u8 q,.str r,d]) [.int .u8 p,.int .u8 q,.str r,d] d1 fun _x s _x_2=>aA 4 true (.mp (St.h st) 0) s fun d2 _x=>aE d2 fun d3 d4 d5 d6=>(some (.agg [.int .u8 d3,.int .u8 d4,.str d5,d6],s))))) (aA 1 false (.mp (St.h c) 0) b fun d7 _x=>bV .u8 d7 fun d8=>bI (d8==9) (ak (aG vE) 39 [a] b fun d9 e0 _x=>aE d9 fun t u v e=>(af e (af e (aV e fun w=>ao (aG vE) 4 (.mp (St.h st) 0) (.agg [.int .u8 3,.int .u8 0,.str [],.sl 4 [.agg [.int .u8 t,.int .u8 u,.str v,w]] .shut]) [.int .u8 3,.int .u8 0,.str [],.sl 4 [.agg [.int .u8 t,.int .u8 u,.str v,w]] .shut] e0 fun _x y _x_2=>aA 4 true (.mp (St.h st) 0) y fun e1 _x=>aE e1 fun e2 e3 e4 e5=>(some (.agg [.int .u8 e2,.int .u8 e3,.str e4,e5],y)))))) (ak (aG vE) 38 [a,.sl 1 [.str [40]] .shut] b fun e6 z _x=>du e6 fun e7=>bI e7 (ak (aG vE) 83 [a,.int .u8 n8,.str [44],.str [41],l] z fun e8 e9 _x=>aE e8 fun a0 a1 a2 f=>(af f (ao (aG vE) 4 (.mp (St.h st) 0) (.agg [.int .u8 a0,.int .u8 a1,.str a2,f]) [.int .u8 a0,.int .u8 a1,.str a2,f] e9 fun _x a3 _x_2=>aA 4 true (.mp (St.h st) 0) a3 fun f0 _x=>aE f0 fun f1 f2 f3 f4=>(some (.agg [.int .u8 f1,.int .u8 f2,.str f3,f4],a3))))) (ak (aG vE) 38 [a,.sl 1 [.str [91]] .shut] z fun f5 a4 _x=>du f5 fun f6=>bI f6 (ak (aG vE) 83 [a,.int .u8 b4,.str [59],.str [93],l] a4 fun f7 f8 _x=>aE f7 fun a5 a6 a7 g=>(af g (ao (aG vE) 4 (.mp (St.h st) 0) (.agg [.int .u8 a5,.int .u8 a6,.str a7,g]) [.int .u8 a5,.int .u8 a6,.str a7,g] f8 fun _x a8 _x_2=>aA 4 true (.mp (St.h st) 0) a8 fun f9 _x=>aE f9 fun h0 h1 h2 h3=>(some (.agg [.int .u8 h0,.int .u8 h1,.str h2,h3],a8))))) (ak (aG vE) 39 [a] a4 fun h4 h5 _x=>aE h4 fun a9 b0 b1 i=>(af i (ao (aG vE) 4 (.mp (St.h st) 0) (.agg [.int .u8 a9,.int .u8 b0,.str b1,i]) [.int .u8 a9,.int .u8 b0,.str b1,i] h5 fun _x b2 _x_2=>aA 4 true (.mp (St.h st) 0) b2 fun h6 _x=>aE h6 fun h7 h8 h9 i0=>(some (.agg [.int .u8 h7,.int .u8 h8,.str h9,i0],b2))))))))))
theorem Ns (x0 x1:AV) (st:St):ey vE 56 [x0,x1] st=SE x0 x1 st:=by kernel_rfl
noncomputable def RB:AV→AV→St→Option (AV×St):=fun c o st=>fY o fun d=>bP (St.add st (VM.Obj.cells 44 [.int .u8 0,.int .u8 0,.str [],.aq])) fun p=>ak (aG vE) 38 [c,.sl 1 [.str d] .shut] p fun q e _x=>du q fun r=>bI r (ak (aG vE) 39 [c] e fun s t _x=>aE s fun f g i a=>(af a (ao (aG vE) 4 (.mp (St.h st) 0) (.agg [.int .u8 f,.int .u8 g,.str i,a]) [.int .u8 f,.int .u8 g,.str i,a] t fun _x j _x_1=>aA 4 true (.mp (St.h st) 0) j fun u _x=>aE u fun v w y z=>(some (.agg [.int .u8 v,.int .u8 w,.str y,z],j))))) (ak (aG vE) 82 [.str d] e fun a0 a1 _x=>aE a0 fun k l m b=>(af b (ao (aG vE) 4 (.mp (St.h st) 0) (.agg [.int .u8 k,.int .u8 l,.str m,b]) [.int .u8 k,.int .u8 l,.str m,b] a1 fun _x n _x_1=>aA 4 true (.mp (St.h st) 0) n fun a2 _x=>aE a2 fun a3 a4 a5 a6=>(some (.agg [.int .u8 a3,.int .u8 a4,.str a5,a6],n)))))
theorem IC (x0 x1:AV) (st:St):ey vE 57 [x0,x1] st=RB x0 x1 st:=by kernel_rfl
noncomputable def RP:AV→St→Option (AV×St):=fun b st=>bP (St.add st (VM.Obj.cells 44 [.int .u8 0,.int .u8 0,.str [],.aq])) fun g=>ak (aG vE) 84 [b,.str [101,120,112,114],.fn (Fn.func 85) [b] []] g fun i j _x=>aE i fun c d e a=>(af a (ao (aG vE) 4 (.mp (St.h st) 0) (.agg [.int .u8 c,.int .u8 d,.str e,a]) [.int .u8 c,.int .u8 d,.str e,a] j fun _x f _x_1=>aA 4 true (.mp (St.h st) 0) f fun k _x=>aE k fun l m n o=>(some (.agg [.int .u8 l,.int .u8 m,.str n,o],f))))
theorem Oj (x0:AV) (st:St):ey vE 58 [x0] st=RP x0 st:=by kernel_rfl
noncomputable def Rr:AV→AV→Option AV:=fun c d=>fY c fun b=>fY d fun a=>aK (bI (decide ((↑(List.length b):Int)≥(↑(List.length a):Int))) (cQ (Nat.ble (List.length a) (List.length b)) (bA (List.drop 0 (List.take (List.length a) b)) fun e=>some ([.bool (e==a)],St.mk 0 0 Tr.leaf))) (some ([.bool false],St.mk 0 0 Tr.leaf))) fun f=>bK f.1 fun g h=>du g fun i=>cT h (some (.bool i))
theorem NB (x0 x1:AV):cP vE 73 [x0,x1]=Rr x0 x1:=by kernel_rfl
noncomputable def SD:AV→AV→Option AV:=fun c d=>fY c fun a=>fY d fun b=>ak (aG vE) 73 [.str a,.str b] (St.mk 0 0 Tr.leaf) fun e _x _x_1=>du e fun f=>bI f (cQ (Nat.ble (List.length b) (List.length a)) (bA (List.drop (List.length b) (List.take (List.length a) a)) fun g=>some (.str g))) (some (.str a))
theorem NN (x0 x1:AV):cP vE 77 [x0,x1]=SD x0 x1:=by kernel_rfl
noncomputable def RW:AV→AV→Option AV:=fun a b=>fY a fun c=>bV .u8 b fun d=>dF (aG vE) (fu Prim.indexByte [.str c,.int .u8 d]) (St.mk 0 0 Tr.leaf) fun e _x _x_1=>bV .i64 e fun f=>some (.int .i64 f)
theorem MA (x0 x1:AV):cP vE 78 [x0,x1]=RW x0 x1:=by kernel_rfl
noncomputable def tP (d:AV) (e:List UInt8) (f:Nat):dK→Option (dK ⊕ Nat×dK):=fun a=>bK a.1 fun g h=>bV .i64 g fun c=>bK h fun i j=>bV .i64 i fun b=>cT j (bI (decide (b < (↑f:Int))) (bZ 1 d b a.2 fun k _x=>aA 1 false k a.2 fun l _x=>fY l fun m=>bI (e==m) (some (Sum.inr (1,[.int .i64 b],Prod.snd a))) (bA (IntKind.wrap .i64 (b+1)) fun n=>some (Sum.inl ([.int .i64 c,.int .i64 n],Prod.snd a)))) (some (Sum.inr (0,[.int .i64 c],Prod.snd a))))
noncomputable def Re:AV→AV→Option AV:=fun a c=>fY c fun d=>fC a fun e=>aK (bu (tP a d e) ([.int .i64 0,.int .i64 0],St.mk 0 0 Tr.leaf)) fun b=>bK b.2.1 fun f g=>bV .i64 f fun h=>cT g (sH b.1 (some (.int .i64 (-1))) fun _x=>some (.int .i64 h))
theorem HP (x0 x1:AV):cP vE 80 [x0,x1]=Re x0 x1:=by kernel_rfl
noncomputable def SF:AV→St→Option (AV×St):=fun a st=>af a (af a (bP (St.add st (VM.Obj.cells 63 [a])) fun b=>bP (St.add b (VM.Obj.cells 44 [.int .u8 0,.int .u8 0,.str [],.aq])) fun d=>aA 1 false (.mp (St.h st) 0) d fun j _x=>ak (aG vE) 84 [j,.str [112,97,116,116,101,114,110],.fn (Fn.func 101) [] [.mp (St.h st) 0]] d fun k l _x=>aE k fun e f g c=>(af c (ao (aG vE) 4 (.mp (St.h b) 0) (.agg [.int .u8 e,.int .u8 f,.str g,c]) [.int .u8 e,.int .u8 f,.str g,c] l fun _x i _x_1=>aA 4 true (.mp (St.h b) 0) i fun m _x=>aE m fun n o p q=>(some (.agg [.int .u8 n,.int .u8 o,.str p,q],i))))))
theorem OE (x0:AV) (st:St):ey vE 81 [x0] st=SF x0 st:=by kernel_rfl
noncomputable def Sj:AV→Option AV:=fun a=>fY a fun b=>some (.agg [.int .u8 2,.int .u8 0,.str b,.aq])
theorem MR (x0:AV):cP vE 82 [x0]=Sj x0:=by kernel_rfl
noncomputable def pA (g:AV) (o:AV) (p:List UInt8) (a:St):dK→Option (dK ⊕ Nat×dK):=fun i=>cT i.1 (ak (aG vE) 38 [g,.sl 1 [.str p] .shut] i.2 fun q d _x=>du q fun r=>bI r (aA 1 false (.mp (St.h a) 3) d fun s t=>ak (aG vE) 39 [g] d fun u v j=>aE u fun w y z e=>(cQ (apart (Fx.mk t gg.kept) j&&(apart (⟨[],.kept⟩) j&&true)) (af e (af e (aV e fun k=>af k (aV k fun a0=>gf 4 56 44 s [.agg [.int .u8 w,.int .u8 y,.str z,a0]] v fun b a1 _x=>af b (af b (ao (aG vE) 1 (.mp (St.h a) 3) b [b] a1 fun _x l _x_1=>aA 1 false (.mp (St.h a) 3) l fun a2 a3=>jR (aG vE) (Sx.prim (sx vE 83)) o [] l fun a4 a5 m=>aE a4 fun a6 a7 a8 f=>(cQ (apart (Fx.mk a3 gg.kept) m&&(apart (⟨[],.kept⟩) m&&true)) (af f (af f (aV f fun n=>af n (aV n fun a9=>gf 4 56 44 a2 [.agg [.int .u8 a6,.int .u8 a7,.str a8,a9]] a5 fun c b0 _x=>af c (af c (ao (aG vE) 1 (.mp (St.h a) 3) c [c] b0 fun _x b1 _x_2=>some (Sum.inl ([],b1))))))))))))))))) (some (Sum.inr (0,[],d))))
noncomputable def R2:AV→AV→AV→AV→AV→St→Option (AV×St):=fun b x1 x2 x3 o st=>bV .u8 x1 fun p=>fY x2 fun l1=>fY x3 fun q=>bP (St.add st (VM.Obj.cells 44 [.int .u8 0,.int .u8 0,.str [],.aq])) fun b2=>ak (aG vE) 39 [b] b2 fun v4 a _x=>aE v4 fun r s t g=>(af g (af g (aV g fun u=>bP (St.add a (VM.Obj.cells 44 [.int .u8 0,.int .u8 0,.str [],.aq])) fun b3=>ao (aG vE) 4 (.mp (St.h a) 0) (.agg [.int .u8 p,.int .u8 0,.str [],.sl 4 [.agg [.int .u8 r,.int .u8 s,.str t,u]] .shut]) [.int .u8 p,.int .u8 0,.str [],.sl 4 [.agg [.int .u8 r,.int .u8 s,.str t,u]] .shut] b3 fun _x b4 _x_1=>ak (aG vE) 38 [b,.sl 1 [.str q] .shut] b4 fun b5 c _x=>du b5 fun b6=>bI b6 (aA 1 false (.mp (St.h a) 3) c fun b7 b8=>ak (aG vE) 39 [b] c fun b9 c0 v=>aE b9 fun c1 c2 c3 i=>(cQ (apart (Fx.mk b8 gg.kept) v&&(apart (⟨[],.kept⟩) v&&true)) (af i (af i (aV i fun w=>af w (aV w fun c4=>gf 4 56 44 b7 [.agg [.int .u8 c1,.int .u8 c2,.str c3,c4]] c0 fun d c5 _x=>af d (af d (ao (aG vE) 1 (.mp (St.h a) 3) d [d] c5 fun _x y _x_2=>aA 4 true (.mp (St.h a) 0) y fun c6 _x=>aE c6 fun z a0 a1 j=>(af j (ao (aG vE) 4 (.mp (St.h st) 0) (.agg [.int .u8 z,.int .u8 a0,.str a1,j]) [.int .u8 z,.int .u8 a0,.str a1,j] y fun _x a2 _x_3=>aA 4 true (.mp (St.h st) 0) a2 fun c7 _x=>aE c7 fun c8 c9 d0 d1=>(some (.agg [.int .u8 c8,.int .u8 c9,.str d0,d1],a2)))))))))))) (aA 1 false (.mp (St.h a) 3) c fun d2 d3=>jR (aG vE) (Sx.prim (sx vE 83)) o [] c fun d4 d5 a3=>aE d4 fun d6 d7 d8 k=>(cQ (apart (Fx.mk d3 gg.kept) a3&&(apart (⟨[],.kept⟩) a3&&true)) (af k (af k (aV k fun a4=>af a4 (aV a4 fun d9=>gf 4 56 44 d2 [.agg [.int .u8 d6,.int .u8 d7,.str d8,d9]] d5 fun e e0 _x=>af e (af e (ao (aG vE) 1 (.mp (St.h a) 3) e [e] e0 fun _x e1 _x_2=>aK (bu (pA b o l1 a) ([],e1)) fun l=>cT l.2.1 (aA 1 false (.mp (St.h a) 3) l.2.2 fun e2 e3=>ak (aG vE) 57 [b,.str q] l.2.2 fun e4 e5 a5=>aE e4 fun e6 e7 e8 m=>(cQ (apart (Fx.mk e3 gg.kept) a5&&(apart (⟨[],.kept⟩) a5&&true)) (af m (af m (aV m fun a6=>af a6 (aV a6 fun e9=>gf 4 56 44 e2 [.agg [.int .u8 e6,.int .u8 e7,.str e8,e9]] e5 fun f f0 _x=>af f (af f (ao (aG vE) 1 (.mp (St.h a) 3) f [f] f0 fun _x a7 _x_3=>aA 4 true (.mp (St.h a) 0) a7 fun f1 _x=>aE f1 fun a8 a9 b0 n=>(af n (ao (aG vE) 4 (.mp (St.h st) 0) (.agg [.int .u8 a8,.int .u8 a9,.str b0,n]) [.int .u8 a8,.int .u8 a9,.str b0,n] a7 fun _x b1 _x_4=>aA 4 true (.mp (St.h st) 0) b1 fun f2 _x=>aE f2 fun f3 f4 f5 f6=>(some (.agg [.int .u8 f3,.int .u8 f4,.str f5,f6],b1)))))))))))))))))))))))
theorem Mu (x0 x1 x2 x3 x4:AV) (st:St):ey vE 83 [x0,x1,x2,x3,x4] st=R2 x0 x1 x2 x3 x4 st:=by kernel_rfl
noncomputable def Rs:AV→AV→AV→St→Option (AV×St):=fun a x1 x2 st=>fY x1 fun l0=>bP (St.add st (VM.Obj.cells 44 [.int .u8 0,.int .u8 0,.str [],.aq])) fun b=>cQ (notNil a) (ct 2 a fun v2=>aA 1 false v2 b fun v3 _x=>bV .i64 v3 fun n5=>bI (n5==64) (ak (aG vE) 37 [a] b fun k c _x=>iy k fun l9=>da l9 0 fun a8=>gU a8 fun l m=>(iy k fun a9=>da a9 1 fun b0=>bV .i64 b0 fun _x=>bP (St.add c (VM.Obj.cells 41 [.int .u8 0,.str []])) fun b1=>ao (aG vE) 2 (.mp (St.h c) 0) (.agg [.int .u8 l,.str m]) [.int .u8 l,.str m] b1 fun _x d _x_1=>aA 1 false (.mp (St.h c) 0) d fun b2 _x=>bV .u8 b2 fun b3=>bI (b3==0) (ak (aG vE) 82 [.str l0] d fun b4 b5 _x=>aE b4 fun n o p e=>(af e (ao (aG vE) 4 (.mp (St.h st) 0) (.agg [.int .u8 n,.int .u8 o,.str p,e]) [.int .u8 n,.int .u8 o,.str p,e] b5 fun _x q _x_2=>aA 4 true (.mp (St.h st) 0) q fun b6 _x=>aE b6 fun b7 b8 b9 c0=>(some (.agg [.int .u8 b7,.int .u8 b8,.str b9,c0],q))))) (ak (aG vE) 39 [a] d fun c1 c2 _x=>aE c1 fun r s t f=>(af f (af f (aV f fun u=>ao (aG vE) 4 (.mp (St.h st) 0) (.agg [.int .u8 3,.int .u8 0,.str [],.sl 4 [.agg [.int .u8 r,.int .u8 s,.str t,u]] .shut]) [.int .u8 3,.int .u8 0,.str [],.sl 4 [.agg [.int .u8 r,.int .u8 s,.str t,u]] .shut] c2 fun _x v _x_2=>aA 4 true (.mp (St.h st) 0) v fun c3 _x=>aE c3 fun c4 c5 c6 c7=>(some (.agg [.int .u8 c4,.int .u8 c5,.str c6,c7],v)))))))) (cQ (notNil a) (ct 2 a fun c8=>aA 1 false c8 b fun c9 _x=>bV .i64 c9 fun d0=>bA (IntKind.wrap .i64 (d0+1)) fun w=>cQ (notNil a) (ct 2 a fun d1=>ao (aG vE) 1 d1 (.int .i64 w) [.int .i64 w] b fun _x d2 _x_1=>jR (aG vE) (Sx.prim (sx vE 84)) x2 [] d2 fun d3 g _x=>aE d3 fun y z a0 i=>(bP (St.add g (VM.Obj.cells 44 [.int .u8 0,.int .u8 0,.str [],.aq])) fun d4=>af i (ao (aG vE) 4 (.mp (St.h g) 0) (.agg [.int .u8 y,.int .u8 z,.str a0,i]) [.int .u8 y,.int .u8 z,.str a0,i] d4 fun _x a1 _x_2=>cQ (notNil a) (ct 2 a fun d5=>aA 1 false d5 a1 fun d6 _x=>bV .i64 d6 fun d7=>bA (IntKind.wrap .i64 (d7 - 1)) fun a2=>cQ (notNil a) (ct 2 a fun d8=>ao (aG vE) 1 d8 (.int .i64 a2) [.int .i64 a2] a1 fun _x a3 _x_3=>aA 4 true (.mp (St.h g) 0) a3 fun d9 _x=>aE d9 fun a4 a5 a6 j=>(af j (ao (aG vE) 4 (.mp (St.h st) 0) (.agg [.int .u8 a4,.int .u8 a5,.str a6,j]) [.int .u8 a4,.int .u8 a5,.str a6,j] a3 fun _x a7 _x_4=>aA 4 true (.mp (St.h st) 0) a7 fun e0 _x=>aE e0 fun e1 e2 e3 e4=>(some (.agg [.int .u8 e1,.int .u8 e2,.str e3,e4],a7))))))))))))
theorem Iq (x0 x1 x2:AV) (st:St):ey vE 84 [x0,x1,x2] st=Rs x0 x1 x2 st:=by kernel_rfl
noncomputable def uf (b:AV) (e:St):dK→Option (dK ⊕ Nat×dK):=fun c=>cT c.1 (ak (aG vE) 55 [b,.int .u8 5,.str [95]] c.2 fun f d _x=>du f fun g=>bI g (ak (aG vE) 56 [b,.bool true] d fun i j _x=>aE i fun k l m a=>(af a (af a (aV a fun n=>ak (aG vE) 102 [.sl 4 [.agg [.int .u8 k,.int .u8 l,.str m,n]] .shut,.mp (St.h e) 0] j fun _x o _x_1=>some (Sum.inl ([],o)))))) (some (Sum.inr (0,[],d))))
noncomputable def uo (a:AV) (d:St):dK→Option (dK ⊕ Nat×dK):=fun e=>cT e.1 (ak (aG vE) 38 [a,.sl 1 [.str [124]] .shut] e.2 fun g f _x=>du g fun i=>bI i (ak (aG vE) 39 [a] f fun j k _x=>aE j fun l m n b=>(af b (af b (aV b fun o=>ak (aG vE) 102 [.sl 4 [.agg [.int .u8 l,.int .u8 m,.str n,o]] .shut,.mp (St.h d) 0] k fun _x p _x_1=>ak (aG vE) 103 [a] p fun q r _x=>aE q fun s t u c=>(af c (af c (aV c fun v=>ak (aG vE) 102 [.sl 4 [.agg [.int .u8 s,.int .u8 t,.str u,v]] .shut,.mp (St.h d) 0] r fun _x w _x_2=>some (Sum.inl ([],w))))))))) (some (Sum.inr (0,[],f))))
noncomputable def R6:AV→St→Option (AV×St):=fun b st=>bP (St.add st (VM.Obj.cells 44 [.int .u8 0,.int .u8 0,.str [],.aq])) fun a=>bP (St.add a (VM.Obj.cells 44 [.int .u8 0,.int .u8 0,.str [],.aq])) fun c0=>ak (aG vE) 38 [b,.sl 1 [.str [108,101,116]] .shut] c0 fun v2 y _x=>du v2 fun b5=>aK (bI b5 (ao (aG vE) 1 (.mp (St.h a) 0) (.int .u8 6) [.int .u8 6] y fun _x c1 _x_1=>ak (aG vE) 39 [b] c1 fun v9 c2 _x=>aE v9 fun c3 c4 c5 c=>(af c (af c (aV c fun c6=>ak (aG vE) 102 [.sl 4 [.agg [.int .u8 c3,.int .u8 c4,.str c5,c6]] .shut,.mp (St.h a) 0] c2 fun _x c7 _x_2=>ak (aG vE) 40 [b] c7 fun c8 c9 _x=>ak (aG vE) 102 [c8,.mp (St.h a) 0] c9 fun _x d0 _x_3=>ak (aG vE) 57 [b,.str [105,110]] d0 fun d1 d2 _x=>aE d1 fun d3 d4 d5 d=>(af d (af d (aV d fun d6=>ak (aG vE) 102 [.sl 4 [.agg [.int .u8 d3,.int .u8 d4,.str d5,d6]] .shut,.mp (St.h a) 0] d2 fun _x d7 _x_4=>some (Sum.inl ([],d7))))))))) (ak (aG vE) 38 [b,.sl 1 [.str [102,117,110]] .shut] y fun d8 z _x=>du d8 fun d9=>aK (bI d9 (ao (aG vE) 1 (.mp (St.h a) 0) (.int .u8 7) [.int .u8 7] z fun _x e0 _x_1=>ak (aG vE) 39 [b] e0 fun e1 e2 _x=>aE e1 fun e3 e4 e5 e=>(af e (af e (aV e fun e6=>ak (aG vE) 102 [.sl 4 [.agg [.int .u8 e3,.int .u8 e4,.str e5,e6]] .shut,.mp (St.h a) 0] e2 fun _x e7 _x_2=>ak (aG vE) 56 [b,.bool true] e7 fun e8 e9 _x=>aE e8 fun f0 f1 f2 f=>(af f (af f (aV f fun f3=>ak (aG vE) 102 [.sl 4 [.agg [.int .u8 f0,.int .u8 f1,.str f2,f3]] .shut,.mp (St.h a) 0] e9 fun _x f4 _x_3=>aK (bu (uf b a) ([],f4)) fun a0=>cT a0.2.1 (ak (aG vE) 57 [b,.str [45,62]] a0.2.2 fun f5 f6 _x=>aE f5 fun f7 f8 f9 g=>(af g (af g (aV g fun h0=>ak (aG vE) 102 [.sl 4 [.agg [.int .u8 f7,.int .u8 f8,.str f9,h0]] .shut,.mp (St.h a) 0] f6 fun _x h1 _x_4=>some (Sum.inl ([],h1))))))))))))) (ak (aG vE) 38 [b,.sl 1 [.str [105,102]] .shut] z fun h2 a1 _x=>du h2 fun h3=>bI h3 (ao (aG vE) 1 (.mp (St.h a) 0) (.int .u8 8) [.int .u8 8] a1 fun _x h4 _x_1=>ak (aG vE) 39 [b] h4 fun h5 h6 _x=>aE h5 fun h7 h8 h9 i=>(af i (af i (aV i fun i0=>ak (aG vE) 102 [.sl 4 [.agg [.int .u8 h7,.int .u8 h8,.str h9,i0]] .shut,.mp (St.h a) 0] h6 fun _x i1 _x_2=>ak (aG vE) 58 [b] i1 fun i2 i3 _x=>aE i2 fun i4 i5 i6 j=>(af j (af j (aV j fun i7=>ak (aG vE) 102 [.sl 4 [.agg [.int .u8 i4,.int .u8 i5,.str i6,i7]] .shut,.mp (St.h a) 0] i3 fun _x i8 _x_3=>ak (aG vE) 57 [b,.str [116,104,101,110]] i8 fun i9 j0 _x=>aE i9 fun j1 j2 j3 k=>(af k (af k (aV k fun j4=>ak (aG vE) 102 [.sl 4 [.agg [.int .u8 j1,.int .u8 j2,.str j3,j4]] .shut,.mp (St.h a) 0] j0 fun _x j5 _x_4=>ak (aG vE) 58 [b] j5 fun j6 j7 _x=>aE j6 fun j8 j9 k0 l=>(af l (af l (aV l fun k1=>ak (aG vE) 102 [.sl 4 [.agg [.int .u8 j8,.int .u8 j9,.str k0,k1]] .shut,.mp (St.h a) 0] j7 fun _x k2 _x_5=>ak (aG vE) 57 [b,.str [101,108,115,101]] k2 fun k3 k4 _x=>aE k3 fun k5 k6 k7 m=>(af m (af m (aV m fun k8=>ak (aG vE) 102 [.sl 4 [.agg [.int .u8 k5,.int .u8 k6,.str k7,k8]] .shut,.mp (St.h a) 0] k4 fun _x k9 _x_6=>some (Sum.inl ([],k9)))))))))))))))))) (ak (aG vE) 38 [b,.sl 1 [.str [109,97,116,99,104]] .shut] a1 fun m0 a2 _x=>du m0 fun m1=>bI m1 (ao (aG vE) 1 (.mp (St.h a) 0) (.int .u8 9) [.int .u8 9] a2 fun _x m2 _x_1=>ak (aG vE) 39 [b] m2 fun m3 m4 _x=>aE m3 fun m5 m6 m7 n=>(af n (af n (aV n fun m8=>ak (aG vE) 102 [.sl 4 [.agg [.int .u8 m5,.int .u8 m6,.str m7,m8]] .shut,.mp (St.h a) 0] m4 fun _x m9 _x_2=>ak (aG vE) 58 [b] m9 fun n0 n1 _x=>aE n0 fun n2 n3 n4 o=>(af o (af o (aV o fun n5=>ak (aG vE) 102 [.sl 4 [.agg [.int .u8 n2,.int .u8 n3,.str n4,n5]] .shut,.mp (St.h a) 0] n1 fun _x n6 _x_3=>ak (aG vE) 57 [b,.str [119,105,116,104]] n6 fun n7 n8 _x=>aE n7 fun n9 o0 o1 p=>(af p (af p (aV p fun o2=>ak (aG vE) 102 [.sl 4 [.agg [.int .u8 n9,.int .u8 o0,.str o1,o2]] .shut,.mp (St.h a) 0] n8 fun _x o3 _x_4=>ak (aG vE) 38 [b,.sl 1 [.str [124]] .shut] o3 fun o4 a3 _x=>du o4 fun o5=>aK (bI o5 (ak (aG vE) 39 [b] a3 fun o6 o7 _x=>aE o6 fun o8 o9 p0 q=>(af q (af q (aV q fun p1=>ak (aG vE) 102 [.sl 4 [.agg [.int .u8 o8,.int .u8 o9,.str p0,p1]] .shut,.mp (St.h a) 0] o7 fun _x p2 _x_5=>some ([],p2))))) (some ([],a3))) fun a4=>cT a4.1 (ak (aG vE) 103 [b] a4.2 fun p3 p4 _x=>aE p3 fun p5 p6 p7 r=>(af r (af r (aV r fun p8=>ak (aG vE) 102 [.sl 4 [.agg [.int .u8 p5,.int .u8 p6,.str p7,p8]] .shut,.mp (St.h a) 0] p4 fun _x p9 _x_5=>aK (bu (uo b a) ([],p9)) fun s=>cT s.2.1 (aA 4 true (.mp (St.h a) 0) s.2.2 fun q0 _x=>aE q0 fun a5 a6 a7 t=>(af t (ao (aG vE) 4 (.mp (St.h st) 0) (.agg [.int .u8 a5,.int .u8 a6,.str a7,t]) [.int .u8 a5,.int .u8 a6,.str a7,t] s.2.2 fun _x a8 _x_6=>aK (aK (aA 4 true (.mp (St.h st) 0) a8 fun q1 _x=>aE q1 fun q2 q3 q4 q5=>(some (.agg [.int .u8 q2,.int .u8 q3,.str q4,q5],a8))) fun q6=>some (Sum.inr q6)) fun q7=>some (Sum.inr q7)))))))))))))))))) (ak (aG vE) 104 [b,.int .i64 0] a2 fun q8 q9 _x=>aE q8 fun a9 b0 b1 u=>(af u (ao (aG vE) 4 (.mp (St.h st) 0) (.agg [.int .u8 a9,.int .u8 b0,.str b1,u]) [.int .u8 a9,.int .u8 b0,.str b1,u] q9 fun _x b2 _x_1=>aK (aK (aA 4 true (.mp (St.h st) 0) b2 fun s0 _x=>aE s0 fun s1 s2 s3 s4=>(some (.agg [.int .u8 s1,.int .u8 s2,.str s3,s4],b2))) fun s5=>some (Sum.inr s5)) fun s6=>some (Sum.inr s6))))))) fun s7=>kq s7 fun b3=>cT b3.1 (some (Sum.inl ([],Prod.snd b3))))) fun s8=>kq s8 fun b4=>cT b4.1 (ak (aG vE) 58 [b] b4.2 fun s9 t0 _x=>aE s9 fun t1 t2 t3 v=>(af v (af v (aV v fun t4=>ak (aG vE) 102 [.sl 4 [.agg [.int .u8 t1,.int .u8 t2,.str t3,t4]] .shut,.mp (St.h a) 0] t0 fun _x b5 _x_1=>aA 4 true (.mp (St.h a) 0) b5 fun t5 _x=>aE t5 fun b6 b7 b8 w=>(af w (ao (aG vE) 4 (.mp (St.h st) 0) (.agg [.int .u8 b6,.int .u8 b7,.str b8,w]) [.int .u8 b6,.int .u8 b7,.str b8,w] b5 fun _x b9 _x_2=>aA 4 true (.mp (St.h st) 0) b9 fun t6 _x=>aE t6 fun t7 t8 t9 u0=>(some (.agg [.int .u8 t7,.int .u8 t8,.str t9,u0],b9))))))))
theorem Mr (x0:AV) (st:St):ey vE 85 [x0] st=R6 x0 st:=by kernel_rfl
noncomputable def PI:AV→St→Option (AV×St):=fun b st=>bP (St.add st (VM.Obj.cells 44 [.int .u8 0,.int .u8 0,.str [],.aq])) fun n=>aA 1 false b n fun v1 _x=>ak (aG vE) 56 [v1,.bool true] n fun v3 a _x=>aE v3 fun o p q d=>(bP (St.add a (VM.Obj.cells 44 [.int .u8 0,.int .u8 0,.str [],.aq])) fun b3=>af d (ao (aG vE) 4 (.mp (St.h a) 0) (.agg [.int .u8 o,.int .u8 p,.str q,d]) [.int .u8 o,.int .u8 p,.str q,d] b3 fun _x r _x_1=>aA 1 false b r fun b4 _x=>ak (aG vE) 38 [b4,.sl 1 [.str [58,58]] .shut] r fun b5 e _x=>du b5 fun b6=>aK (bI b6 (aA 1 false b e fun b7 _x=>ak (aG vE) 39 [b7] e fun b8 f _x=>aE b8 fun s t u g=>(bP (St.add f (VM.Obj.cells 44 [.int .u8 0,.int .u8 0,.str [],.aq])) fun b9=>af g (ao (aG vE) 4 (.mp (St.h f) 0) (.agg [.int .u8 s,.int .u8 t,.str u,g]) [.int .u8 s,.int .u8 t,.str u,g] b9 fun _x c _x_2=>aA 4 true (.mp (St.h a) 0) c fun c0 c1=>aE c0 fun v w y i=>(aA 4 true (.mp (St.h f) 0) c fun c2 c3=>aE c2 fun z a0 a1 j=>(aA 1 false b c fun c4 _x=>ak (aG vE) 81 [c4] c fun c5 c6 a2=>aE c5 fun a3 a4 a5 k=>(cQ (apart (Fx.mk c3 gg.kept) a2&&(apart (Fx.mk c1 gg.kept) a2&&true)) (af i (af j (af k (af i (aV i fun a6=>af j (aV j fun a7=>af k (aV k fun a8=>ao (aG vE) 4 (.mp (St.h a) 0) (.agg [.int .u8 16,.int .u8 0,.str [],.sl 4 [.agg [.int .u8 v,.int .u8 w,.str y,a6],.agg [.int .u8 z,.int .u8 a0,.str a1,a7],.agg [.int .u8 a3,.int .u8 a4,.str a5,a8]] .shut]) [.int .u8 16,.int .u8 0,.str [],.sl 4 [.agg [.int .u8 v,.int .u8 w,.str y,a6],.agg [.int .u8 z,.int .u8 a0,.str a1,a7],.agg [.int .u8 a3,.int .u8 a4,.str a5,a8]] .shut] c6 fun _x c7 _x_3=>some ([],c7)))))))))))))) (some ([],e))) fun l=>cT l.1 (aA 4 true (.mp (St.h a) 0) l.2 fun c8 _x=>aE c8 fun a9 b0 b1 m=>(af m (ao (aG vE) 4 (.mp (St.h st) 0) (.agg [.int .u8 a9,.int .u8 b0,.str b1,m]) [.int .u8 a9,.int .u8 b0,.str b1,m] l.2 fun _x b2 _x_2=>aA 4 true (.mp (St.h st) 0) b2 fun c9 _x=>aE c9 fun d0 d1 d2 d3=>(some (.agg [.int .u8 d0,.int .u8 d1,.str d2,d3],b2)))))))
theorem LF (x0:AV) (st:St):ey vE 101 [x0] st=PI x0 st:=by kernel_rfl
noncomputable def Qu:AV→AV→St→Option (AV×St):=fun d b st=>ct 3 b fun e=>aA 1 false e st fun f _x=>lT d fun g=>pU true g fun c=>cQ (tf 4 c) (gf 4 56 44 f c st fun a h _x=>ct 3 b fun i=>af a (af a (ao (aG vE) 1 i a [a] h fun _x j _x_1=>some (.tup [],j))))
theorem Lw (x0 x1:AV) (st:St):ey vE 102 [x0,x1] st=Qu x0 x1 st:=by kernel_rfl
noncomputable def PK:AV→St→Option (AV×St):=fun a st=>bP (St.add st (VM.Obj.cells 44 [.int .u8 0,.int .u8 0,.str [],.aq])) fun a5=>ak (aG vE) 81 [a] a5 fun v1 b _x=>aE v1 fun k l m c=>(bP (St.add b (VM.Obj.cells 44 [.int .u8 0,.int .u8 0,.str [],.aq])) fun a6=>af c (ao (aG vE) 4 (.mp (St.h b) 0) (.agg [.int .u8 k,.int .u8 l,.str m,c]) [.int .u8 k,.int .u8 l,.str m,c] a6 fun _x a7 _x_1=>ak (aG vE) 57 [a,.str [45,62]] a7 fun a8 d _x=>aE a8 fun n o p e=>(bP (St.add d (VM.Obj.cells 44 [.int .u8 0,.int .u8 0,.str [],.aq])) fun a9=>af e (ao (aG vE) 4 (.mp (St.h d) 0) (.agg [.int .u8 n,.int .u8 o,.str p,e]) [.int .u8 n,.int .u8 o,.str p,e] a9 fun _x f _x_2=>aA 4 true (.mp (St.h b) 0) f fun b0 b1=>aE b0 fun q r s g=>(aA 4 true (.mp (St.h d) 0) f fun b2 b3=>aE b2 fun t u v i=>(ak (aG vE) 58 [a] f fun b4 b5 w=>aE b4 fun y z a0 j=>(cQ (apart (Fx.mk b3 gg.kept) w&&(apart (Fx.mk b1 gg.kept) w&&true)) (af g (af i (af j (af g (aV g fun a1=>af i (aV i fun a2=>af j (aV j fun a3=>ao (aG vE) 4 (.mp (St.h st) 0) (.agg [.int .u8 10,.int .u8 0,.str [],.sl 4 [.agg [.int .u8 q,.int .u8 r,.str s,a1],.agg [.int .u8 t,.int .u8 u,.str v,a2],.agg [.int .u8 y,.int .u8 z,.str a0,a3]] .shut]) [.int .u8 10,.int .u8 0,.str [],.sl 4 [.agg [.int .u8 q,.int .u8 r,.str s,a1],.agg [.int .u8 t,.int .u8 u,.str v,a2],.agg [.int .u8 y,.int .u8 z,.str a0,a3]] .shut] b5 fun _x a4 _x_3=>aA 4 true (.mp (St.h st) 0) a4 fun b6 _x=>aE b6 fun b7 b8 b9 c0=>(some (.agg [.int .u8 b7,.int .u8 b8,.str b9,c0],a4))))))))))))))))
theorem Lr (x0:AV) (st:St):ey vE 103 [x0] st=PK x0 st:=by kernel_rfl
noncomputable def qv (e:AV) (a:Int) (l:AV) (m:St):dK→Option (dK ⊕ Nat×dK):=fun b=>cT b.1 (bZ 2 l a b.2 fun a5 _x=>ct 0 a5 fun a6=>aA 1 false a6 b.2 fun a7 _x=>ak (aG vE) 38 [e,a7] b.2 fun a8 n _x=>du a8 fun a9=>bI a9 (ak (aG vE) 39 [e] n fun b0 f _x=>aE b0 fun o p q g=>(bP (St.add f (VM.Obj.cells 44 [.int .u8 0,.int .u8 0,.str [],.aq])) fun b1=>af g (ao (aG vE) 4 (.mp (St.h f) 0) (.agg [.int .u8 o,.int .u8 p,.str q,g]) [.int .u8 o,.int .u8 p,.str q,g] b1 fun _x c _x_1=>bZ 2 l a c fun b2 _x=>ct 1 b2 fun b3=>aA 1 false b3 c fun b4 _x=>du b4 fun b5=>aK (bI b5 (bA (IntKind.wrap .i64 (a+1)) fun b6=>some ([.int .i64 b6],c)) (some ([.int .i64 a],c))) fun d=>bK d.1 fun b7 b8=>bV .i64 b7 fun b9=>cT b8 (aA 4 true (.mp (St.h m) 0) d.2 fun c0 c1=>aE c0 fun r s t i=>(aA 4 true (.mp (St.h f) 0) d.2 fun c2 c3=>aE c2 fun u v w j=>(ak (aG vE) 104 [e,.int .i64 b9] d.2 fun c4 c5 y=>aE c4 fun z a0 a1 k=>(cQ (apart (Fx.mk c3 gg.kept) y&&(apart (Fx.mk c1 gg.kept) y&&true)) (af i (af j (af k (af i (aV i fun a2=>af j (aV j fun a3=>af k (aV k fun a4=>ao (aG vE) 4 (.mp (St.h m) 0) (.agg [.int .u8 11,.int .u8 0,.str [],.sl 4 [.agg [.int .u8 r,.int .u8 s,.str t,a2],.agg [.int .u8 u,.int .u8 v,.str w,a3],.agg [.int .u8 z,.int .u8 a0,.str a1,a4]] .shut]) [.int .u8 11,.int .u8 0,.str [],.sl 4 [.agg [.int .u8 r,.int .u8 s,.str t,a2],.agg [.int .u8 u,.int .u8 v,.str w,a3],.agg [.int .u8 z,.int .u8 a0,.str a1,a4]] .shut] c5 fun _x c6 _x_2=>some (Sum.inl ([],c6)))))))))))))))) (some (Sum.inr (0,[],n))))
noncomputable def PH:AV→AV→St→Option (AV×St):=fun b v st=>bV .i64 v fun c=>bP (St.add st (VM.Obj.cells 44 [.int .u8 0,.int .u8 0,.str [],.aq])) fun w=>ak (aG vE) 113 [] w fun i j _x=>fC i fun y=>bI (c==(↑y:Int)) (ak (aG vE) 114 [b] j fun z a0 _x=>aE z fun k l m d=>(af d (ao (aG vE) 4 (.mp (St.h st) 0) (.agg [.int .u8 k,.int .u8 l,.str m,d]) [.int .u8 k,.int .u8 l,.str m,d] a0 fun _x n _x_1=>aA 4 true (.mp (St.h st) 0) n fun a1 _x=>aE a1 fun a2 a3 a4 a5=>(some (.agg [.int .u8 a2,.int .u8 a3,.str a4,a5],n))))) (bA (IntKind.wrap .i64 (c+1)) fun a6=>ak (aG vE) 104 [b,.int .i64 a6] j fun a7 a _x=>aE a7 fun o p q e=>(bP (St.add a (VM.Obj.cells 44 [.int .u8 0,.int .u8 0,.str [],.aq])) fun a8=>af e (ao (aG vE) 4 (.mp (St.h a) 0) (.agg [.int .u8 o,.int .u8 p,.str q,e]) [.int .u8 o,.int .u8 p,.str q,e] a8 fun _x a9 _x_1=>aK (bu (qv b c i a) ([],a9)) fun f=>cT f.2.1 (aA 4 true (.mp (St.h a) 0) f.2.2 fun b0 _x=>aE b0 fun r s t g=>(af g (ao (aG vE) 4 (.mp (St.h st) 0) (.agg [.int .u8 r,.int .u8 s,.str t,g]) [.int .u8 r,.int .u8 s,.str t,g] f.2.2 fun _x u _x_2=>aA 4 true (.mp (St.h st) 0) u fun b1 _x=>aE b1 fun b2 b3 b4 b5=>(some (.agg [.int .u8 b2,.int .u8 b3,.str b4,b5],u))))))))
theorem JW (x0 x1:AV) (st:St):ey vE 104 [x0,x1] st=PH x0 x1 st:=by kernel_rfl
noncomputable def Rp:Option AV:=some (.sl 2 [.agg [.sl 1 [.str [124,124]] .shut,.bool false],.agg [.sl 1 [.str [38,38]] .shut,.bool false],.agg [.sl 1 [.str [61],.str [60,62],.str [60],.str [60,61],.str [62],.str [62,61]] .shut,.bool true],.agg [.sl 1 [.str [64],.str [94]] .shut,.bool false],.agg [.sl 1 [.str [58,58]] .shut,.bool false],.agg [.sl 1 [.str [43],.str [45],.str [43,46],.str [45,46]] .shut,.bool true],.agg [.sl 1 [.str [42],.str [47],.str [42,46],.str [47,46],.str [109,111,100]] .shut,.bool true]] .shut)
theorem J0:cP vE 113 []=Rp:=by kernel_rfl
noncomputable def ql (d:AV) (e:St):dK→Option (dK ⊕ Nat×dK):=fun f=>cT f.1 (ak (aG vE) 55 [d,.int .u8 6,.str [40]] f.2 fun p a _x=>du p fun q=>bI q (aA 4 true (.mp (St.h e) 0) a fun r s=>aE r fun g i j b=>(ak (aG vE) 56 [d,.bool false] a fun t u v=>aE t fun k l m c=>(cQ (apart (Fx.mk s gg.kept) v&&true) (af b (af c (af b (aV b fun n=>af c (aV c fun o=>ao (aG vE) 4 (.mp (St.h e) 0) (.agg [.int .u8 13,.int .u8 0,.str [],.sl 4 [.agg [.int .u8 g,.int .u8 i,.str j,n],.agg [.int .u8 k,.int .u8 l,.str m,o]] .shut]) [.int .u8 13,.int .u8 0,.str [],.sl 4 [.agg [.int .u8 g,.int .u8 i,.str j,n],.agg [.int .u8 k,.int .u8 l,.str m,o]] .shut] u fun _x w _x_1=>some (Sum.inl ([],w)))))))))) (some (Sum.inr (0,[],a))))
noncomputable def P0:AV→St→Option (AV×St):=fun a st=>bP (St.add st (VM.Obj.cells 44 [.int .u8 0,.int .u8 0,.str [],.aq])) fun a6=>ak (aG vE) 38 [a,.sl 1 [.str [45],.str [45,46]] .shut] a6 fun v1 k _x=>du v1 fun b4=>bI (!b4) (ak (aG vE) 56 [a,.bool false] k fun v5 b _x=>aE v5 fun l m n c=>(bP (St.add b (VM.Obj.cells 44 [.int .u8 0,.int .u8 0,.str [],.aq])) fun a7=>af c (ao (aG vE) 4 (.mp (St.h b) 0) (.agg [.int .u8 l,.int .u8 m,.str n,c]) [.int .u8 l,.int .u8 m,.str n,c] a7 fun _x a8 _x_1=>aK (bu (ql a b) ([],a8)) fun d=>cT d.2.1 (aA 4 true (.mp (St.h b) 0) d.2.2 fun a9 _x=>aE a9 fun o p q e=>(af e (ao (aG vE) 4 (.mp (St.h st) 0) (.agg [.int .u8 o,.int .u8 p,.str q,e]) [.int .u8 o,.int .u8 p,.str q,e] d.2.2 fun _x r _x_2=>aA 4 true (.mp (St.h st) 0) r fun b0 _x=>aE b0 fun b1 b2 b3 b4=>(some (.agg [.int .u8 b1,.int .u8 b2,.str b3,b4],r)))))))) (ak (aG vE) 39 [a] k fun b5 f _x=>aE b5 fun s t u g=>(bP (St.add f (VM.Obj.cells 44 [.int .u8 0,.int .u8 0,.str [],.aq])) fun b6=>af g (ao (aG vE) 4 (.mp (St.h f) 0) (.agg [.int .u8 s,.int .u8 t,.str u,g]) [.int .u8 s,.int .u8 t,.str u,g] b6 fun _x v _x_1=>aA 4 true (.mp (St.h f) 0) v fun b7 b8=>aE b7 fun w y z i=>(ak (aG vE) 84 [a,.str [101,120,112,114],.fn (Fn.func 114) [a] []] v fun b9 c0 c1=>aE b9 fun a0 a1 a2 j=>(cQ (apart (Fx.mk b8 gg.kept) c1&&true) (af i (af j (af i (aV i fun a3=>af j (aV j fun a4=>ao (aG vE) 4 (.mp (St.h st) 0) (.agg [.int .u8 12,.int .u8 0,.str [],.sl 4 [.agg [.int .u8 w,.int .u8 y,.str z,a3],.agg [.int .u8 a0,.int .u8 a1,.str a2,a4]] .shut]) [.int .u8 12,.int .u8 0,.str [],.sl 4 [.agg [.int .u8 w,.int .u8 y,.str z,a3],.agg [.int .u8 a0,.int .u8 a1,.str a2,a4]] .shut] c0 fun _x a5 _x_2=>aA 4 true (.mp (St.h st) 0) a5 fun c2 _x=>aE c2 fun c3 c4 c5 c6=>(some (.agg [.int .u8 c3,.int .u8 c4,.str c5,c6],a5))))))))))))
theorem Lc (x0:AV) (st:St):ey vE 114 [x0] st=P0 x0 st:=by kernel_rfl
end Go.Proofs.YtmngkfmgnkeclaaGreatDoor.Vm
namespace Go.Proofs.YtmngkfmgnkeclaaGreatDoor.Vm
open Go Go.VM Go.Proofs Go.Lex
theorem yM {p:UInt8→Bool} (h:((List.range 256).all fun n=>p (UInt8.ofNat n))=true) (b:UInt8):p b=true:=by
 have:=List.all_eq_true.1 h b.toNat (List.mem_range.2 (UInt8.toNat_lt b))
 simpa using this
theorem jE {p q:UInt8→Bool} (h:((List.range 256).all fun n=>p (UInt8.ofNat n)==q (UInt8.ofNat n))=true):p=q:=by
 funext b
 exact eq_of_beq (yM (p:=fun b=>p b==q b) h b)
theorem M8 {s c:List UInt8} {p:UInt8→Bool} (hc:(c.length.blt 4294967281&&c.all (fun b=>b.toNat.blt 128))=true) (hp:(fun b=>c.contains b)=p) (hs:s.length≤1000000):
  (aG vE).bare 46 [.str s,.str c]=some (.int .i64 (wh p s:Int)):=by
 refine br rfl ((NS _ _).trans ?_)
 have h1:gL [.str s,.str c]= .ok (.str (s.dropWhile p)):=by
  simp only [gL,hc,Lib.trimLeftS]
  rw [← hp]
 have h2:=Od p s
 have h3:IntKind.wrap .i64 ((s.length:Int) - ((s.dropWhile p).length:Int))=(wh p s:Int):=by
  rw [CY (by omega) (by omega)];congr 1;omega
 simp only [SC,az,jw h1,aY,h3]
theorem ly {β:Type} {s c:List UInt8} {p:UInt8→Bool} (hc:(c.length.blt 4294967281&&c.all (fun b=>b.toNat.blt 128))=true) (hp:(fun b=>c.contains b)=p) (hs:s.length≤1000000) (st:St) (K:Kv β):
  ak (aG vE) 46 [.str s,.str c] st K=K (.int .i64 (wh p s:Int)) st q0:=bj st K rfl rfl rfl (M8 hc hp hs)
theorem GO {β:Type} {s:List UInt8} (hs:s.length≤1000000) (st:St) (K:Kv β):ak (aG vE) 46 [.str s,.str [32,9,10,13]] st K=K (.int .i64 (wh bJ s:Int)) st q0:=
 ly rfl (jE (by decide+kernel)) hs st K
theorem LK {β:Type} {s:List UInt8} (hs:s.length≤1000000) (st:St) (K:Kv β):ak (aG vE) 46 [.str s,.str [97,98,99,100,101,102,103,104,105,106,107,108,109,110,111,112,113,114,115,116,117,118,119,120,121,122,95]] st K=K (.int .i64 (wh jW s:Int)) st q0:=
 ly (by decide+kernel) (jE (by decide+kernel)) hs st K
theorem AQ {β:Type} {s:List UInt8} (hs:s.length≤1000000) (st:St) (K:Kv β):ak (aG vE) 46 [.str s,.str [48,49,50,51,52,53,54,55,56,57]] st K=K (.int .i64 (wh bm s:Int)) st q0:=
 ly rfl (jE (by decide+kernel)) hs st K
theorem KO {β:Type} {s:List UInt8} (hs:s.length≤1000000) (st:St) (K:Kv β):ak (aG vE) 46 [.str s,.str [97,98,99,100,101,102,103,104,105,106,107,108,109,110,111,112,113,114,115,116,117,118,119,120,121,122,95,65,66,67,68,69,70,71,72,73,74,75,76,77,78,79,80,81,82,83,84,85,86,87,88,89,90,39,48,49,50,51,52,53,54,55,56,57]] st K=K (.int .i64 (wh gT s:Int)) st q0:=
 ly (by decide+kernel) (jE (by decide+kernel)) hs st K
def QT (c:UInt8):Bool:=c==101||c==69
theorem Ql {β:Type} {s:List UInt8} (hs:s.length≤1000000) (st:St) (K:Kv β):ak (aG vE) 46 [.str s,.str [101,69]] st K=K (.int .i64 (wh QT s:Int)) st q0:=
 ly rfl (jE (by decide+kernel)) hs st K
theorem Lh {β:Type} {s:List UInt8} (hs:s.length≤1000000) (st:St) (K:Kv β):ak (aG vE) 46 [.str s,.str [43,45]] st K=K (.int .i64 (wh wU s:Int)) st q0:=
 ly rfl (jE (by decide+kernel)) hs st K
theorem KT {β:Type} {s:List UInt8} (hs:s.length≤1000000) (st:St) (K:Kv β):ak (aG vE) 46 [.str s,.str [40,41,91,93,44,59,124,61,60,62,43,45,42,47,94,64]] st K=K (.int .i64 (wh kJ s:Int)) st q0:=
 ly rfl (jE (by decide+kernel)) hs st K
theorem HB (s p:List UInt8):(aG vE).bare 73 [.str s,.str p]=some (.bool (s.take p.length==p)):=by
 refine br rfl ((NB _ _).trans ?_)
 by_cases h:(s.length:Int)≥(p.length:Int)
 ·simp only [Rr,az,aF,if_pos h,gz (show p.length≤s.length by omega),bf,List.drop_zero,aY,al,ag,aC,ah]
 ·have e:(s.take p.length==p)=false:=by
   rw [beq_eq_false_iff_ne]
   intro e
   have:=congrArg List.length e
   rw [List.length_take] at this
   omega
  simp only [Rr,az,aF,if_neg h,al,ag,aC,ah,e]
theorem GM (s p:List UInt8):(aG vE).bare 47 [.str s,.str p]=some (.bool (s.take p.length==p)):=by
 refine br rfl ((OK _ _).trans ?_)
 have h: ∀{β:Type} (st:St) (K:Kv β),ak (aG vE) 73 [.str s,.str p] st K=K (.bool (s.take p.length==p)) st q0:=fun st K=>bj st K rfl rfl rfl (HB s p)
 simp only [RS,az,h,aC]
theorem fk {β:Type} (s p:List UInt8) (st:St) (K:Kv β):ak (aG vE) 47 [.str s,.str p] st K=K (.bool (s.take p.length==p)) st q0:=bj st K rfl rfl rfl (GM s p)
theorem KF (s p:List UInt8):(aG vE).bare 50 [.str s,.str p]=some (.str (if (s.take p.length==p)=true then s.drop p.length else s)):=by
 have h: ∀{β:Type} (st:St) (K:Kv β),ak (aG vE) 73 [.str s,.str p] st K=K (.bool (s.take p.length==p)) st q0:=fun st K=>bj st K rfl rfl rfl (HB s p)
 have h2:(aG vE).bare 77 [.str s,.str p]=some (.str (if (s.take p.length==p)=true then s.drop p.length else s)):=by
  refine br rfl ((NN _ _).trans ?_)
  simp only [SD,az,h,aC]
  cases e:s.take p.length==p with
  | true=>
   have hl:p.length≤s.length:=by
    have:=congrArg List.length (eq_of_beq e)
    rw [List.length_take] at this
    omega
   simp only [aH,gz hl,bf,List.take_length,aY,if_true]
  | false=>rfl
 have h3: ∀{β:Type} (st:St) (K:Kv β),ak (aG vE) 77 [.str s,.str p] st K=K (.str (if (s.take p.length==p)=true then s.drop p.length else s)) st q0:=fun st K=>bj st K rfl rfl rfl h2
 refine br rfl ((N9 _ _).trans ?_)
 simp only [R8,az,h3]
theorem Gb {β:Type} (s p:List UInt8) (st:St) (K:Kv β):ak (aG vE) 50 [.str s,.str p] st K=K (.str (if (s.take p.length==p)=true then s.drop p.length else s)) st q0:=bj st K rfl rfl rfl (KF s p)
def tD (s:List UInt8) (c:UInt8):Int:=match dG c.toNat s with | some i=>(i:Int) | none=> -1
theorem ID (s:List UInt8) (c:UInt8):(aG vE).bare 51 [.str s,.int .u8 (c.toNat:Int)]=some (.int .i64 (tD s c)):=by
 have h:(aG vE).bare 78 [.str s,.int .u8 (c.toNat:Int)]=some (.int .i64 (tD s c)):=by
  refine br rfl ((MA _ _).trans ?_)
  have e:((c.toNat:Int).toNat % 256)=c.toNat:=by
   have:=UInt8.toNat_lt c
   omega
  simp only [RW,az,aj,dF,lZ,fu,mw,al,e,tD]
  rfl
 have h3: ∀{β:Type} (st:St) (K:Kv β),ak (aG vE) 78 [.str s,.int .u8 (c.toNat:Int)] st K=K (.int .i64 (tD s c)) st q0:=fun st K=>bj st K rfl rfl rfl h
 refine br rfl ((Nh _ _).trans ?_)
 simp only [Si,az,aj,h3]
theorem lJ {β:Type} (s:List UInt8) (c:UInt8) (st:St) (K:Kv β):ak (aG vE) 51 [.str s,.int .u8 (c.toNat:Int)] st K=K (.int .i64 (tD s c)) st q0:=bj st K rfl rfl rfl (ID s c)
def ux:AV:= .im ((.str [95],.int .u8 8)::words.map fun w=>(.str w,.int .u8 3))
def xy:cV AV→Bool
 | .ok (.im [(.str w0,.int .u8 n0),(.str w1,.int .u8 n1),(.str w2,.int .u8 n2),(.str w3,.int .u8 n3),(.str w4,.int .u8 n4),(.str w5,.int .u8 n5),(.str w6,.int .u8 n6),(.str w7,.int .u8 n7),(.str w8,.int .u8 n8),(.str w9,.int .u8 n9),(.str w10,.int .u8 n10),(.str w11,.int .u8 n11),(.str w12,.int .u8 n12)])=>
  ([w0,w1,w2,w3,w4,w5,w6,w7,w8,w9,w10,w11,w12]==[95]::words)&&([n0,n1,n2,n3,n4,n5,n6,n7,n8,n9,n10,n11,n12]==8::words.map fun _=>3)
 | _=>false
theorem C6 {r:cV AV} (h:xy r=true):r= .ok ux:=by
 unfold xy at h
 split at h
 ·simp only [Bool.and_eq_true] at h
  have h1:=eq_of_beq h.1
  have h2:=eq_of_beq h.2
  simp only [words,List.map_cons,List.map_nil,List.cons.injEq,and_true] at h1 h2
  obtain ⟨rfl,rfl,rfl,rfl,rfl,rfl,rfl,rfl,rfl,rfl,rfl,rfl,rfl⟩:=h1
  obtain ⟨rfl,rfl,rfl,rfl,rfl,rfl,rfl,rfl,rfl,rfl,rfl,rfl,rfl⟩:=h2
  rfl
 ·cases h
theorem HM:(aG vE).bare 48 []=some ux:=by
 have h:xy ((caller vE 300).bare 48 [])=true:=by kernel_rfl
 exact vS (C6 h)
theorem Ey {β:Type} (st:St) (K:Kv β):ak (aG vE) 48 [] st K=K ux st q0:=bj st K rfl rfl rfl HM
theorem wb (w:List UInt8): ∀(l:List (List UInt8)),gS (.str w) (l.map fun w=>(AV.str w,AV.int .u8 3))= .ok (if l.contains w then some (.int .u8 3) else none)
 | []=>rfl
 | x::l=>by
  have ih:=wb w l
  simp only [List.map_cons,gS,rp,au,List.contains_cons]
  cases e:w==x with
  | true=>rfl
  | false=>
   simp only [Bool.false_or]
   exact ih
theorem Dt {β:Type} (w:List UInt8) (st:St) (K:Kv β):dF (aG vE) (iO (Env.T vE) 93 ux (.str w) true) st K=
  K (.tup [.int .u8 (if w=[95] then 8 else if words.contains w then 3 else 0:Int),.bool (decide (w=[95])||words.contains w)]) st q0:=by
 have e1:ti (Env.T vE) 93= .ok ⟨.map 9 5,1,8,[.nilm],false,false⟩:=rfl
 have e2:ti (Env.T vE) 5= .ok ⟨.int .u8,1,1,[.int .u8 0],false,false⟩:=rfl
 have e3:ti (Env.T vE) 9= .ok ⟨.str,1,16,[.str []],false,false⟩:=rfl
 have e4:gS (.str w) ((.str [95],.int .u8 8)::words.map fun w=>(.str w,.int .u8 3))= .ok (if w=[95] then some (.int .u8 8) else if words.contains w then some (.int .u8 3) else none):=by
  simp only [gS,rp,au]
  cases e:w==[95] with
  | true=>rw [if_pos (eq_of_beq e)];rfl
  | false=>rw [if_neg (by simpa using e)];exact wb w words
 have e5:iO (Env.T vE) 93 ux (.str w) true= .ok (.val (.tup [.int .u8 (if w=[95] then 8 else if words.contains w then 3 else 0:Int),.bool (decide (w=[95])||words.contains w)])):=by
  simp only [iO,e1,e2,e3,au,oR,ux,found,e4]
  by_cases h:w=[95]
  ·simp [h];rfl
  ·cases h2:words.contains w <;> simp [h] <;> rfl
 rw [e5];rfl
theorem IZ {s:List UInt8} (hs:s.length≤1000000):(aG vE).bare 30 [.str s]=some (.tup [.int .u8 1,.int .i64 (wh bJ s:Int)]):=by
 refine br rfl ((M0 _).trans ?_)
 simp only [RR,az,GO hs,aj]
theorem jY (s:List UInt8) (hs:s.length≤1000000) (st:St): ∀(l:List UInt8) (i d:Nat),s.drop i=l→i≤s.length→1≤d→d≤i→
  bu (mM s) ([.int .i64 (d:Int),.int .u8 0,.int .i64 0,.int .i64 (i:Int)],st)=some (match rem l d with | some n=>(1,[.int .u8 2,.int .i64 ((i+n:Nat):Int)],st) | none=>(0,[.int .u8 0,.int .i64 0],st))
 | [],i,d,hd,hi,h1,h2=>by
  have:=List.drop_eq_nil_iff.1 hd
  have q:¬ (i:Int) < (s.length:Int):=by omega
  refine bC ?_
  simp only [mM,ag,aj,ah,aF,if_neg q]
  rfl
 | [a],i,d,hd,hi,h1,h2=>by
  obtain ⟨hg,hr,hlt⟩:=drop_cons hd
  have q:(i:Int) < (s.length:Int):=by omega
  have ih:=jY s hs st [] (i+1) d hr (by omega) h1 (by omega)
  rw [bR (s':=([.int .i64 (d:Int),.int .u8 0,.int .i64 0,.int .i64 ((i+1:Nat):Int)],st)),ih]
  ·rfl
  ·simp only [mM,ag,aj,ah,aF,if_pos q,cR (show i≤s.length by omega),List.take_length,aY,hd,fk,aC]
   simp only [show ([a].take [(40:UInt8),42].length==[40,42])=false by simp,show ([a].take [(42:UInt8),41].length==[42,41])=false by simp,aB,al,dC,ag,aj,ah,cH (show i+1≤9223372036854775807 by omega)]
 | a::b::l,i,d,hd,hi,h1,h2=>by
  obtain ⟨hg,hr,hlt⟩:=drop_cons hd
  obtain ⟨hg2,hr2,hlt2⟩:=drop_cons hr
  have q:(i:Int) < (s.length:Int):=by omega
  have t1:((a::b::l).take [(40:UInt8),42].length==[40,42])=(decide (a=40∧b=42)):=by
   show ([a,b]==[40,42])= _
   by_cases h:a=40∧b=42
   ·rw [h.1,h.2];rfl
   ·rw [decide_eq_false h,beq_eq_false_iff_ne]
    intro e
    simp only [List.cons.injEq,and_true] at e
    exact h e
  have t2:((a::b::l).take [(42:UInt8),41].length==[42,41])=(decide (a=42∧b=41)):=by
   show ([a,b]==[42,41])= _
   by_cases h:a=42∧b=41
   ·rw [h.1,h.2];rfl
   ·rw [decide_eq_false h,beq_eq_false_iff_ne]
    intro e
    simp only [List.cons.injEq,and_true] at e
    exact h e
  by_cases c1:a=40∧b=42
  ·have ih:=jY s hs st l (i+2) (d+1) hr2 (by omega) (by omega) (by omega)
   rw [bR (s':=([.int .i64 ((d+1:Nat):Int),.int .u8 0,.int .i64 0,.int .i64 ((i+2:Nat):Int)],st)),ih]
   ·simp only [rem,if_pos c1]
    cases rem l (d+1) with
    | none=>rfl
    | some n=>simp only [Option.map_some];rw [show i+2+n=i+(n+2) by omega]
   ·simp only [mM,ag,aj,ah,aF,if_pos q,cR (show i≤s.length by omega),List.take_length,aY,hd,fk,aC,t1,if_pos c1,al,dC,cH (show d+1≤9223372036854775807 by omega),vO (show i+2≤9223372036854775807 by omega)]
  ·by_cases c2:a=42∧b=41
   ·have w:=CY (n:=d) (m:=1) h1 (by omega)
    have w:IntKind.wrap .i64 ((d:Int) - 1)=((d - 1:Nat):Int):=w
    by_cases c3:d=1
    ·subst c3
     simp only [rem,if_neg c1,if_pos c2,if_true]
     refine bC ?_
     simp only [mM,ag,aj,ah,aF,if_pos q,cR (show i≤s.length by omega),List.take_length,aY,hd,fk,aC,t1,t2,if_neg c1,if_pos c2,al,w,vO (show i+2≤9223372036854775807 by omega),eI]
     rfl
    ·have ih:=jY s hs st l (i+2) (d - 1) hr2 (by omega) (by omega) (by omega)
     have z:¬ ((d - 1:Nat):Int)=0:=by omega
     rw [bR (s':=([.int .i64 ((d - 1:Nat):Int),.int .u8 0,.int .i64 0,.int .i64 ((i+2:Nat):Int)],st)),ih]
     ·simp only [rem,if_neg c1,if_pos c2,if_neg c3]
      cases rem l (d - 1) with
      | none=>rfl
      | some n=>simp only [Option.map_some];rw [show i+2+n=i+(n+2) by omega]
     ·simp only [mM,ag,aj,ah,aF,if_pos q,cR (show i≤s.length by omega),List.take_length,aY,hd,fk,aC,t1,t2,if_neg c1,if_pos c2,al,w,vO (show i+2≤9223372036854775807 by omega),eI,if_neg z,dC]
   ·have ih:=jY s hs st (b::l) (i+1) d hr (by omega) h1 (by omega)
    rw [bR (s':=([.int .i64 (d:Int),.int .u8 0,.int .i64 0,.int .i64 ((i+1:Nat):Int)],st)),ih]
    ·simp only [rem,if_neg c1,if_neg c2]
     cases rem (b::l) d with
     | none=>rfl
     | some n=>simp only [Option.map_some];rw [show i+1+n=i+(n+1) by omega]
    ·simp only [mM,ag,aj,ah,aF,if_pos q,cR (show i≤s.length by omega),List.take_length,aY,hd,fk,aC,t1,t2,if_neg c1,if_neg c2,al,dC,cH (show i+1≤9223372036854775807 by omega)]
theorem Gx {s:List UInt8} (hs:s.length≤1000000):(aG vE).bare 31 [.str s]=some (if s.take 2=[40,42] then (match rem (s.drop 2) 1 with | some n=> .tup [.int .u8 2,.int .i64 ((n+2:Nat):Int)] | none=> .tup [.int .u8 9,.int .i64 (s.length:Int)]) else .tup [.int .u8 0,.int .i64 0]):=by
 refine br rfl ((MH _).trans ?_)
 by_cases h:s.take 2=[40,42]
 ·have h':(s.take [(40:UInt8),42].length==[40,42])=true:=by simpa using h
  have hl:2≤s.length:=by
   have:=congrArg List.length h
   rw [List.length_take] at this
   simp at this;omega
  have q:(0:Int) < (s.length:Int):=by omega
  have e:bu (mM s) ([.int .i64 0,.int .u8 0,.int .i64 0,.int .i64 0],St.mk 0 0 Tr.leaf)=some (match rem (s.drop 2) 1 with | some n=>(1,[.int .u8 2,.int .i64 ((2+n:Nat):Int)],St.mk 0 0 Tr.leaf) | none=>(0,[.int .u8 0,.int .i64 0],St.mk 0 0 Tr.leaf)):=by
   rw [bR (s':=([.int .i64 ((1:Nat):Int),.int .u8 0,.int .i64 0,.int .i64 ((2:Nat):Int)],St.mk 0 0 Tr.leaf)),jY s hs (St.mk 0 0 Tr.leaf) (s.drop 2) 2 1 rfl hl (by omega) (by omega)]
   simp only [mM,ag,aj,ah,aF,if_pos q,show fJ (0:Int) s.length=fJ ((0:Nat):Int) s.length from rfl,cR (show 0≤s.length by omega),List.take_length,List.drop_zero,aY,fk,aC,h',aH,al,dC]
   rfl
  simp only [Rh,az,fk,aC,h',Bool.not_true,aB,if_pos h]
  rw [e]
  cases rem (s.drop 2) 1 with
  | none=>simp only [al,ag,aj,ah,iH]
  | some n=>simp only [al,ag,aj,ah,pC];rw [Nat.add_comm 2 n]
 ·have h':(s.take [(40:UInt8),42].length==[40,42])=false:=by simpa using h
  simp only [Rh,az,fk,aC,h',Bool.not_false,aH,if_neg h]
theorem Kf {c:UInt8} {l:List UInt8} (hs:(c::l).length≤1000000):(aG vE).bare 32 [.str (c::l)]=some (if jW c then .tup [.int .u8 (nA ((c::l).takeWhile gT):Int),.int .i64 (wh gT (c::l):Int)] else .tup [.int .u8 0,.int .i64 0]):=by
 refine br rfl ((M5 _).trans ?_)
 have h1:(List.drop 0 (List.take 1 (c::l)))=[c]:=rfl
 have h2:wh jW [c]=if jW c then 1 else 0:=by rw [eK];rfl
 simp only [R5,az,gz (show 1≤(c::l).length by simp),bf,aY,h1,LK (show [c].length≤1000000 by simp),aj,eI,h2]
 cases hc:jW c with
 | false=>rfl
 | true=>
  simp only [if_true,show ¬ (((1:Nat):Int)=0) by omega,if_false,KO hs,aj,Ey,gH,ga,Bool.and_self,bf,cR (lB gT (c::l)),List.drop_zero,aY,qx,Dt,dj,bS,cA,aC]
  generalize (c::l).takeWhile gT=w
  unfold nA
  by_cases e1:w=[95]
  ·simp [e1]
  ·cases e2:words.contains w <;> simp [e1] <;> rfl
theorem Fl: ∀(l:List UInt8) (a:Nat),a≤kV a l
  | [],a=>by rw [BW];exact Nat.le_refl _
  | c::l,a=>by
    have:=Fl l (uY a c)
    rw [yO]
    unfold uY at this ⊢
    omega
theorem rA: ∀(l:List UInt8) (a:Nat),l.all bm=true→a < 18446744073709551616→Lib.parseUint10 a l=if kV a l < 18446744073709551616 then .ok (kV a l) else .range
  | [],a,_,ha=>by rw [BW,if_pos ha,Lib.parseUint10]
  | c::l,a,h,ha=>by
    simp only [List.all_cons,Bool.and_eq_true] at h
    have hc:48≤c.toNat∧c.toNat≤57:=by
      have:=h.1
      simp only [bm,Bool.and_eq_true,decide_eq_true_eq] at this
      exact this
    have hg:=Fl l (uY a c)
    have hs:a * 10+(c.toNat - 48)=uY a c:=id rfl
    have hs2:a * 10≤uY a c:=by rw [← hs];omega
    rw [Lib.parseUint10,if_pos hc,yO,hs]
    by_cases c1:1844674407370955162≤a
    · rw [if_pos c1,if_neg (by omega)]
    · rw [if_neg c1]
      by_cases c2:18446744073709551616≤uY a c
      · rw [if_pos c2,if_neg (by omega)]
      · rw [if_neg c2]
        exact rA l _ h.2 (by omega)
theorem xR {l:List UInt8} (hne:l≠[]) (h:l.all bm=true):Lib.atoiAll l=if kV 0 l < 9223372036854775808 then .ok (kV 0 l:Int) else .range:=by
  cases l with
  | nil=>exact absurd rfl hne
  | cons c r=>
    have hc:48≤c.toNat∧c.toNat≤57:=by
      simp only [List.all_cons,Bool.and_eq_true] at h
      have:=h.1
      simp only [bm,Bool.and_eq_true,decide_eq_true_eq] at this
      exact this
    have n1:¬ (c.toNat=43∨c.toNat=45):=by omega
    have n2:¬ c.toNat=45:=by omega
    have hp:=rA (c::r) 0 h (by omega)
    simp only [Lib.atoiAll,if_neg n1,Lib.parseMag,if_neg hne,hp]
    by_cases c1:kV 0 (c::r) < 18446744073709551616
    · rw [if_pos c1]
      dsimp only
      by_cases c2:kV 0 (c::r) < 9223372036854775808
      · rw [if_pos c2,if_neg (by omega),if_neg (by omega),if_neg n2]
      · rw [if_neg c2,if_pos (by omega)]
    · rw [if_neg c1,if_neg (by omega)]
theorem DO {l:List UInt8} (hne:l≠[]) (h:l.all bm=true):Lib.atoiAll (45::l)=if kV 0 l≤9223372036854775808 then .ok (-(kV 0 l:Int)) else .range:=by
  have e:(45:UInt8).toNat=45:=rfl
  have hp:=rA l 0 h (by omega)
  simp only [Lib.atoiAll,e,or_true,if_true,Lib.parseMag,if_neg hne,hp]
  by_cases c1:kV 0 l < 18446744073709551616
  · rw [if_pos c1]
    dsimp only
    by_cases c2:kV 0 l≤9223372036854775808
    · rw [if_pos c2,if_neg (by simp),if_neg (by omega)]
    · rw [if_neg c2,if_neg (by simp),if_pos ⟨trivial,by omega⟩]
  · rw [if_neg c1,if_neg (by omega)]
theorem qR (p:UInt8→Bool) (l:List UInt8):(l.takeWhile p).all p=true:=by
  induction l with
  | nil=>rfl
  | cons c l ih=>
    rw [List.takeWhile_cons]
    split
    · rename_i h;simp [h,ih]
    · rfl
def OI (k:Nat) (x:Int):Bool:=decide (x - k < -22)||decide (x - k > 22)
theorem JA {n:Int} (h1:n < -9223372036854775808) (h2: -18446744073709551616≤n):IntKind.wrap .i64 n=n+18446744073709551616:=by
  have e:IntKind.wrap .i64 n=if n % 18446744073709551616≥9223372036854775808 then n % 18446744073709551616 - 18446744073709551616 else n % 18446744073709551616:=by
    show (if (true&&decide (n % (2 ^ 64:Int)≥(2 ^ 63:Int)))=true then n % (2 ^ 64:Int) - (2 ^ 64:Int) else n % (2 ^ 64:Int))= _
    simp
  rw [e]
  split <;> omega
structure Qo (k v:Nat) (neg:Bool) (x:Int):Prop where
  lo: -9223372036854775808≤x
  hi:x≤9223372036854775807
  eq:v≤1000000→x=if neg then -(v:Int) else v
  far:1000000 < v→1000000 < x∨x < -1000000
theorem Ix {k v:Nat} {neg:Bool} {x:Int} (h:Qo k v neg x) (hk:k≤500000):
    (decide (IntKind.wrap .i64 (x - k) < -22)||decide (IntKind.wrap .i64 (x - k) > 22))=OI k (if neg then -((min v 1000000:Nat):Int) else ((min v 1000000:Nat):Int)):=by
  obtain ⟨h1,h2,h3,h4⟩:=h
  have hw:(IntKind.wrap .i64 (x - k)=x - k)∨(x - k < -9223372036854775808∧IntKind.wrap .i64 (x - k)=x - k+18446744073709551616):=by
    by_cases c: -9223372036854775808≤x - k
    · exact .inl (wrap_i64 c (by omega))
    · exact .inr ⟨by omega,JA (by omega) (by omega)⟩
  unfold OI
  by_cases hv:v≤1000000
  · have hx:=h3 hv
    have hw:IntKind.wrap .i64 (x - k)=x - k:=by
      rcases hw with hw | ⟨hw,_⟩
      · exact hw
      · exfalso
        cases neg <;> simp at hx <;> omega
    rw [hw,Nat.min_eq_left hv,hx]
  · have hx:=h4 (by omega)
    rw [Nat.min_eq_right (by omega)]
    have l:(decide (IntKind.wrap .i64 (x - k) < -22)||decide (IntKind.wrap .i64 (x - k) > 22))=true:=by
      rw [Bool.or_eq_true,decide_eq_true_eq,decide_eq_true_eq]
      rcases hw with hw | ⟨_,hw⟩ <;> rw [hw] <;> omega
    have r: ∀y:Int,(y=1000000∨y= -1000000)→(decide (y - (k:Int) < -22)||decide (y - (k:Int) > 22))=true:=by
      intro y hy
      rw [Bool.or_eq_true,decide_eq_true_eq,decide_eq_true_eq]
      omega
    rw [l]
    cases neg
    · exact (r _ (.inl rfl)).symm
    · exact (r _ (.inr rfl)).symm
theorem Ki:FW BinOp.neq AV.nili=some (.bool false):=rfl
theorem JU (t:TypeId) (v:AV):FW BinOp.neq (AV.iface t v)=some (.bool true):=rfl
theorem Gs {l:List UInt8} (hs:l.length≤1000000) {d:Nat} (hd:wh bm (l.drop (jf l))=d) (h0:0 < d) (k:Nat):
    ∃x:Int,Qo k (kV 0 ((l.drop (jf l)).take d)) (decide (l.head?=some 45)) x∧ ∀{β:Type} (st:St) (K:Int→dK→Option β),
      (dF (aG vE) (fu (Prim.lib (iX 143)) [AV.str (if ((l.take (jf l+d)).take [(43:UInt8)].length==[43])=true then (l.take (jf l+d)).drop [(43:UInt8)].length else l.take (jf l+d))]) st fun v63 st64 _x=>iy v63 fun l66=>da l66 0 fun v67=>bV .i64 v67 fun n68=>iy v63 fun l69=>da l69 1 fun v70=>aK (FW BinOp.neq v70) fun v71=>du
 v71 fun b72=>aK (bI b72 (some (([AV.int .i64 1073741824],st64):dK)) (some ([AV.int .i64 n68],st64))) fun c73=>bK (Prod.fst c73) fun v74 l75=>bV .i64 v74 fun n76=>cT l75 (K n76 c73))=K x ([AV.int .i64 x],st):=by
  have hD:(l.drop (jf l)).take d=(l.drop (jf l)).takeWhile bm:=by rw [← hd,qx]
  have hall:((l.drop (jf l)).take d).all bm=true:=by rw [hD];exact qR _ _
  have hlen:((l.drop (jf l)).take d).length=d:=by rw [hD, ← hd];rfl
  have hne:(l.drop (jf l)).take d≠[]:=by
    intro e
    rw [e] at hlen
    simp at hlen;omega
  have fin: ∀(D:List UInt8),D.length≤1000001→ ∀{β:Type} (st:St) (K:Int→dK→Option β) (x:Int),(Lib.atoiAll D= .ok x∨(Lib.atoiAll D= .range∧x=1073741824))→
      (dF (aG vE) (fu (Prim.lib (iX 143)) [AV.str D]) st fun v63 st64 _x=>iy v63 fun l66=>da l66 0 fun v67=>bV .i64 v67 fun n68=>iy v63 fun l69=>da l69 1 fun v70=>aK (FW BinOp.neq v70) fun v71=>du
 v71 fun b72=>aK (bI b72 (some (([AV.int .i64 1073741824],st64):dK)) (some ([AV.int .i64 n68],st64))) fun c73=>bK (Prod.fst c73) fun v74 l75=>bV .i64 v74 fun n76=>cT l75 (K n76 c73))=K x ([AV.int .i64 x],st):=by
    intro D hDl β st K x hx
    rcases hx with hx | ⟨hx,rfl⟩
    · have hl:iX 143 [.str D]= .ok (.tup [.int .i64 x,.nili]):=by simp only [iX,gz (show D.length≤281474976710656 by omega),hx]
      simp only [jw hl,dj,bS,cA,aj,Ki,al,aC,aB,ag,ah]
    · have hl:iX 143 [.str D]= .ok (.tup [.int .i64 (Lib.atoiSat D),.iface 143 (.opq false)]):=by simp only [iX,gz (show D.length≤281474976710656 by omega),hx]
      simp only [jw hl,dj,bS,cA,aj,JU,al,aC,aH,ag,ah]
  cases l with
  | nil=>simp [jf] at hne
  | cons c r=>
    by_cases c1:c=43
    · subst c1
      have e1:jf ((43:UInt8)::r)=1:=rfl
      rw [e1] at hall hlen hne hD ⊢
      simp only [List.drop_succ_cons,List.drop_zero] at hall hlen hne hD ⊢
      have hp:=xR hne hall
      have e2:(if (((43::r).take (1+d)).take [(43:UInt8)].length==[43])=true then ((43:UInt8)::r |>.take (1+d)).drop [(43:UInt8)].length else (43::r).take (1+d))=r.take d:=by
        rw [Nat.add_comm 1 d];rfl
      rw [e2]
      by_cases c2:kV 0 (r.take d) < 9223372036854775808
      · rw [if_pos c2] at hp
        exact ⟨kV 0 (r.take d),⟨by omega,by omega,fun _=>by simp,fun _=>by omega⟩,fun st K=>fin _ (by rw [List.length_take];simp at hs;omega) st K _ (.inl hp)⟩
      · rw [if_neg c2] at hp
        exact ⟨1073741824,⟨by omega,by omega,fun _=>by omega,fun _=>by omega⟩,fun st K=>fin _ (by rw [List.length_take];simp at hs;omega) st K _ (.inr ⟨hp,rfl⟩)⟩
    · by_cases c3:c=45
      · subst c3
        have e1:jf ((45:UInt8)::r)=1:=rfl
        rw [e1] at hall hlen hne hD ⊢
        simp only [List.drop_succ_cons,List.drop_zero] at hall hlen hne hD ⊢
        have hp:=DO hne hall
        have e2:(if (((45::r).take (1+d)).take [(43:UInt8)].length==[43])=true then ((45:UInt8)::r |>.take (1+d)).drop [(43:UInt8)].length else (45::r).take (1+d))=45::r.take d:=by
          rw [Nat.add_comm 1 d];rfl
        rw [e2]
        by_cases c2:kV 0 (r.take d)≤9223372036854775808
        · rw [if_pos c2] at hp
          exact ⟨-(kV 0 (r.take d):Int),⟨by omega,by omega,fun _=>by simp,fun _=>by omega⟩,fun st K=>fin _ (by rw [List.length_cons,List.length_take];simp at hs;omega) st K _ (.inl hp)⟩
        · rw [if_neg c2] at hp
          exact ⟨1073741824,⟨by omega,by omega,fun _=>by omega,fun _=>by omega⟩,fun st K=>fin _ (by rw [List.length_cons,List.length_take];simp at hs;omega) st K _ (.inr ⟨hp,rfl⟩)⟩
      · have hsg:wU c=false:=by simp [wU,c1,c3]
        have e1:jf (c::r)=0:=by simp only [jf,hsg];rfl
        rw [e1] at hall hlen hne hD ⊢
        simp only [List.drop_zero,Nat.zero_add] at hall hlen hne hD ⊢
        have hp:=xR hne hall
        have e2:(if (((c::r).take d).take [(43:UInt8)].length==[43])=true then ((c::r).take d).drop [(43:UInt8)].length else (c::r).take d)=(c::r).take d:=by
          rw [if_neg]
          intro e
          have e:=eq_of_beq e
          cases d with
          | zero=>simp at h0
          | succ d=>simp at e;exact c1 e
        rw [e2]
        by_cases c2:kV 0 ((c::r).take d) < 9223372036854775808
        · rw [if_pos c2] at hp
          exact ⟨kV 0 ((c::r).take d),⟨by omega,by omega,fun _=>by simp [c3],fun _=>by omega⟩,fun st K=>fin _ (by rw [List.length_take];omega) st K _ (.inl hp)⟩
        · rw [if_neg c2] at hp
          exact ⟨1073741824,⟨by omega,by omega,fun _=>by omega,fun _=>by omega⟩,fun st K=>fin _ (by rw [List.length_take];omega) st K _ (.inr ⟨hp,rfl⟩)⟩
theorem IW (p:UInt8→Bool) (c:UInt8) (l:List UInt8):wh p ((c::l).take 1)=if p c then 1 else 0:=by
  show wh p [c]= _
  rw [eK];rfl
theorem Cj (s:List UInt8) (e:Nat):s.take (min s.length e)=s.take e:=by
  rcases Nat.le_total e s.length with h | h
  · rw [Nat.min_eq_right h]
  · rw [Nat.min_eq_left h,List.take_length,List.take_of_length_le h]
theorem FG (a b:Nat):(if (a:Int) < (b:Int) then (a:Int) else (b:Int))=((min a b:Nat):Int):=by split <;> omega
theorem mH (s:List UInt8) (e n:Nat):(s.take (e+n)).drop e=(s.drop e).take n:=by
  rw [List.drop_take];congr 1;omega
theorem zL {all k:Nat} {x:Int} {e:Int} (st:St) (b:Bool) (hb:(decide (IntKind.wrap .i64 (x - k) < -22)||decide (IntKind.wrap .i64 (x - k) > 22))=b):
    (aK (bI (decide ((all:Int) > 15)) (some (([AV.bool true],st):dK)) (bA (IntKind.wrap .i64 (x - (k:Int))) fun n94=>bI (decide (n94 < -22)) (some ([AV.bool true],st)) (bA (IntKind.wrap .i64 (x - (k:Int))) fun n95=>some ([AV.bool (decide (n95 > 22))],st)))) fun c96=>
 bK (Prod.fst c96) fun v97 l98=>du v97 fun b99=>cT l98 (bI b99 (some (AV.tup [AV.int .u8 9,AV.int .i64 e])) (some (AV.tup [AV.int .u8 6,AV.int .i64 e]))))=some (AV.tup [AV.int .u8 (if all > 15∨b=true then 9 else 6:Int),AV.int .i64 e]):=by
  simp only [aF,aY]
  by_cases c1:(all:Int) > 15
  · have:all > 15:=by omega
    simp only [if_pos c1,al,ag,aC,ah,aH,this,true_or,if_true]
  · have h1:¬ all > 15:=by omega
    rw [if_neg c1]
    by_cases c2:IntKind.wrap .i64 (x - (k:Int)) < -22
    · have:b=true:=by rw [← hb,decide_eq_true c2];rfl
      subst this
      simp only [if_pos c2,al,ag,aC,ah,aH,or_true,if_true]
    · rw [if_neg c2]
      have:b=decide (IntKind.wrap .i64 (x - (k:Int)) > 22):=by rw [← hb,decide_eq_false c2];rfl
      subst this
      simp only [al,ag,aC,ah,h1,false_or]
      cases decide (IntKind.wrap .i64 (x - (k:Int)) > 22) <;> rfl
theorem G4 {s:List UInt8} (hs:s.length≤500000):(aG vE).bare 33 [.str s]=some (if wh bm s=0 then .tup [.int .u8 5,.int .i64 0] else .tup [.int .u8 ((number s).1:Int),.int .i64 ((number s).2:Int)]):=by
  refine br rfl ((N3 _).trans ?_)
  have hn:=lB bm s
  simp only [SG,az,AQ (show s.length≤1000000 by omega),aj,eI]
  by_cases c0:wh bm s=0
  · have c0':((wh bm s:Nat):Int)=0:=by omega
    rw [if_pos c0',if_pos c0,c0]
    rfl
  have c0':¬ ((wh bm s:Nat):Int)=0:=by omega
  simp only [if_neg c0',if_neg c0,cR hn,List.take_length,aY,fk,aC,al,ag,ah]
  generalize hN:wh bm s=n at hn c0 c0'
  have hpre:((s.drop n).take [(46:UInt8)].length==[46])=decide ((s.drop n).head?=some 46):=by
    cases s.drop n with
    | nil=>rfl
    | cons c l=>
      show ([c]==[46])= _
      by_cases h:c=46
      · subst h;rfl
      · simp [h]
  rw [hpre]
  unfold number
  rw [hN]
  by_cases cd:(s.drop n).head?=some 46
  · have hlt:n < s.length:=by
      rcases Nat.lt_or_ge n s.length with q | q
      · exact q
      · rw [List.drop_of_length_le q] at cd;cases cd
    simp only [cd,decide_true,Bool.not_true,aB,if_true]
    have hk:=lB bm (s.drop (n+1))
    rw [List.length_drop] at hk
    have hl2:(s.drop (n+1)).length≤1000000:=by rw [List.length_drop];omega
    simp only [cH (show n+1≤9223372036854775807 by omega),cR (show n+1≤s.length by omega),List.take_length,AQ hl2,aj]
    generalize hK:wh bm (s.drop (n+1))=k at hk
    simp only [oO (show n+k≤9223372036854775807 by omega),oO (show n+1+k≤9223372036854775807 by omega),cH (show n+1+k+1≤9223372036854775807 by omega),FG,cR (Nat.min_le_left s.length (n+1+k+1)),cR (show n+1+k≤min s.length (n+1+k+1) by omega),Cj,mH]
    generalize hE:n+1+k=e at *
    have hle:e≤s.length:=by omega
    have hl3:((s.drop e).take 1).length≤1000000:=by rw [List.length_take,List.length_drop];omega
    simp only [Ql hl3,aj,aF]
    have none_case: ∀(x:Nat×Int),x=(0,0)→(aK (bI (decide (((n+k:Nat):Int) > 15)) (some (([AV.bool true],St.mk 0 0 Tr.leaf):dK)) (bA (IntKind.wrap .i64 ((0:Int) - (k:Int))) fun n94=>bI (decide (n94 < -22)) (some ([AV.bool true],St.mk 0 0 Tr.leaf)) (bA (IntKind.wrap .i64 ((0:Int) - (k:Int))) fun n95=>some ([AV.bool (decide (n95 > 22))],St.mk 0 0 Tr.leaf)))) fun c96=>
 bK (Prod.fst c96) fun v97 l98=>du v97 fun b99=>cT l98 (bI b99 (some (AV.tup [AV.int .u8 9,AV.int .i64 (e:Int)])) (some (AV.tup [AV.int .u8 6,AV.int .i64 (e:Int)]))))=some (AV.tup [AV.int .u8 ((if n+k > 15∨x.2 - (k:Int) < -22∨x.2 - (k:Int) > 22 then 9 else 6:Nat):Int),AV.int .i64 ((e+x.1:Nat):Int)]):=by
      rintro _ rfl
      have hw:IntKind.wrap .i64 ((0:Int) - (k:Int))=0 - (k:Int):=wrap_i64 (by omega) (by omega)
      rw [zL (St.mk 0 0 Tr.leaf) (decide ((0:Int) - k < -22)||decide ((0:Int) - k > 22)) (by rw [hw])]
      simp only [Bool.or_eq_true,decide_eq_true_eq,Nat.add_zero]
      by_cases h:n+k > 15∨(0:Int) - (k:Int) < -22∨(0:Int) - (k:Int) > 22
      · rw [if_pos h,if_pos h];rfl
      · rw [if_neg h,if_neg h];rfl
    simp only [aF,aY] at none_case
    cases ht:s.drop e with
    | nil=>
      have h0:¬ (((wh QT ([].take 1):Nat):Int) > 0):=by simp [wh]
      simp only [if_neg h0,al,ag,aj,ah]
      exact none_case _ rfl
    | cons c l=>
      have hcl:s.drop (e+1)=l:=by rw [← List.drop_drop,ht];rfl
      have hel:e < s.length:=by
        rcases Nat.lt_or_ge e s.length with q | q
        · exact q
        · rw [List.drop_of_length_le q] at ht;cases ht
      have hll:l.length=s.length - (e+1):=by rw [← hcl,List.length_drop]
      rw [IW]
      cases hc:QT c with
      | false=>
        have hx:mE (c::l)=(0,0):=by
          unfold mE
          have:¬ (c=101∨c=69):=by
            intro h
            rcases h with rfl | rfl <;> cases hc
          simp only [if_neg this]
        simp only [Bool.false_eq_true,if_false,show ¬ (((0:Nat):Int) > 0) by omega,al,ag,aj,ah]
        exact none_case _ hx
      | true=>
        have hc':c=101∨c=69:=by simpa [QT] using hc
        have hsl:=D2 l
        have hsl1:jf l≤1:=by
          cases l with
          | nil=>simp [jf]
          | cons c l=>simp only [jf];split <;> omega
        have hsg:wh wU (l.take 1)=jf l:=by
          cases l with
          | nil=>rfl
          | cons c l=>rw [IW];rfl
        simp only [if_true,show (((1:Nat):Int) > 0) by omega]
        simp only [cH (show e+1≤9223372036854775807 by omega),vO (show e+2≤9223372036854775807 by omega),FG,cR (Nat.min_le_left s.length (e+2)),cR (show e+1≤min s.length (e+2) by omega),Cj,aY,show (s.take (e+2)).drop (e+1)=l.take 1 by rw [← hcl];exact mH s (e+1) 1,Lh (show (l.take 1).length≤1000000 by rw [List.length_take];omega),aj,hsg,oO (show e+1+jf l≤9223372036854775807 by omega),cR (show e+1+jf l≤s.length by omega),List.take_length]
        have hd5:s.drop (e+1+jf l)=l.drop (jf l):=by rw [← List.drop_drop,hcl]
        have hl5:(l.drop (jf l)).length≤1000000:=by rw [List.length_drop];omega
        simp only [hd5,AQ hl5,aj]
        have hD:=lB bm (l.drop (jf l))
        rw [List.length_drop] at hD
        generalize hdd:wh bm (l.drop (jf l))=d at hD
        by_cases cz:d=0
        · subst cz
          have hx:mE (c::l)=(0,0):=by
            simp only [mE,if_pos hc',hdd,if_true]
          simp only [show ¬ (((0:Nat):Int) > 0) by omega,aF,if_false,al,ag,aj,ah]
          exact none_case _ hx
        · have cz':((d:Nat):Int) > 0:=by omega
          have hx:mE (c::l)=(1+jf l+d,if l.head?=some 45 then -((min (kV 0 ((l.drop (jf l)).take d)) 1000000:Nat):Int) else ((min (kV 0 ((l.drop (jf l)).take d)) 1000000:Nat):Int)):=by
            simp only [mE,if_pos hc',hdd,if_neg cz]
          obtain ⟨x,hN2,hat⟩:=Gs (by omega) hdd (by omega) k
          have hf:=Ix hN2 (show k≤500000 by omega)
          have hsub:(s.take (e+1+jf l+d)).drop (e+1)=l.take (jf l+d):=by
            have:=mH s (e+1) (jf l+d)
            rw [hcl, ← Nat.add_assoc] at this
            exact this
          simp only [aF,if_pos cz',oO (show e+1+jf l+d≤9223372036854775807 by omega),cR (show e+1+jf l+d≤s.length by omega),cR (show e+1≤e+1+jf l+d by omega),hsub,Gb,az,hat,aY,al,ag,aj,ah]
          have hl:=zL (all:=n+k) (e:=((e+1+jf l+d:Nat):Int)) (St.mk 0 0 Tr.leaf) _ hf
          simp only [aF,aY] at hl
          rw [hl,hx]
          have e1:e+(1+jf l+d)=e+1+jf l+d:=by omega
          simp only [e1]
          unfold OI
          simp only [Bool.or_eq_true,decide_eq_true_eq]
          by_cases c5:l.head?=some 45
          · simp only [c5,if_true]
            split <;> rfl
          · simp only [c5,if_false]
            split <;> rfl
  · simp only [cd,decide_false,Bool.not_false,aH,if_false]
    rfl
theorem Oo (c:UInt8):decide (tD [110,116,92,34] c≥0)=B9 c:=by
 have:=yM (p:=fun c=>decide (tD [110,116,92,34] c≥0)==B9 c) (by decide+kernel) c
 exact eq_of_beq this
theorem pZ (n:Nat) (b:UInt8) (l:List UInt8):dG n (b::l)=if b.toNat=n then some 0 else (dG n l).map (· +1):=by
 show (match b.toNat.beq n with | true=>some 0 | false=>match dG n l with | some i=>some (i+1) | none=>none)= _
 cases h:b.toNat.beq n with
 | true=>rw [if_pos (Nat.eq_of_beq_eq_true h)]
 | false=>
  rw [if_neg (Nat.ne_of_beq_eq_false h)]
  cases dG n l <;> rfl
theorem zN: ∀(r:List UInt8),(∀b∈r,b≠10)→jm r=match dG 34 r with | some j=>j+1 | none=>r.length
 | [],_=>rfl
 | c::r,h=>by
  have ih:=zN r fun b hb=>h b (List.mem_cons_of_mem _ hb)
  rw [pZ]
  simp only [jm,if_neg (h c (by simp))]
  by_cases hc:c=34
  ·subst hc;rfl
  ·have:¬ c.toNat=34:=fun e=>hc (UInt8.toNat_inj.1 e)
   rw [if_neg hc,if_neg this,ih]
   cases dG 34 r <;> rfl
theorem mT: ∀(r:List UInt8),jm r=jm (r.takeWhile fun b=>b != 10)
 | []=>rfl
 | c::r=>by
  by_cases h:c=10
  ·subst h;rfl
  ·have e:(c != 10)=true:=by simpa using h
   rw [List.takeWhile_cons,if_pos e]
   simp only [jm,if_neg h]
   rw [mT r]
theorem jX: ∀(l:List UInt8),fa l=fa (l.takeWhile fun b=>b != 10)
 | []=>rfl
 | [c]=>by
  by_cases h:c=10
  ·subst h;rfl
  ·have e:(c != 10)=true:=by simpa using h
   rw [List.takeWhile_cons,if_pos e];rfl
 | c::d::l=>by
  have h1:=jX l
  have h2:=jX (d::l)
  have h3:=mT (d::l)
  by_cases h:c=10
  ·subst h;rfl
  have e:(c != 10)=true:=by simpa using h
  rw [List.takeWhile_cons,if_pos e]
  by_cases hq:c=34
  ·subst hq
   cases hr:(d::l).takeWhile fun b=>b != 10 with
   | nil=>rfl
   | cons a r=>rfl
  by_cases hb:c=92
  ·subst hb
   by_cases hd:d=10
   ·subst hd;rfl
   ·have ed:(d != 10)=true:=by simpa using hd
    rw [List.takeWhile_cons,if_pos ed] at h2 h3 ⊢
    simp only [fa,h,hq,if_false,if_true]
    split
    ·rw [h1]
    ·rw [h3]
  ·cases hr:(d::l).takeWhile fun b=>b != 10 with
   | nil=>
    rw [hr] at h2
    simp only [fa,if_neg h,if_neg hq,if_neg hb,h2]
   | cons a r=>
    rw [hr] at h2
    simp only [fa,if_neg h,if_neg hq,if_neg hb,h2]
theorem qi (line:List UInt8) (hno: ∀b∈line,b≠10) (hs:line.length≤1000000) (st:St): ∀(r:List UInt8) (i:Nat),line.drop i=r→i≤line.length→
  (bu (gn line) ([.int .u8 0,.int .i64 0,.int .i64 (i:Int)],st)=some (1,[.int .u8 ((fa r).1:Int),.int .i64 ((i+(fa r).2:Nat):Int)],st))∨
  (bu (gn line) ([.int .u8 0,.int .i64 0,.int .i64 (i:Int)],st)=some (0,[.int .u8 0,.int .i64 0],st)∧fa r=(9,r.length))
 | [],i,hd,hi=>by
  have:=List.drop_eq_nil_iff.1 hd
  have q:¬ (i:Int) < (line.length:Int):=by omega
  refine .inr ⟨bC ?_,rfl⟩
  simp only [gn,ag,aj,ah,aF,if_neg q]
 | [c],i,hd,hi=>by
  obtain ⟨hg,hr,hlt⟩:=drop_cons hd
  have hnil:=List.drop_eq_nil_iff.1 hr
  have q:(i:Int) < (line.length:Int):=by omega
  have hc:line[i]=c:=nK hlt hg
  have h10:c≠10:=hno c (List.mem_of_getElem? hg)
  by_cases c1:c=34
  ·subst c1
   refine .inl (bC ?_)
   have z:((UInt8.toNat (34:UInt8):Nat):Int)=34:=rfl
   simp only [gn,ag,aj,ah,aF,if_pos q,eP hlt,hc,z,eI,if_true,aY,cH (show i+1≤9223372036854775807 by omega),al,nt]
   rfl
  ·have z1:¬ ((c.toNat:Nat):Int)=34:=jG (d:=34) c1
   by_cases c2:c=92
   ·subst c2
    have z2:((UInt8.toNat (92:UInt8):Nat):Int)=92:=rfl
    have z3:¬ ((92:Int)=34):=by omega
    have q2:¬ ((i+1:Nat):Int) < (line.length:Int):=by omega
    have hix:tD [92] 34= -1:=rfl
    have cix:=fun {β:Type} (st:St) (K:Kv β)=>lJ [92] 34 st K
    have z34:((UInt8.toNat (34:UInt8):Nat):Int)=34:=rfl
    simp only [z34] at cix
    have el:line.length=i+1:=by omega
    have e1:fa [92]=(9,1):=rfl
    refine .inl (bC ?_)
    simp only [gn,ag,aj,ah,aF,if_pos q,eP hlt,hc,z2,eI,if_neg z3,if_true,aY,cH (show i+1≤9223372036854775807 by omega),if_neg q2,al,aC,aB,cR (show i≤line.length by omega),List.take_length,hd,cix,hix,show ¬ ((-1:Int)≥0) by omega,if_false,nt,e1]
    rw [el];rfl
   ·have z2:¬ ((c.toNat:Nat):Int)=92:=jG (d:=92) c2
    refine .inr ⟨?_,by simp only [fa,if_neg h10,if_neg c1];rfl⟩
    have ih:=qi line hno hs st [] (i+1) hr (by omega)
    rw [bR (s':=([.int .u8 0,.int .i64 0,.int .i64 ((i+1:Nat):Int)],st))]
    ·rcases ih with ih | ih
     ·exfalso
      have q2:¬ ((i+1:Nat):Int) < (line.length:Int):=by omega
      have e:bu (gn line) ([.int .u8 0,.int .i64 0,.int .i64 ((i+1:Nat):Int)],st)=some (0,[.int .u8 0,.int .i64 0],st):=bC (by simp only [gn,ag,aj,ah,aF,if_neg q2])
      rw [e] at ih;cases ih
     ·exact ih.1
    ·simp only [gn,ag,aj,ah,aF,if_pos q,eP hlt,hc,eI,if_neg z1,if_neg z2,al,dC,aY,cH (show i+1≤9223372036854775807 by omega)]
 | c::d::l,i,hd,hi=>by
  obtain ⟨hg,hr,hlt⟩:=drop_cons hd
  obtain ⟨hg2,hr2,hlt2⟩:=drop_cons hr
  have q:(i:Int) < (line.length:Int):=by omega
  have q2:((i+1:Nat):Int) < (line.length:Int):=by omega
  have hc:line[i]=c:=nK hlt hg
  have hc2:line[i+1]=d:=nK hlt2 hg2
  have h10:c≠10:=hno c (List.mem_of_getElem? hg)
  by_cases c1:c=34
  ·subst c1
   refine .inl (bC ?_)
   have z:((UInt8.toNat (34:UInt8):Nat):Int)=34:=rfl
   simp only [gn,ag,aj,ah,aF,if_pos q,eP hlt,hc,z,eI,if_true,aY,cH (show i+1≤9223372036854775807 by omega),al,nt]
   rfl
  ·have z1:¬ ((c.toNat:Nat):Int)=34:=jG (d:=34) c1
   by_cases c2:c=92
   ·subst c2
    have z2:((UInt8.toNat (92:UInt8):Nat):Int)=92:=rfl
    have z3:¬ ((92:Int)=34):=by omega
    have hesc:=Oo d
    cases he:B9 d with
    | true=>
     rw [he] at hesc
     have hesc':=of_decide_eq_true hesc
     have ih:=qi line hno hs st l (i+2) hr2 (by omega)
     have step:bu (gn line) ([.int .u8 0,.int .i64 0,.int .i64 (i:Int)],st)=bu (gn line) ([.int .u8 0,.int .i64 0,.int .i64 ((i+2:Nat):Int)],st):=by
      refine bR ?_
      simp only [gn,ag,aj,ah,aF,if_pos q,eP hlt,hc,z2,eI,if_neg z3,if_true,aY,cH (show i+1≤9223372036854775807 by omega),if_pos q2,eP hlt2,hc2,lJ,al,aC,if_pos hesc',dC,cH (show i+1+1≤9223372036854775807 by omega)]
     have e1:fa (92::d::l)=((fa l).1,(fa l).2+2):=by
      simp only [fa,he,if_true];rfl
     rw [step,e1]
     rcases ih with ih | ⟨ih,e2⟩
     ·refine .inl (ih.trans ?_)
      show some (_,[_,AV.int .i64 ((i+2+(fa l).2:Nat):Int)],st)= _
      rw [show i+2+(fa l).2=i+((fa l).2+2) by omega]
     ·exact .inr ⟨ih,by rw [e2];rfl⟩
    | false=>
     rw [he] at hesc
     have hesc':=of_decide_eq_false hesc
     have e1:fa (92::d::l)=(9,jm (d::l)+1):=by
      simp only [fa,he];rfl
     have hb:=zN (d::l) fun b hb=>hno b (by
      have:b∈line.drop (i+1):=by rw [hr];exact hb
      exact List.mem_of_mem_drop this)
     have cix:=fun {β:Type} (st:St) (K:Kv β)=>lJ (92::d::l) 34 st K
     have z34:((UInt8.toNat (34:UInt8):Nat):Int)=34:=rfl
     simp only [z34] at cix
     have hl:line.length=i+2+l.length:=by
      have:=congrArg List.length hd
      rw [List.length_drop] at this
      simp at this;omega
     rw [e1]
     refine .inl (bC ?_)
     have hix:tD (92::d::l) 34=match dG 34 (d::l) with | some j=>((j+1:Nat):Int) | none=> -1:=by
      unfold tD
      rw [show (UInt8.toNat (34:UInt8))=34 from rfl,pZ,if_neg (by decide)]
      cases dG 34 (d::l) <;> rfl
     simp only [gn,ag,aj,ah,aF,if_pos q,eP hlt,hc,z2,eI,if_neg z3,if_true,aY,cH (show i+1≤9223372036854775807 by omega),if_pos q2,eP hlt2,hc2,lJ,al,aC,if_neg hesc',cR (show i≤line.length by omega),List.take_length,hd,cix,hix]
     rw [hb]
     cases hf:dG 34 (d::l) with
     | none=>
      simp only [show ¬ ((-1:Int)≥0) by omega,if_false,al,nt]
      rw [show line.length=i+((d::l).length+1) by simp;omega];rfl
     | some j=>
      have hj:j+1≤(d::l).length:=by
       have h1:=Ai (d::l)
       rw [hb,hf] at h1
       exact h1
      simp only [List.length_cons] at hj
      simp only [show (((j+1:Nat):Int)≥0) by omega,if_true,oO (show i+(j+1)≤9223372036854775807 by omega),cH (show i+(j+1)+1≤9223372036854775807 by omega),al,nt]
      rfl
   ·have z2:¬ ((c.toNat:Nat):Int)=92:=jG (d:=92) c2
    have ih:=qi line hno hs st (d::l) (i+1) hr (by omega)
    have step:bu (gn line) ([.int .u8 0,.int .i64 0,.int .i64 (i:Int)],st)=bu (gn line) ([.int .u8 0,.int .i64 0,.int .i64 ((i+1:Nat):Int)],st):=by
     refine bR ?_
     simp only [gn,ag,aj,ah,aF,if_pos q,eP hlt,hc,eI,if_neg z1,if_neg z2,al,dC,aY,cH (show i+1≤9223372036854775807 by omega)]
    have e1:fa (c::d::l)=((fa (d::l)).1,(fa (d::l)).2+1):=by
     simp only [fa,if_neg h10,if_neg c1,if_neg c2]
    rw [step,e1]
    rcases ih with ih | ⟨ih,e2⟩
    ·refine .inl (ih.trans ?_)
     show some (_,[_,AV.int .i64 ((i+1+(fa (d::l)).2:Nat):Int)],st)= _
     rw [show i+1+(fa (d::l)).2=i+((fa (d::l)).2+1) by omega]
    ·exact .inr ⟨ih,by rw [e2];rfl⟩
theorem yX: ∀(s:List UInt8),(match dG 10 s with | some k=>s.take k | none=>s)=s.takeWhile fun b=>b != 10
 | []=>rfl
 | c::l=>by
  have ih:=yX l
  rw [pZ,List.takeWhile_cons]
  by_cases h:c=10
  ·subst h;rfl
  ·have e:(c != 10)=true:=by simpa using h
   have:¬ c.toNat=10:=fun k=>h (UInt8.toNat_inj.1 k)
   rw [if_neg this,if_pos e, ← ih]
   cases dG 10 l <;> rfl
theorem EW: ∀(s:List UInt8) (n k:Nat),dG n s=some k→k < s.length
 | [],_,_,h=>by cases h
 | c::l,n,k,h=>by
  rw [pZ] at h
  split at h
  ·cases h;simp
  ·obtain ⟨m,hm,rfl⟩:=Option.map_eq_some_iff.1 h
   have:=EW l n m hm
   simp;omega
theorem KI {c:UInt8} {l:List UInt8} (hs:(c::l).length≤1000000):(aG vE).bare 34 [.str (c::l)]=some (if c=34 then .tup [.int .u8 ((fa l).1:Int),.int .i64 (((fa l).2+1:Nat):Int)] else .tup [.int .u8 0,.int .i64 0]):=by
 refine br rfl ((OO _).trans ?_)
 have i0: ∀{β:Type} (K:UInt8→Option β),fb (c::l) 0 K=K c:=fun K=>eP (k:=0) (by simp) K
 by_cases h:c=34
 ·subst h
  have z:(((UInt8.toNat (34:UInt8):Nat):Int) != 34)=false:=rfl
  have cix:=fun {β:Type} (st:St) (K:Kv β)=>lJ (34::l) 10 st K
  have z10:((UInt8.toNat (10:UInt8):Nat):Int)=10:=rfl
  simp only [z10] at cix
  have hline:=yX (34::l)
  have hw:(34::l).takeWhile (fun b=>b != 10)=34::l.takeWhile (fun b=>b != 10):=by rw [List.takeWhile_cons];rfl
  rw [hw] at hline
  have hno: ∀b∈(34::l.takeWhile (fun b=>b != 10):List UInt8),b≠10:=by
   intro b hb
   rcases List.mem_cons.1 hb with rfl | hb
   ·decide
   ·have:=List.all_eq_true.1 (qR (fun b=>b != 10) l) b hb
    simpa using this
  have hll:(34::l.takeWhile (fun b=>b != 10):List UInt8).length≤1000000:=by
   have:=(List.takeWhile_sublist (p:=fun b=>b != 10) (l:=l)).length_le
   simp at hs ⊢;omega
  have hlp:=qi (34::l.takeWhile (fun b=>b != 10)) hno hll (St.mk 0 0 Tr.leaf) (l.takeWhile fun b=>b != 10) 1 rfl (by simp)
  rw [← jX l] at hlp
  have first: ∀(K:dK→Option AV),(aK (bI (decide (tD (34::l) 10≥0)) (fJ (tD (34::l) 10) (34::l:List UInt8).length fun k6=>bA (List.drop 0 (List.take k6 (34::l))) fun l7=>some (([AV.str l7],St.mk 0 0 Tr.leaf):dK)) (some ([AV.str (34::l)],St.mk 0 0 Tr.leaf))) K)=K ([AV.str (34::l.takeWhile fun b=>b != 10)],St.mk 0 0 Tr.leaf):=by
   intro K
   unfold tD
   rw [show UInt8.toNat (10:UInt8)=10 from rfl]
   cases hf:dG 10 (34::l) with
   | none=>
    rw [hf] at hline
    have hline:(34::l)=34::l.takeWhile (fun b=>b != 10):=hline
    simp only [aF,show ¬ ((-1:Int)≥0) by omega,if_false,al]
    rw [← hline]
   | some k=>
    rw [hf] at hline
    have hline:(34::l).take k=34::l.takeWhile (fun b=>b != 10):=hline
    have hk:=EW _ _ _ hf
    simp only [aF,show ((k:Int)≥0) by omega,if_true,cR (show k≤(34::l:List UInt8).length by omega),List.drop_zero,aY,hline,al]
  simp only [Ra,az,i0,z,aB,cix,aj]
  rw [first]
  simp only [ag,az,ah,if_true]
  rcases hlp with hlp | ⟨hlp,e2⟩
  ·have hlp:bu (gn (34::l.takeWhile fun b=>b != 10)) ([.int .u8 0,.int .i64 0,.int .i64 1],St.mk 0 0 Tr.leaf)= _:=hlp
   rw [hlp]
   simp only [al,ag,aj,ah,pC]
   rw [Nat.add_comm 1]
  ·have hlp:bu (gn (34::l.takeWhile fun b=>b != 10)) ([.int .u8 0,.int .i64 0,.int .i64 1],St.mk 0 0 Tr.leaf)= _:=hlp
   rw [hlp,e2]
   simp only [al,ag,aj,ah,iH]
   rfl
 ·have z:((c.toNat:Int) != 34)=true:=by
   have h':¬ ((c.toNat:Nat):Int)=34:=jG (d:=34) h
   rw [bne,beq_false_of_ne h'];rfl
  simp only [Ra,az,i0,z,aH,if_neg h]
theorem LN {c:UInt8} {l:List UInt8}:(aG vE).bare 35 [.str (c::l)]=some (if jV.contains ((c::l).take 2) then .tup [.int .u8 8,.int .i64 2] else .tup [.int .u8 8,.int .i64 (if kJ c then 1 else 0)]):=by
 refine br rfl ((Ng _).trans ?_)
 have h1:(c::l).take 1=[c]:=rfl
 have h2:wh kJ [c]=if kJ c then 1 else 0:=by rw [eK];rfl
 have tail: ∀(st:St),(cQ (Nat.ble 1 (c::l).length) (bA (List.drop 0 (List.take 1 (c::l))) fun l50=>ak (aG vE) 46 [AV.str l50,AV.str [40,41,91,93,44,59,124,61,60,62,43,45,42,47,94,64]] st fun v51 _x _x_1=>bV .i64 v51 fun n54=>bA (if n54 < 1 then n54 else 1) fun n55=>some (AV.tup [AV.int .u8 8,AV.int .i64 n55])))=some (.tup [.int .u8 8,.int .i64 (if kJ c then 1 else 0)]):=by
  intro st
  simp only [gz (show 1≤(c::l).length by simp),bf,aY,h1,List.drop_zero,KT (show [c].length≤1000000 by simp),aj,h2]
  cases kJ c <;> rfl
 by_cases hl:((c::l).length:Int) > 1
 ·have hl2:2≤(c::l).length:=by omega
  simp only [RE,az,aF,if_pos hl,gz hl2,bf,List.drop_zero,aY]
  generalize (c::l).take 2=w
  cases hw:jV.contains w with
  | true=>
   have hm:w∈jV:=List.contains_iff_mem.1 hw
   simp only [jV,List.mem_cons,List.not_mem_nil,or_false] at hm
   rcases hm with rfl | rfl | rfl | rfl | rfl | rfl | rfl | rfl | rfl | rfl | rfl <;> rfl
  | false=>
   simp only [jV,List.contains_cons,List.contains_nil,Bool.or_eq_false_iff] at hw
   obtain ⟨w1,w2,w3,w4,w5,w6,w7,w8,w9,w10,w11,_⟩:=hw
   simp only [w1,w2,w3,w4,w5,w6,w7,w8,w9,w10,w11,aB,al,ag,aC,ah,dC,aj]
   exact tail _
 ·have hl0:l=[]:=by
   cases l with
   | nil=>rfl
   | cons d l=>simp at hl;omega
  subst hl0
  have hw:jV.contains ([c].take 2)=false:=by
   simp [jV]
  simp only [RE,az,aF,if_neg hl,al,dC,ag,aj,ah,hw]
  exact tail _
def K4 (s:List UInt8):Nat:=if iq s=0 then 1 else iq s
theorem GN {s:List UInt8} (h:s≠[]): ∃r n:Int,jl [.str s]= .ok (.tup [.int .i32 r,.int .i64 n])∧((iq s=0∧r=65533∧n=1)∨(iq s≠0∧n=iq s∧(iq s=1→r≠65533))):=by
 cases s with
 | nil=>exact absurd rfl h
 | cons c l=>
  have e:jl [.str (c::l)]= .ok (.tup [.int .i32 ((Lib.decodeL (c::l)).1:Int),.int .i64 ((Lib.decodeL (c::l)).2:Int)]):=by
   rw [Lib.decodeL_N];rfl
  refine ⟨_,_,e, ?_⟩
  rcases xj (c::l) with ⟨h1,h2⟩ | ⟨h1,h2,h3⟩ | ⟨h1,h2⟩
  ·exact .inl ⟨h1,by rw [h2];rfl,by rw [h2];rfl⟩
  ·refine .inr ⟨by omega,by rw [h3,h1],fun _=> ?_⟩
   rw [h3]
   show (((c::l).getD 0 0).toNat:Int)≠65533
   omega
  ·exact .inr ⟨by omega,by rw [h2],fun h=>by omega⟩
theorem J2 {s:List UInt8} (h:s≠[]): ∃r:Int,(aG vE).bare 52 [.str s]=some (.tup [.int .i64 r,.int .i64 (K4 s:Int)]):=by
 obtain ⟨r,n,e,hc⟩:=GN h
 have hne:(s==[])=false:=by simpa using h
 rcases hc with ⟨h1,rfl,rfl⟩ | ⟨h1,rfl,h2⟩
 ·refine ⟨-1,br rfl ((HR _).trans ?_)⟩
  simp only [QS,az,hne,aB,jw e,dj,bS,cA,aj,eI,if_true,al,ag,aC,ah,aF,show ((1:Int) < 2) by omega,K4,if_pos h1]
  rfl
 ·refine ⟨IntKind.wrap .i64 r,br rfl ((HR _).trans ?_)⟩
  by_cases c1:r=65533
  ·have:¬ iq s=1:=fun k=>h2 k c1
   have:¬ ((iq s:Int) < 2):=by omega
   simp only [QS,az,hne,aB,jw e,dj,bS,cA,aj,eI,if_pos c1,al,ag,aC,ah,aF,if_neg this,aY,K4,if_neg h1]
  ·simp only [QS,az,hne,aB,jw e,dj,bS,cA,aj,eI,if_neg c1,al,ag,aC,ah,aY,K4,if_neg h1]
theorem Oq {s:List UInt8} (h:s≠[]):(aG vE).bare 36 [.str s]=some (.tup [.int .u8 9,.int .i64 (K4 s:Int)]):=by
 refine br rfl ((N7 _).trans ?_)
 obtain ⟨r,e⟩:=J2 h
 have e': ∀{β:Type} (st:St) (K:Kv β),ak (aG vE) 52 [.str s] st K=K (.tup [.int .i64 r,.int .i64 (K4 s:Int)]) st q0:=fun st K=>bj st K rfl rfl rfl e
 simp only [RV,az,e',dj,bS,cA,aj]
def ways (s:List UInt8):List (Nat×Nat):=
 match s with
 | []=>[]
 | c::l=>[(1,wh bJ s),(if s.take 2=[40,42] then (match rem (s.drop 2) 1 with | some n=>(2,n+2) | none=>(9,s.length)) else (0,0)),
   (if jW c then (nA (s.takeWhile gT),wh gT s) else (0,0)),(if wh bm s=0 then (5,0) else number s),(if c=34 then ((fa l).1,(fa l).2+1) else (0,0)),
   (if jV.contains (s.take 2) then (8,2) else (8,if kJ c then 1 else 0)),(9,K4 s)]
def FQ:List FuncId:=[30,31,32,33,34,35,36]
theorem LQ {s:List UInt8} (hs:s.length≤500000) {j:Nat} {f:FuncId} {p:Nat×Nat} (hf:FQ[j]? =some f) (hp:(ways s)[j]? =some p):
  (aG vE).bare f [.str s]=some (.tup [.int .u8 (p.1:Int),.int .i64 (p.2:Int)])∧vE.full f=false∧vE.prim f=none:=by
 cases s with
 | nil=>simp [ways] at hp
 | cons c l=>
  match j,hf,hp with
  | 0,hf,hp=>cases hf;cases hp;exact ⟨IZ (by omega),rfl,rfl⟩
  | 1,hf,hp=>
   cases hf;cases hp
   refine ⟨(Gx (by omega)).trans ?_,rfl,rfl⟩
   split
   ·cases rem (List.drop 2 (c::l)) 1 <;> rfl
   ·rfl
  | 2,hf,hp=>
   cases hf;cases hp
   refine ⟨(Kf (by omega)).trans ?_,rfl,rfl⟩
   split <;> rfl
  | 3,hf,hp=>
   cases hf;cases hp
   refine ⟨(G4 hs).trans ?_,rfl,rfl⟩
   split <;> rfl
  | 4,hf,hp=>
   cases hf;cases hp
   refine ⟨(KI (by omega)).trans ?_,rfl,rfl⟩
   split <;> rfl
  | 5,hf,hp=>
   cases hf;cases hp
   refine ⟨LN.trans ?_,rfl,rfl⟩
   split
   ·rfl
   ·cases kJ c <;> rfl
  | 6,hf,hp=>cases hf;cases hp;exact ⟨Oq (by simp),rfl,rfl⟩
  | j+7,hf,hp=>simp [FQ] at hf
def first:List (Nat×Nat)→Nat×Nat
 | []=>(9,0)
 | p::l=>if 0 < p.2 then p else first l
theorem KY {c:UInt8} (h:jW c=true):gT c=true:=by unfold gT;rw [h];rfl
theorem FO {s:List UInt8} (h:s≠[]):first (ways s)=cut s:=by
 cases s with
 | nil=>exact absurd rfl h
 | cons c l=>
  unfold cut
  simp only [ways,first]
  cases hb:bJ c with
  | true=>
   have:0 < wh bJ (c::l):=by rw [eK,if_pos hb];omega
   simp only [if_pos this,if_true]
  | false=>
   have:¬ 0 < wh bJ (c::l):=by rw [eK,hb];simp
   simp only [if_neg this,Bool.false_eq_true,if_false]
   by_cases hr:(c::l).take 2=[40,42]
   ·simp only [if_pos hr]
    cases rem (List.drop 2 (c::l)) 1 with
    | some n=>simp
    | none=>simp
   ·simp only [if_neg hr,show ¬ (0:Nat) < 0 by omega,if_false]
    cases hl:jW c with
    | true=>
     have:0 < wh gT (c::l):=by rw [eK,if_pos (KY hl)];omega
     simp only [if_pos this,if_true]
    | false=>
     simp only [Bool.false_eq_true,if_false,show ¬ (0:Nat) < 0 by omega]
     cases hd:bm c with
     | true=>
      have h1:0 < wh bm (c::l):=by rw [eK,if_pos hd];omega
      have h2:=(zz (c::l) h1).1
      have h3:¬ wh bm (c::l)=0:=by omega
      simp only [if_neg h3,show 0 < (number (c::l)).2 by omega,if_true]
     | false=>
      have h1:wh bm (c::l)=0:=by rw [eK,hd];simp
      simp only [if_pos h1,show ¬ (0:Nat) < 0 by omega,if_false,Bool.false_eq_true]
      by_cases hq:c=34
      ·simp only [if_pos hq,show 0 < (fa l).2+1 by omega,if_true]
      ·simp only [if_neg hq,show ¬ (0:Nat) < 0 by omega,if_false]
       by_cases ht:jV.contains ((c::l).take 2)=true
       ·simp only [if_pos ht,show (0:Nat) < 2 by omega,if_true]
       ·simp only [if_neg ht]
        cases ho:kJ c with
        | true=>simp
        | false=>
         have hz:0 < K4 (c::l):=by unfold K4;split <;> omega
         simp only [Bool.false_eq_true,if_false,show ¬ (0:Nat) < 0 by omega,hz,if_true]
         rfl
theorem Cn {β:Type} {f g:FuncId} (hp:vE.prim f=none) (args:List AV) (st:St) (K:Kv β):jR (aG vE) (Sx.prim (sx vE g)) (.fn (.func f) [] []) args st K=ak (aG vE) f args st K:=by
 have hp:Sx.prim (sx vE g) f=none:=hp
 simp only [jR,gZ,hp,List.nil_append,List.append_nil]
 rfl
def tok (p:Nat×List UInt8):AV:= .agg [.int .u8 (p.1:Int),.str p.2]
def Qg:AV:=AV.sl 1 [AV.fn (Fn.func 30) [] [],AV.fn (Fn.func 31) [] [],AV.fn (Fn.func 32) [] [],AV.fn (Fn.func 33) [] [],AV.fn (Fn.func 34) [] [],AV.fn (Fn.func 35) [] [],AV.fn (Fn.func 36) [] []] Perm.shut
theorem KB {β:Type} {j:Nat} {f:FuncId} (hf:FQ[j]? =some f) (st:St) (K:AV→List Nat→Option β):bZ 1 Qg (j:Int) st K=K (.ip [.fn (.func f) [] []]) []:=by
 match j,hf with
 | 0,hf=>cases hf;rfl
 | 1,hf=>cases hf;rfl
 | 2,hf=>cases hf;rfl
 | 3,hf=>cases hf;rfl
 | 4,hf=>cases hf;rfl
 | 5,hf=>cases hf;rfl
 | 6,hf=>cases hf;rfl
 | j+7,hf=>simp [FQ] at hf
theorem Cr {s:List UInt8} (hs:s.length≤500000) {st:St} {v:AV} {es:List AV} (ho:iN st 2 41 v es) (he:es.length≤500000): ∀(l:List (Nat×Nat)) (j:Nat),(ways s).drop j=l→l.length+j=7→0 < (first l).2→(first l).2≤s.length→
  ∃v' st',bu wW ([v,.str s,.int .i64 (j:Int)],st)=some (0,[v',.str (s.drop (first l).2)],st')∧iN st' 2 41 v' (es++[tok ((first l).1,s.take (first l).2)])
 | [],j,hd,hj,h0,_=>by simp [first] at h0
 | p::l,j,hd,hj,h0,hle=>by
  obtain ⟨hg,hr,hlt⟩:=drop_cons (α:=Nat×Nat) hd
  have hj7:j < 7:=by simp at hj;omega
  obtain ⟨f,hf⟩: ∃f,FQ[j]? =some f:=⟨FQ[j],List.getElem?_eq_getElem hj7⟩
  obtain ⟨hb,hfull,hprim⟩:=LQ hs hf hg
  have hc: ∀{β:Type} (st:St) (K:Kv β),ak (aG vE) f [.str s] st K=K (.tup [.int .u8 (p.1:Int),.int .i64 (p.2:Int)]) st q0:=fun st K=>bj st K hfull rfl rfl hb
  have hidx:=fun {β:Type} (st:St) (K:AV→List Nat→Option β)=>KB hf st K
  unfold Qg at hidx
  have q:(j:Int) < 7:=by omega
  by_cases hp:0 < p.2
  ·have hp':(p.2:Int) > 0:=by omega
   have hfi:first (p::l)=p:=by simp only [first,if_pos hp]
   rw [hfi] at hle ⊢
   obtain ⟨v',st',o',k',x',a'⟩:=Ld (b:=24) (tok (p.1,s.take p.2)) ho (vD (by omega) (by omega) (by omega))
   refine ⟨v',st',bC ?_,o'⟩
   have a': ∀{β:Type} (K:Kv β),gf 2 24 41 v [.agg [.int .u8 (p.1:Int),.str (s.take p.2)]] st K=K v' st' x':=fun K=>a' K
   simp only [wW,ag,az,aj,ah,aF,if_pos q,hidx,bL,bU,al,Cn hprim,hc,dj,bS,cA,if_pos hp',cR hle,List.drop_zero,aY,a',List.take_length]
  ·have hp':¬ (p.2:Int) > 0:=by omega
   have hfi:first (p::l)=first l:=by simp only [first,if_neg hp]
   rw [hfi] at h0 hle ⊢
   obtain ⟨v',st',e',o'⟩:=Cr hs ho he l (j+1) hr (by simp at hj;omega) h0 hle
   refine ⟨v',st', ?_,o'⟩
   rw [bR (s':=([v,.str s,.int .i64 ((j+1:Nat):Int)],st)),e']
   simp only [wW,ag,az,aj,ah,aF,if_pos q,hidx,bL,bU,al,Cn hprim,hc,dj,bS,cA,if_neg hp',aY,cH (show j+1≤9223372036854775807 by omega)]
theorem yY: ∀(n:Nat) (s:List UInt8) (st:St) (v:AV) (es:List AV),s.length≤n→n≤500000→iN st 2 41 v es→es.length+n≤500000→
  ∃v' st',bu A4 ([v,.str s],st)=some (0,[v'],st')∧iN st' 2 41 v' (es++(tokens s).map tok)
 | n,[],st,v,es,_,_,ho,_=>by
  refine ⟨v,st,bC ?_,by simpa [nN] using ho⟩
  simp only [A4,ag,az,ah,show (!(([]:List UInt8)==[]))=false from rfl,aB]
 | 0,c::l,_,_,_,h,_,_,_=>by simp at h
 | n+1,c::l,st,v,es,h,hn,ho,he=>by
  have hc:=oH (s:=c::l) (by simp)
  have hfc:=FO (s:=c::l) (by simp)
  obtain ⟨v1,st1,e1,o1⟩:=Cr (s:=c::l) (by omega) ho (by omega) (ways (c::l)) 0 rfl rfl (by rw [hfc];omega) (by rw [hfc];omega)
  rw [hfc] at e1 o1
  have hd:((c::l).drop (cut (c::l)).2).length≤n:=by rw [List.length_drop];omega
  obtain ⟨v2,st2,e2,o2⟩:=yY n ((c::l).drop (cut (c::l)).2) st1 v1 _ hd (by omega) o1 (by rw [List.length_append];simp;omega)
  refine ⟨v2,st2, ?_, ?_⟩
  ·have e1:bu wW ([v,.str (c::l),.int .i64 0],st)= _:=e1
   rw [bR (s':=([v1,.str ((c::l).drop (cut (c::l)).2)],st1)),e2]
   simp only [A4,ag,az,ah,show (!((c::l:List UInt8)==[]))=true from rfl,aH,e1,al]
  ·rw [fZ (by simp),List.map_cons]
   rw [List.append_assoc] at o2
   exact o2
theorem Hx {s:List UInt8} (hs:s.length≤1000000):(aG vE).bare 29 [.str s]=some (.bool (cG s)):=by
 refine br rfl ((MN _).trans ?_)
 simp only [Sy,az,jw (BJ (show s.length≤9223372036854775807 by omega)),aC]
theorem wY {β:Type} {s:List UInt8} (hs:s.length≤1000000) (st:St) (K:Kv β):ak (aG vE) 29 [.str s] st K=K (.bool (cG s)) st q0:=bj st K rfl rfl rfl (Hx hs)
theorem Au {s:List UInt8} (h:65536 < s.length):(aG vE).bare 19 [.str s]=some (.tup [.aq,.int .i64 40]):=by
 refine br rfl ((Eh _).trans ?_)
 have q:(s.length:Int) > 65536:=by omega
 simp only [g19,az,aF,if_pos q]
theorem B3 {s:List UInt8} (h:s.length≤65536) (hv:cG s=false):(aG vE).bare 19 [.str s]=some (.tup [.aq,.int .i64 4]):=by
 refine br rfl ((Eh _).trans ?_)
 have q:¬ (s.length:Int) > 65536:=by omega
 simp only [g19,az,aF,if_neg q,wY (show s.length≤1000000 by omega),hv,aC,Bool.not_false,aH]
theorem Hd {s:List UInt8} (h:s.length≤65536) (hv:cG s=true): ∃x,(aG vE).bare 19 [.str s]=some (.tup [x,.int .i64 0])∧bl 2 x ((tokens s).map tok):=by
 have q:¬ (s.length:Int) > 65536:=by omega
 obtain ⟨v',st',e,o⟩:=yY s.length s (St.mk 0 0 Tr.leaf) .aq [] (Nat.le_refl _) (by omega) (iN.aq (Nat.le_refl _) _ _) (by simp;omega)
 rw [List.nil_append] at o
 obtain ⟨x,hx,hf⟩:=CI o (gF .i64 0) rfl
 refine ⟨x,br rfl ((Eh _).trans ?_),hx⟩
 simp only [g19,az,aF,if_neg q,wY (show s.length≤1000000 by omega),hv,aC,Bool.not_true,aB,e,al,ag,ah,hf]
theorem xn {x:AV} {es:List (Nat×List UInt8)} (h:bl 2 x (es.map tok)) {j:Nat} {p:Nat×List UInt8} (hj:es[j]? =some p) {β:Type} (st:St) (K:AV→List Nat→Option β):bZ 2 x (j:Int) st K=K (.ip [.int .u8 (p.1:Int),.str p.2]) []:=
 h.idx (by rw [List.getElem?_map,hj];rfl) st K
structure JQ (PT:TypeId) (st:St) (p:Nat) (L:List Parse.aQ) (x:AV) (i d:Nat):Prop where
 get:st.get p= .ok (.cells PT [x,.int .i64 (i:Int),.int .i64 (d:Int)])
 sl:bl 2 x (L.map tok)
 le:i≤L.length
 len:L.length≤1000000
 ro:st.ro≤p
section
variable {PT:TypeId} {st st':St} {p:Nat} {L:List Parse.aQ} {x:AV} {i d:Nat}
theorem JQ.lt (h:JQ PT st p L x i d):p < st.h:=(St.bM.1 h.get).1
theorem JQ.keeps {but:Nat→Prop} (h:JQ PT st p L x i d) (k:ba st st' but) (hp:¬ but p):JQ PT st' p L x i d:=
 ⟨k.old _ _ hp h.get,h.sl,h.le,h.len,by rw [k.ro];exact h.ro⟩
theorem JQ.yx (h:JQ PT st p L x i d):st.ro≤st.h:=Nat.le_trans h.ro (Nat.le_of_lt h.lt)
end
abbrev PS:=JQ 65
theorem PS.jd {st st':St} {but:Nat→Prop} (k:ba st st' but) (h:st.ro≤st.h):st'.ro≤st'.h:=by rw [k.ro];exact Nat.le_trans h k.h
theorem LL (t:Parse.aQ):(aG vE).bare 53 [.agg [.int .u8 (t.1:Int),.str t.2]]=some (.bool (Parse.aZ t)):=by
 refine br rfl ((MV _).trans ?_)
 unfold Parse.aZ
 by_cases h1:t.1=1
 ·have h1':(t.1:Int)=1:=by omega
  have e:(t.1==1||t.1==2)=true:=by simp [h1]
  rw [e]
  simp only [Rk,aL,ag,aj,az,ah,eI,if_pos h1',al,aC]
 ·have h1':¬ (t.1:Int)=1:=by omega
  have h2:((t.1:Int)==2)=(t.1==2):=by
   by_cases h:t.1=2
   ·rw [h];rfl
   ·rw [beq_eq_false_iff_ne.2 h,beq_eq_false_iff_ne.2 (show ¬ (t.1:Int)=2 by omega)]
  simp only [Rk,aL,ag,aj,az,ah,eI,if_neg h1',al,aC,h2,beq_eq_false_iff_ne.2 h1,Bool.false_or]
theorem zJ (t:Parse.aQ) {β:Type} (st:St) (K:Kv β):ak (aG vE) 53 [.agg [.int .u8 (t.1:Int),.str t.2]] st K=K (.bool (Parse.aZ t)) st q0:=bj st K rfl rfl rfl (LL t)
def wT (r:List Parse.aQ):Nat:=(r.takeWhile Parse.aZ).length
theorem Ac (t:Parse.aQ) (r:List Parse.aQ):wT (t::r)=if Parse.aZ t=true then wT r+1 else 0:=by
 unfold wT
 rw [List.takeWhile_cons]
 split <;> rfl
theorem Fi (t:Parse.aQ) (r:List Parse.aQ):Parse.nx (t::r)=if Parse.aZ t=true then Parse.nx r else t:=by
 unfold Parse.nx
 rw [List.dropWhile_cons]
 cases Parse.aZ t <;> rfl
theorem zq {p d:Nat} {L:List Parse.aQ} {x:AV} {st0:St} {i0:Nat}: ∀(l:List Parse.aQ) (j:Nat) (st:St),L.drop j=l→PS st p L x i0 d→st.get st0.h= .ok (.cells 41 [.int .u8 0,.str []])→st0.h≠p→st.ro≤st0.h→
  ∃st' n,bu (xW (.mp p 0) st0) ([.int .i64 0,.int .i64 (j:Int)],st)=some (n,[.int .i64 (if l.dropWhile Parse.aZ=[] then 0 else ((j+wT l:Nat):Int))],st')∧
   (n=if l.dropWhile Parse.aZ=[] then 0 else 1)∧ba st st' (· =st0.h)∧st'.h=st.h∧(l.dropWhile Parse.aZ=[]→st'=st)∧(l.dropWhile Parse.aZ≠[]→st'.get st0.h= .ok (.cells 41 [.int .u8 ((Parse.nx l).1:Int),.str (Parse.nx l).2]))
 | [],j,st,hd,hp,hg,hne,hro=>by
  have:=List.drop_eq_nil_iff.1 hd
  have q:¬ (j:Int) < ((L.map tok).length:Int):=by rw [List.length_map];omega
  refine ⟨st,0,bC ?_,rfl,ba.refl _ _,rfl,fun _=>rfl,fun h=>absurd rfl h⟩
  simp only [xW,ag,aj,ah,dv,bf,di,Nat.add_zero,Nat.zero_add,bF hp.get,List.drop_zero,bU,al,hp.sl.len,aF,if_neg q]
  rfl
 | t::l,j,st,hd,hp,hg,hne,hro=>by
  obtain ⟨hgt,hr,hlt⟩:=drop_cons hd
  have q:(j:Int) < ((L.map tok).length:Int):=by rw [List.length_map];omega
  have hlen:=hp.len
  cases ht:Parse.aZ t with
  | true=>
   obtain ⟨st',n,e1,e2,e3,e4,e5,e6⟩:=zq l (j+1) st hr hp hg hne hro
   have hdw:(t::l).dropWhile Parse.aZ=l.dropWhile Parse.aZ:=by rw [List.dropWhile_cons,ht];rfl
   rw [hdw,Ac,ht,if_pos rfl,Fi,ht,if_pos rfl,show j+(wT l+1)=j+1+wT l by omega]
   refine ⟨st',n, ?_,e2,e3,e4,e5,e6⟩
   rw [bR (s':=([.int .i64 0,.int .i64 ((j+1:Nat):Int)],st)),e1]
   simp only [xW,ag,aj,ah,dv,bf,di,Nat.add_zero,Nat.zero_add,bF hp.get,List.drop_zero,bU,al,hp.sl.len,aF,if_pos q,xn hp.sl hgt,bL,ua,aL,az,zJ,ht,aC,Bool.not_true,aB,aY,cH (show j+1≤9223372036854775807 by omega)]
  | false=>
   have hdw:(t::l).dropWhile Parse.aZ=t::l:=by rw [List.dropWhile_cons,ht];rfl
   obtain ⟨st1,g1,k1,n1,fx,e1⟩:=Fe (O:=aG vE) (.agg [.int .u8 (t.1:Int),.str t.2]) hg (z:=2) (cs:=[.int .u8 (t.1:Int),.str t.2]) rfl rfl hro
   rw [hdw,Ac,ht,if_neg (by simp),if_neg (by simp),Fi,ht,if_neg (by simp)]
   refine ⟨st1,1,bC ?_,rfl,k1,n1,fun h=>by simp at h,fun _=>g1⟩
   simp only [xW,ag,aj,ah,dv,bf,di,Nat.add_zero,Nat.zero_add,bF hp.get,List.drop_zero,bU,al,hp.sl.len,aF,if_pos q,xn hp.sl hgt,bL,ua,aL,az,zJ,ht,aC,Bool.not_false,aH,e1]
theorem Hv: ∀{l:List Parse.aQ},l.dropWhile Parse.aZ=[]→wT l=l.length
 | [],_=>rfl
 | t::l,h=>by
  rw [List.dropWhile_cons] at h
  rw [Ac]
  cases ht:Parse.aZ t with
  | true=>rw [ht,if_pos rfl] at h;rw [if_pos rfl,Hv h];rfl
  | false=>rw [ht,if_neg (by simp)] at h;cases h
theorem ME {l:List Parse.aQ} (h:l.dropWhile Parse.aZ=[]):Parse.nx l=(0,[]):=by unfold Parse.nx;rw [h]
theorem KL {st:St} {p:Nat} {L:List Parse.aQ} {x:AV} {i d:Nat} (h:PS st p L x i d):
  ∃st',(aG vE).wide 37 [.mp p 0] st=some (.tup [.agg [.int .u8 ((Parse.nx (L.drop i)).1:Int),.str (Parse.nx (L.drop i)).2],.int .i64 ((i+wT (L.drop i):Nat):Int)],st')∧ba st st' (fun _=>False):=by
 have k0:ba st (st.add (.cells 41 [.int .u8 0,.str []])) (fun _=>False):=ba.add _ _ _
 have h0:=h.keeps k0 (fun f=>f)
 have g0:(st.add (.cells 41 [.int .u8 0,.str []])).get st.h= .ok (.cells 41 [.int .u8 0,.str []]):=St.dR
 have hne:st.h≠p:=Nat.ne_of_gt h.lt
 obtain ⟨st1,n,e1,e2,e3,e4,e5,e6⟩:=zq (st0:=st) (L.drop i) i _ rfl h0 g0 hne h.yx
 by_cases hd:(L.drop i).dropWhile Parse.aZ=[]
 ·have:=e5 hd
  subst this
  rw [if_pos hd] at e1 e2
  subst e2
  obtain ⟨st2,o,g2,k2,n2,p2⟩:=H6 (O:=aG vE) (.agg [.int .u8 0,.str []]) g0 (z:=2) (cs:=[.int .u8 0,.str []]) rfl rfl h.yx
  have hw:((i+wT (L.drop i):Nat):Int)=((L.map tok).length:Int):=by
   have hle:=h.le
   rw [Hv hd,List.length_drop,List.length_map];omega
  refine ⟨st2,jF ((I7 _ _).trans ?_),k0.fresh k2 (Nat.le_refl _)⟩
  rw [hw,ME hd]
  have a1:=pf (o:=o) hne.symm
  simp only [Rd,fo,dv,bf,di,Nat.zero_add,bF h0.get,tj,List.drop_zero,bU,al,aj,e1,ag,ah,iH,h0.sl.len,p2,F3,a1,Bool.and_self,bF g2,ua,aL,az]
  rfl
 ·rw [if_neg hd] at e1 e2
  subst e2
  refine ⟨st1,jF ((I7 _ _).trans ?_),k0.fresh e3 (Nat.le_refl _)⟩
  simp only [Rd,fo,dv,bf,di,Nat.zero_add,bF h0.get,tj,List.drop_zero,bU,al,aj,e1,ag,ah,pC,bF (e6 hd),ua,aL,az]
theorem nv {st:St} {p:Nat} {L:List Parse.aQ} {x:AV} {i d:Nat} (h:PS st p L x i d):
  ∃st',ba st st' (fun _=>False)∧ ∀{β:Type} (K:Kv β),ak (aG vE) 37 [.mp p 0] st K=K (.tup [.agg [.int .u8 ((Parse.nx (L.drop i)).1:Int),.str (Parse.nx (L.drop i)).2],.int .i64 ((i+wT (L.drop i):Nat):Int)]) st' ⟨[],.all st st'⟩:=by
 obtain ⟨st',e,k⟩:=KL h
 exact ⟨st',k,fun K=>js (E:=vE) K rfl rfl e⟩
def Gq (s:List UInt8):List (List UInt8)→Nat→Option Nat
 | [],_=>none
 | t::l,j=>if s=t then some j else Gq s l (j+1)
theorem CA (s:List UInt8): ∀(l:List (List UInt8)) (j:Nat),(Gq s l j).isSome=l.any fun t=>t==s
 | [],_=>rfl
 | t::l,j=>by
  simp only [Gq,List.any_cons]
  by_cases h:s=t
  ·rw [if_pos h,h];simp
  ·rw [if_neg h,CA s l (j+1),beq_eq_false_iff_ne.2 (fun e=>h e.symm),Bool.false_or]
theorem Fw {x:AV} {ss:List (List UInt8)} (h:bl 1 x (ss.map AV.str)) {j:Nat} {s:List UInt8} (hj:ss[j]? =some s) {β:Type} (st:St) (K:AV→List Nat→Option β):bZ 1 x (j:Int) st K=K (.ip [.str s]) []:=
 h.idx (v:= .str s) (by rw [List.getElem?_map,hj];rfl) st K
theorem x7 {x:AV} {ss:List (List UInt8)} (hx:bl 1 x (ss.map AV.str)) (s:List UInt8) (st:St): ∀(l:List (List UInt8)) (j:Nat),ss.drop j=l→
  bu (tP x s ss.length) ([.int .i64 0,.int .i64 (j:Int)],st)=(match Gq s l j with | some k=>some (1,[.int .i64 (k:Int)],st) | none=>some (0,[.int .i64 0],st))
 | [],j,hd=>by
  have:=List.drop_eq_nil_iff.1 hd
  have q:¬ (j:Int) < (ss.length:Int):=by omega
  refine bC ?_
  simp only [tP,ag,aj,ah,aF,if_neg q]
 | t::l,j,hd=>by
  obtain ⟨hg,hr,hlt⟩:=drop_cons hd
  have q:(j:Int) < (ss.length:Int):=by omega
  have hlen:=hx.1
  rw [List.length_map] at hlen
  simp only [Gq]
  by_cases h:s=t
  ·rw [if_pos h]
   refine bC ?_
   have hb:(s==t)=true:=by simp [h]
   simp only [tP,ag,aj,ah,aF,if_pos q,Fw hx hg,bL,bU,al,az,hb,aH]
  ·rw [if_neg h,bR (s':=([.int .i64 0,.int .i64 ((j+1:Nat):Int)],st)),x7 hx s st l (j+1) hr]
   have hb:(s==t)=false:=beq_eq_false_iff_ne.2 h
   simp only [tP,ag,aj,ah,aF,if_pos q,Fw hx hg,bL,bU,al,az,hb,aB,aY,cH (show j+1≤9223372036854775807 by omega)]
theorem CN {x:AV} {ss:List (List UInt8)} (hx:bl 1 x (ss.map AV.str)) (s:List UInt8):(aG vE).bare 54 [x,.str s]=some (.bool (ss.any fun t=>t==s)):=by
 have hi: ∃n:Int,(aG vE).bare 80 [x,.str s]=some (.int .i64 n)∧decide (n≥0)=ss.any fun t=>t==s:=by
  have e:=x7 hx s (St.mk 0 0 Tr.leaf) ss 0 rfl
  have e:bu (tP x s ss.length) ([.int .i64 0,.int .i64 0],St.mk 0 0 Tr.leaf)= _:=e
  have hl:=fun {β:Type} (K:Nat→Option β)=>hx.len K
  simp only [List.length_map] at hl
  rw [← CA s ss 0]
  cases hk:Gq s ss 0 with
  | some k=>
   rw [hk] at e
   refine ⟨(k:Int),br rfl ((HP _ _).trans ?_),by simp⟩
   simp only [Re,az,hl,e,al,ag,aj,ah,pC]
  | none=>
   rw [hk] at e
   refine ⟨-1,br rfl ((HP _ _).trans ?_),by simp⟩
   simp only [Re,az,hl,e,al,ag,aj,ah,iH]
 obtain ⟨n,h1,h2⟩:=hi
 refine br rfl ((Oi _ _).trans ?_)
 have c:=fun {β:Type} (st:St) (K:Kv β)=>bj (f:=80) st K rfl (by simp only [List.map_cons,List.map_nil,hx.strip];rfl) (by simp only [bg,hx.bare];rfl) h1
 simp only [Ss,az,c,aj,h2]
theorem qT {x:AV} {ss:List (List UInt8)} (hx:bl 1 x (ss.map AV.str)) (s:List UInt8) {β:Type} (st:St) (K:Kv β):ak (aG vE) 54 [x,.str s] st K=K (.bool (ss.any fun t=>t==s)) st q0:=
 bj (f:=54) st K rfl (by simp only [List.map_cons,List.map_nil,hx.strip];rfl) (by simp only [bg,hx.bare];rfl) (CN hx s)
theorem Q1 (st:St) (k:Nat) (t:List UInt8) (h:st.ro≤st.h): ∃st',st'.get st.h= .ok (.cells 41 [.int .u8 (k:Int),.str t])∧ba st st' (fun _=>False)∧ ∃fx,∀{β:Type} (K:Kv β),ao (aG vE) 2 (AV.mp st.h 0) (.agg [.int .u8 (k:Int),.str t]) [.int .u8 (k:Int),.str t] (st.add (.cells 41 [.int .u8 0,.str []])) K=K VM.undef st' fx:=by
 obtain ⟨st',g,k1,_,fx,e⟩:=yQ (O:=aG vE) (st:=st) (t:=41) (z:=2) (old:=[.int .u8 0,.str []]) (cs:=[.int .u8 (k:Int),.str t]) (.agg [.int .u8 (k:Int),.str t]) rfl rfl h
 exact ⟨st',g,k1,fx,e⟩
theorem Qy {st:St} {p:Nat} {L:List Parse.aQ} {x:AV} {i d:Nat} (h:PS st p L x i d) {y:AV} {ss:List (List UInt8)} (hy:bl 1 y (ss.map AV.str)):
  ∃st',(aG vE).wide 38 [.mp p 0,y] st=some (.bool (Parse.isAny ss (L.drop i)),st')∧ba st st' (fun _=>False):=by
 obtain ⟨st1,k1,c1⟩:=nv h
 obtain ⟨st2,g2,k2,fx,e2⟩:=Q1 st1 (Parse.nx (L.drop i)).1 (Parse.nx (L.drop i)).2 (PS.jd k1 h.yx)
 refine ⟨st2,jF ((NG _ _ _).trans ?_),k1.trans k2⟩
 unfold Parse.isAny
 generalize Parse.nx (L.drop i)=t at c1 g2 e2
 by_cases h3:t.1=3
 ·have h3':(t.1:Int)=3:=by omega
  have e:((t.1==3||t.1==8)&&ss.any fun s=>s==t.2)=ss.any fun s=>s==t.2:=by simp [h3]
  rw [e]
  simp only [Q2,c1,dj,bS,cA,aL,ag,aj,az,ah,fo,e2,bF g2,List.drop_zero,tj,bU,al,eI,if_pos h3',qT hy,aC]
 by_cases h8:t.1=8
 ·have h3':¬ (t.1:Int)=3:=by omega
  have h8':(t.1:Int)=8:=by omega
  have e:((t.1==3||t.1==8)&&ss.any fun s=>s==t.2)=ss.any fun s=>s==t.2:=by simp [h8]
  rw [e]
  simp only [Q2,c1,dj,bS,cA,aL,ag,aj,az,ah,fo,e2,bF g2,List.drop_zero,tj,bU,al,eI,if_neg h3',if_pos h8',qT hy,aC]
 ·have h3':¬ (t.1:Int)=3:=by omega
  have h8':¬ (t.1:Int)=8:=by omega
  have e:((t.1==3||t.1==8)&&ss.any fun s=>s==t.2)=false:=by simp [h3,h8]
  rw [e]
  simp only [Q2,c1,dj,bS,cA,aL,ag,aj,az,ah,fo,e2,bF g2,List.drop_zero,tj,bU,al,eI,if_neg h3',if_neg h8',aC]
theorem AX {st:St} {p:Nat} {L:List Parse.aQ} {x:AV} {i d:Nat} (h:PS st p L x i d) {y:AV} {ss:List (List UInt8)} (hy:bl 1 y (ss.map AV.str)):
  ∃st',ba st st' (fun _=>False)∧ ∀{β:Type} (K:Kv β),ak (aG vE) 38 [.mp p 0,y] st K=K (.bool (Parse.isAny ss (L.drop i))) st' ⟨[],.all st st'⟩:=by
 obtain ⟨st',e,k⟩:=Qy h hy
 exact ⟨st',k,fun K=>js (E:=vE) K rfl rfl e⟩
theorem zQ (s:List UInt8) (r:List Parse.aQ):Parse.isAny [s] r=Parse.bN s r:=by
 unfold Parse.isAny Parse.bN
 congr 1
 simp only [List.any_cons,List.any_nil,Bool.or_false]
 rw [Bool.eq_iff_iff,beq_iff_eq,beq_iff_eq]
 exact eq_comm
theorem tA (l:List (List UInt8)) (h:l.length≤1000):bl 1 (.sl 1 (l.map AV.str) .shut) (l.map AV.str):=bl.shut (by rw [List.length_map];omega)
end Go.Proofs.YtmngkfmgnkeclaaGreatDoor.Vm
namespace Go.Proofs.YtmngkfmgnkeclaaGreatDoor.Vm
open Go Go.VM Go.Proofs Go.Lex Go.Parse
mutual
def kO:T→AV→Prop
 | .mk k tk tx l,v=> ∃x es,v= .agg [.int .u8 (k:Int),.int .u8 (tk:Int),.str tx,x]∧bl 4 x es∧bO l es
def bO:List T→List AV→Prop
 | [],es=>es=[]
 | t::l,es=> ∃e r,es=e::r∧kO t e∧bO l r
end
theorem bO.nil:bO [] []:=by simp only [bO]
theorem bO.cons {t:T} {l:List T} {e:AV} {r:List AV} (h:kO t e) (hs:bO l r):bO (t::l) (e::r):=by
 simp only [bO];exact ⟨e,r,rfl,h,hs⟩
theorem bO.app: ∀{l m:List T} {es fs:List AV},bO l es→bO m fs→bO (l++m) (es++fs)
 | [],_,_,_,h,k=>by simp only [bO] at h;subst h;exact k
 | t::l,_,_,_,h,k=>by
  simp only [bO] at h
  obtain ⟨e,r,rfl,h1,h2⟩:=h
  exact bO.cons h1 (bO.app h2 k)
theorem bO.len: ∀{l:List T} {es:List AV},bO l es→es.length=l.length
 | [],_,h=>by simp only [bO] at h;subst h;rfl
 | t::l,_,h=>by
  simp only [bO] at h
  obtain ⟨e,r,rfl,h1,h2⟩:=h
  simp [bO.len h2]
def Bi (x:AV) (es:List AV):Prop:=bl 4 x es∨(es.length≤9223372036854775807∧ ∃k,x= .sl 4 es (.own k))
theorem Bi.one {x:AV} {es:List AV} (h:Bi x es):VM.one x=true:=by
 rcases h with h | ⟨_,k,rfl⟩
 ·exact h.one
 ·rfl
theorem Bi.af {β:Type} {x:AV} {es:List AV} (h:Bi x es) (K:Option β):af x K=K:=iQ h.one K
theorem Bi.fit {x:AV} {es:List AV} (h:Bi x es): ∃x',bl 4 x' es∧ ∀{β:Type} (K:AV→Option β),aV x K=K x':=by
 rcases h with h | ⟨hl,k,rfl⟩
 ·exact ⟨x,h,fun K=>h.aV K⟩
 ·exact ⟨.sl 4 es .wide,bl.wide hl,fun K=>rfl⟩
theorem Bi.own {st:St} {e:TypeId} {x:AV} {es:List AV} (h:iN st 4 e x es):Bi x es:=by
 rcases h.2.2 with ⟨rfl | rfl,rfl⟩ | rfl | ⟨k,rfl,_,_⟩
 ·exact .inl bl.aq
 ·exact .inl bl.emp
 ·exact .inl (bl.shut h.2.1)
 ·exact .inr ⟨h.2.1,k,rfl⟩
theorem Bi.elems {β:Type} {x:AV} {es:List AV} (h:Bi x es) (K:List AV→Option β):lT x K=K es:=by
 rcases h with h | ⟨_,k,rfl⟩
 ·exact h.elems K
 ·rfl
structure VN (t:T) (v:AV):Prop where
 ex: ∃k tk tx l x es,t= .mk k tk tx l∧v= .agg [.int .u8 (k:Int),.int .u8 (tk:Int),.str tx,x]∧Bi x es∧bO l es
structure Nd (t:T) (k tk:Nat) (tx:List UInt8) (x:AV):Prop where
 ex: ∃l es,t= .mk k tk tx l∧Bi x es∧bO l es
theorem Nd.one {t:T} {k tk:Nat} {tx:List UInt8} {x:AV} (h:Nd t k tk tx x):VM.one x=true:=by
 obtain ⟨l,es,_,hk,_⟩:=h.ex
 exact hk.one
theorem Nd.af {t:T} {k tk:Nat} {tx:List UInt8} {x:AV} (h:Nd t k tk tx x) {β:Type} (K:Option β):af x K=K:=iQ h.one K
theorem Nd.fit {t:T} {k tk:Nat} {tx:List UInt8} {x:AV} (h:Nd t k tk tx x): ∃x',kO t (.agg [.int .u8 (k:Int),.int .u8 (tk:Int),.str tx,x'])∧ ∀{β:Type} (K:AV→Option β),aV x K=K x':=by
 obtain ⟨l,es,rfl,hk,hn⟩:=h.ex
 obtain ⟨x',hx,hf⟩:=hk.fit
 exact ⟨x',by simp only [kO];exact ⟨x',es,rfl,hx,hn⟩,hf⟩
theorem VN.cells {t:T} {v:AV} (h:VN t v): ∃(k tk:Nat) (tx:List UInt8) (x:AV),v= .agg [.int .u8 (k:Int),.int .u8 (tk:Int),.str tx,x]∧Nd t k tk tx x:=by
 obtain ⟨k,tk,tx,l,x,es,rfl,rfl,hk,hn⟩:=h.ex
 exact ⟨k,tk,tx,x,rfl,⟨⟨l,es,rfl,hk,hn⟩⟩⟩
theorem Nd.vn {t:T} {k tk:Nat} {tx:List UInt8} {x:AV} (h:Nd t k tk tx x):VN t (.agg [.int .u8 (k:Int),.int .u8 (tk:Int),.str tx,x]):=by
 obtain ⟨l,es,rfl,hk,hn⟩:=h.ex
 exact ⟨⟨k,tk,tx,l,x,es,rfl,rfl,hk,hn⟩⟩
mutual
theorem kO.rf: ∀{t:T} {v:AV},kO t v→Rf (2 * gq t) v
 | .mk k tk tx l,v,h=>by
  simp only [kO] at h
  obtain ⟨x,es,rfl,hx,hn⟩:=h
  have he:=bO.rf hn
  have hxr:Rf (2 * fc l+1) x:=by
   rcases hx.2 with ⟨rfl | rfl,rfl⟩ | rfl | rfl
   ·exact Ah.mono (by omega)
   ·exact Jx.mono (by omega)
   ·exact uN he
   ·exact uN he
  simp only [gq]
  refine (MW (d:=2 * fc l+1) fun c hc=> ?_).mono (by omega)
  simp only [List.mem_cons,List.mem_nil_iff,or_false] at hc
  rcases hc with rfl | rfl | rfl | rfl
  ·exact (tv _ _).mono (by omega)
  ·exact (tv _ _).mono (by omega)
  ·exact (EF _).mono (by omega)
  ·exact hxr
theorem bO.rf: ∀{l:List T} {es:List AV},bO l es→ ∀e∈es,Rf (2 * fc l) e
 | [],_,h,e,he=>by simp only [bO] at h;subst h;cases he
 | t::l,_,h,e,he=>by
  simp only [bO] at h
  obtain ⟨a,r,rfl,h1,h2⟩:=h
  simp only [fc]
  rcases List.mem_cons.1 he with rfl | he
  ·exact (kO.rf h1).mono (by omega)
  ·exact (bO.rf h2 e he).mono (by omega)
end
theorem Nd.rf {t:T} {k tk:Nat} {tx:List UInt8} {x:AV} (h:Nd t k tk tx x): ∀c∈[AV.int .u8 (k:Int),.int .u8 (tk:Int),.str tx,x],Rf (2 * gq t) c:=by
 obtain ⟨l,es,rfl,hk,hn⟩:=h.ex
 have he:=bO.rf hn
 have hxr:Rf (2 * fc l+1) x:=by
  rcases hk with hx | ⟨_,k,rfl⟩
  ·rcases hx.2 with ⟨rfl | rfl,rfl⟩ | rfl | rfl
   ·exact Ah.mono (by omega)
   ·exact Jx.mono (by omega)
   ·exact uN he
   ·exact uN he
  ·exact uN he
 intro c hc
 simp only [gq]
 simp only [List.mem_cons,List.mem_nil_iff,or_false] at hc
 rcases hc with rfl | rfl | rfl | rfl
 ·exact (tv _ _).mono (by omega)
 ·exact (tv _ _).mono (by omega)
 ·exact (EF _).mono (by omega)
 ·exact hxr.mono (by omega)
theorem SQ (st:St) (k tk:Int) (tx:List UInt8) (x:AV) (h:st.ro≤st.h): ∃st',st'.get st.h= .ok (.cells 44 [.int .u8 k,.int .u8 tk,.str tx,x])∧ba st st' (fun _=>False)∧st'.h=st.h+1∧ ∃fx,∀{β:Type} (K:Kv β),ao (aG vE) 4 (AV.mp st.h 0) (.agg [.int .u8 k,.int .u8 tk,.str tx,x]) [.int .u8 k,.int .u8 tk,.str tx,x] (st.add (.cells 44 [.int .u8 0,.int .u8 0,.str [],.aq])) K=K VM.undef st' fx:=by
 obtain ⟨st',g,k1,n,fx,e⟩:=yQ (O:=aG vE) (st:=st) (t:=44) (z:=4) (old:=[.int .u8 0,.int .u8 0,.str [],.aq]) (cs:=[.int .u8 k,.int .u8 tk,.str tx,x]) (.agg [.int .u8 k,.int .u8 tk,.str tx,x]) rfl rfl h
 exact ⟨st',g,k1,n,fx,e⟩
theorem Q0 {st:St} {id:Nat} {old:List AV} (hg:st.get id= .ok (.cells 44 old)) (ho:old.length=4) (k tk:Int) (tx:List UInt8) (x:AV) (hro:st.ro≤id): ∃st',st'.get id= .ok (.cells 44 [.int .u8 k,.int .u8 tk,.str tx,x])∧ba st st' (· =id)∧st'.h=st.h∧ ∃fx,∀{β:Type} (K:Kv β),ao (aG vE) 4 (AV.mp id 0) (.agg [.int .u8 k,.int .u8 tk,.str tx,x]) [.int .u8 k,.int .u8 tk,.str tx,x] st K=K VM.undef st' fx:=by
 obtain ⟨st',g,k1,n,fx,e⟩:=Fe (O:=aG vE) (.agg [.int .u8 k,.int .u8 tk,.str tx,x]) hg ho (cs:=[.int .u8 k,.int .u8 tk,.str tx,x]) rfl hro
 exact ⟨st',g,k1,n,fx,e⟩
theorem ba.join {a b c:St} {p q:Nat→Prop} (h:ba a b p) (k:ba b c q) (hq: ∀j,q j→p j∨a.h≤j):ba a c p:=
 ⟨k.ro.trans h.ro,Nat.le_trans h.h k.h,fun j o hj hg=>k.old j o (fun e=>by
  rcases hq j e with h1 | h1
  ·exact hj h1
  ·have:=(St.bM.1 hg).1
   omega) (h.old j o hj hg)⟩
def zx (t:aQ):AV:= .agg [.int .u8 ((1:Nat):Int),.int .u8 (t.1:Int),.str t.2,.aq]
theorem Bk: ∀(l:List aQ),bO (l.map eR) (l.map zx)
 | []=>bO.nil
 | t::l=>bO.cons (by
   show kO (.mk 1 t.1 t.2 []) (zx t)
   simp only [kO]
   exact ⟨.aq,[],rfl,bl.aq,bO.nil⟩) (Bk l)
theorem LB (r:List aQ):r.drop (wT r)=r.dropWhile aZ:=by
 have h:(r.takeWhile aZ++r.dropWhile aZ).drop (r.takeWhile aZ).length=r.dropWhile aZ:=List.drop_left
 rw [List.takeWhile_append_dropWhile] at h
 exact h
theorem QM (r:List aQ):wT r≤r.length:=(List.takeWhile_sublist aZ).length_le
theorem KZ (r:List aQ):r.take (wT r)=r.takeWhile aZ:=by
 have h:(r.takeWhile aZ++r.dropWhile aZ).take (r.takeWhile aZ).length=r.takeWhile aZ:=List.take_left
 rw [List.takeWhile_append_dropWhile] at h
 exact h
def mq (L:List aQ) (i:Nat):Nat:=min (i+wT (L.drop i)+1) L.length
theorem wD (L:List aQ) (i:Nat):aJ (L.drop i)=L.drop (mq L i):=by
 unfold aJ mq
 rw [← LB,List.drop_drop,List.drop_drop]
 rcases Nat.lt_or_ge (i+wT (L.drop i)+1) L.length with q | q
 ·rw [Nat.min_eq_left (Nat.le_of_lt q)]
  congr 1
 ·rw [Nat.min_eq_right q,List.drop_of_length_le (by omega),List.drop_of_length_le (Nat.le_refl _)]
theorem yK {x:AV} {Z:List aQ} (hx:bl 2 x (Z.map tok)) (hZ:Z.length≤1000000) {st19:St} {k tk:Int} {tx:List UInt8} {h0:Nat} (hn0:h0≤st19.h): ∀(l:List aQ) (j:Nat) (st:St) (v:AV) (es:List AV),Z.drop j=l→st.get st19.h= .ok (.cells 44 [.int .u8 k,.int .u8 tk,.str tx,v])→iN st 4 44 v es→(∀j,dW v j→h0≤j)→es.length+l.length≤2000000→st.ro≤st19.h→h0≤st.h→
  ∃v' st',bu (xB st19 x Z.length) ([.int .i64 (j:Int)],st)=some (0,[],st')∧st'.get st19.h= .ok (.cells 44 [.int .u8 k,.int .u8 tk,.str tx,v'])∧iN st' 4 44 v' (es++l.map zx)∧(∀j,dW v' j→h0≤j)∧ba st st' (fun j=>h0≤j)
 | [],j,st,v,es,hd,hg,ho,hfr,hl,hro,hh=>by
  have:=List.drop_eq_nil_iff.1 hd
  have q:¬ (j:Int) < (Z.length:Int):=by omega
  refine ⟨v,st,bC ?_,hg,by simpa using ho,hfr,ba.refl _ _⟩
  simp only [xB,ag,aj,ah,aF,if_neg q]
 | t::l,j,st,v,es,hd,hg,ho,hfr,hl,hro,hh=>by
  obtain ⟨hgt,hr,hlt⟩:=drop_cons hd
  have q:(j:Int) < (Z.length:Int):=by omega
  have hroh:st.ro≤st.h:=Nat.le_trans hro (Nat.le_of_lt (St.bM.1 hg).1)
  obtain ⟨s1,g1,k1,fx1,e1⟩:=Q1 st t.1 t.2 hroh
  have hg1:=k1.old _ _ (fun f=>f) hg
  have ho1:=pF ho k1 (fun _ _ f=>f)
  simp only [List.length_cons] at hl
  obtain ⟨v2,s2,x2,a2,o2,k2,f2⟩:=vj (b:=56) (new:=[zx t]) ho1 (by simp) (vD (by simp only [List.length_singleton];omega) (by omega) (by omega))
  have hown2:¬ dW v st19.h:=ho.not hg
  have hg2:=k2.old _ _ hown2 hg1
  have hro2:s2.ro≤st19.h:=by rw [k2.ro,k1.ro];exact hro
  have hst:=fun {β:Type} (K:Kv β)=>dw (O:=aG vE) (v:=v2) (cs:=[v2]) (off:=3) (z:=1) hg2 rfl (by simp) hro2 K
  have hsp:cF [.int .u8 k,.int .u8 tk,.str tx,v] 3 [v2]=[.int .u8 k,.int .u8 tk,.str tx,v2]:=rfl
  rw [hsp] at hst
  have hg3:(s2.put st19.h (.cells 44 [.int .u8 k,.int .u8 tk,.str tx,v2])).get st19.h= .ok (.cells 44 [.int .u8 k,.int .u8 tk,.str tx,v2]):=St.aR (St.bM.1 hg2).1
  have ho3:iN (s2.put st19.h (.cells 44 [.int .u8 k,.int .u8 tk,.str tx,v2])) 4 44 v2 (es++[zx t]):=o2.put hg2
  have k3:ba s2 (s2.put st19.h (.cells 44 [.int .u8 k,.int .u8 tk,.str tx,v2])) (· =st19.h):=ba.put rfl
  generalize s2.put st19.h (.cells 44 [.int .u8 k,.int .u8 tk,.str tx,v2])=s3 at hst hg3 ho3 k3
  have hfr2: ∀j,dW v2 j→h0≤j:=fun j hj=>by
   rcases f2 j hj with h | h
   ·exact hfr j h
   ·have:=k1.h;omega
  obtain ⟨v',st',e',g',o',f',k'⟩:=yK hx hZ hn0 l (j+1) s3 v2 (es++[zx t]) hr hg3 ho3 hfr2 (by rw [List.length_append];simp;omega) (by rw [k3.ro];exact hro2) (by have:=k1.h;have:=k2.h;have:=k3.h;omega)
  refine ⟨v',st', ?_,g',by rw [List.append_assoc] at o';exact o',f', ?_⟩
  ·rw [bR (s':=([.int .i64 ((j+1:Nat):Int)],s3)),e']
   have a2: ∀{β:Type} (K:Kv β),gf 4 56 44 v [.agg [.int .u8 1,.int .u8 (t.1:Int),.str t.2,.aq]] s1 K=K v2 s2 x2:=fun K=>qa a2 K
   have ov: ∀{β:Type} (K:Option β),af v2 K=K:=fun K=>iQ o2.one K
   simp only [xB,ag,aj,ah,aF,if_pos q,xn hx hgt,bL,ua,al,aL,az,fo,e1,bF hg1,QF,bU,bF g1,List.drop_zero,a2,ov,hst,aY,cH (show j+1≤9223372036854775807 by omega)]
  ·refine ((k1.Dn (q:=fun j=>h0≤j) (fun _ f=>f.elim)).trans (k2.Dn fun j hj=>hfr j hj)).trans ((k3.Dn fun j hj=> ?_).trans k')
   have hj:j=st19.h:=hj
   omega
theorem Fj {st:St} {p:Nat} {L:List aQ} {x:AV} {i d:Nat} (h:PS st p L x i d):
  ∃v st',(aG vE).wide 39 [.mp p 0] st=some (v,st')∧VN (aN (L.drop i)) v∧PS st' p L x (mq L i) d∧ba st st' (· =p):=by
 have hle:=h.le
 have hlen:=h.len
 have hw:=QM (L.drop i)
 rw [List.length_drop] at hw
 have k0:ba st (st.add (.cells 44 [.int .u8 0,.int .u8 0,.str [],.aq])) (fun _=>False):=ba.add _ _ _
 have g0:(st.add (.cells 44 [.int .u8 0,.int .u8 0,.str [],.aq])).get st.h= .ok (.cells 44 [.int .u8 0,.int .u8 0,.str [],.aq]):=St.dR
 have hro:=h.yx
 have hlt:=h.lt
 have h1:=h.keeps k0 (fun f=>f)
 have n0:(st.add (.cells 44 [.int .u8 0,.int .u8 0,.str [],.aq])).h=st.h+1:=rfl
 generalize hs0:st.add (.cells 44 [.int .u8 0,.int .u8 0,.str [],.aq])=s0 at k0 g0 h1 n0
 obtain ⟨s1,k1,c1⟩:=nv h1
 generalize hT:nx (L.drop i)=T0 at c1
 obtain ⟨s2,g2,k2,fx2,e2⟩:=Q1 s1 T0.1 T0.2 (PS.jd k1 h1.yx)
 obtain ⟨s3,g3,k3,n3,fx3,e3⟩:=SQ s2 1 (T0.1:Int) T0.2 .aq (PS.jd k2 (PS.jd k1 h1.yx))
 have kk:=(k0.trans k1).trans (k2.trans k3)
 have h3:=h.keeps kk (fun f=>f)
 obtain ⟨z,hz,ez⟩:=h.sl.cut (lo:=some (i:Int)) (hi:=some ((i+wT (L.drop i):Nat):Int)) (qd (by omega)) (qd (by rw [List.length_map];omega))
 have hzm:((L.map tok).take (i+wT (L.drop i))).drop i=((L.drop i).take (wT (L.drop i))).map tok:=by
  rw [← List.map_take, ← List.map_drop,List.drop_take]
  congr 2;omega
 rw [hzm] at hz
 have hZl:((L.drop i).take (wT (L.drop i))).length≤1000000:=by rw [List.length_take,List.length_drop];omega
 have h2h:s0.h≤s2.h:=by have:=k1.h;have:=k2.h;omega
 obtain ⟨v4,s4,e4,g4,o4,f4,k4⟩:=yK hz hZl (st19:=s2) (h0:=s0.h) h2h ((L.drop i).take (wT (L.drop i))) 0 s3 .aq [] rfl g3 (iN.aq (PS.jd k3 (PS.jd k2 (PS.jd k1 h1.yx))) _ _) (fun j hj=>by obtain ⟨_,_,e⟩:=hj;cases e) (by simp only [List.length_nil];omega) (by rw [kk.ro];omega) (by have:=k3.h;omega)
 rw [List.nil_append,KZ] at o4
 have e4:bu (xB s2 z ((L.drop i).take (wT (L.drop i))).length) ([.int .i64 0],s3)= _:=e4
 have hzl: ∀{β:Type} (K:Nat→Option β),fC z K=K ((L.drop i).take (wT (L.drop i))).length:=fun K=>by rw [hz.len,List.length_map]
 have kk4:ba st s4 (fun _=>False):=ba.join kk k4 fun j hj=> .inr (by have:=k0.h;have hj:s0.h≤j:=hj;omega)
 have h4:=h.keeps kk4 (fun f=>f)
 have hmin:(if ((L.map tok).length:Int) < ((i+wT (L.drop i)+1:Nat):Int) then ((L.map tok).length:Int) else ((i+wT (L.drop i)+1:Nat):Int))=((mq L i:Nat):Int):=by
  unfold mq
  rw [List.length_map]
  split <;> omega
 have hst5:=fun {β:Type} (K:Kv β)=>dw (O:=aG vE) (v:= .int .i64 ((mq L i:Nat):Int)) (cs:=[.int .i64 ((mq L i:Nat):Int)]) (off:=1) (z:=1) h4.get rfl (by simp) h4.ro K
 have hsp:cF [x,.int .i64 (i:Int),.int .i64 (d:Int)] 1 [.int .i64 ((mq L i:Nat):Int)]=[x,.int .i64 ((mq L i:Nat):Int),.int .i64 (d:Int)]:=rfl
 rw [hsp] at hst5
 have g5p:(s4.put p (.cells 65 [x,.int .i64 ((mq L i:Nat):Int),.int .i64 (d:Int)])).get p= .ok (.cells 65 [x,.int .i64 ((mq L i:Nat):Int),.int .i64 (d:Int)]):=St.aR (St.bM.1 h4.get).1
 have k5:ba s4 (s4.put p (.cells 65 [x,.int .i64 ((mq L i:Nat):Int),.int .i64 (d:Int)])) (· =p):=ba.put rfl
 generalize s4.put p (.cells 65 [x,.int .i64 ((mq L i:Nat):Int),.int .i64 (d:Int)])=s5 at hst5 g5p k5
 have hp5:PS s5 p L x (mq L i) d:=⟨g5p,h.sl,Nat.min_le_right _ _,hlen,by rw [k5.ro,kk4.ro];exact h.ro⟩
 have hs2p:s2.h≠p:=by omega
 have g5:=k5.yD hs2p g4
 have hsh:st.h≠p:=by omega
 have gr5:=k5.yD hsh (k4.old _ _ (by omega) ((k1.trans (k2.trans k3)).old _ _ (fun f=>f) g0))
 obtain ⟨s6,g6',k6,n6,fx6,e6⟩:=Q0 gr5 rfl 1 (T0.1:Int) T0.2 v4 (by rw [k5.ro,kk4.ro];exact hro)
 have nd:Nd (aN (L.drop i)) 1 T0.1 T0.2 v4:=by
  refine ⟨⟨_,_, ?_,Bi.own o4,Bk _⟩⟩
  unfold aN leaf
  rw [hT]
 have kf:ba st s6 (· =p):=by
  have ka:ba st s5 (· =p):=(kk4.Dn fun _ f=>f.elim).trans k5
  exact ba.join ka k6 fun j hj=> .inr (by have hj:j=st.h:=hj;omega)
 refine ⟨_,s6,jF ((Ow _ _).trans ?_),nd.vn,hp5.keeps k6 (fun e=>hsh e.symm),kf⟩
 have w1:=cH (show i+wT (L.drop i)+1≤9223372036854775807 by omega)
 simp only [Sm,fo,hs0,c1,dj,bS,cA,aL,ag,aj,az,ah,e2,bF g2,List.drop_zero,ua,al,e3,dv,bf,di,Nat.zero_add,bF h3.get,tj,bU,ez,hzl,e4,aY,w1,bF h4.get,h.sl.len,hmin,hst5,bF g5,AP,nd.af,e6,bF g6']
 rfl
def NC (F:FuncId) (args:List AV) (st:St) (p:Nat) (L:List aQ) (x:AV) (d:Nat) (t:T) (r':List aQ):Prop:=
 ∃v st' i',(aG vE).wide F args st=some (v,st')∧VN t v∧PS st' p L x i' d∧L.drop i'=r'∧ba st st' (· =p)
theorem NC.call {F:FuncId} {args:List AV} {st:St} {p:Nat} {L:List aQ} {x:AV} {d:Nat} {t:T} {r':List aQ} (h:NC F args st p L x d t r') (h1:vE.isLook F=false) (h2:(bz (args.map strip)&& !vE.full F)=false):
  ∃(k tk:Nat) (tx:List UInt8) (y:AV) (st':St) (i':Nat),Nd t k tk tx y∧PS st' p L x i' d∧L.drop i'=r'∧ba st st' (· =p)∧ ∀{β:Type} (K:Kv β),ak (aG vE) F args st K=K (.agg [.int .u8 (k:Int),.int .u8 (tk:Int),.str tx,y]) st' ⟨[],.all st st'⟩:=by
 obtain ⟨v,st',i',e,hv,hp,hr,hk⟩:=h
 obtain ⟨k,tk,tx,y,rfl,hn⟩:=hv.cells
 exact ⟨k,tk,tx,y,st',i',hn,hp,hr,hk,fun K=>js (E:=vE) K h1 h2 e⟩
theorem KK {st:St} {p:Nat} {L:List aQ} {x:AV} {i d:Nat} (h:PS st p L x i d):NC 39 [.mp p 0] st p L x d (aN (L.drop i)) (aJ (L.drop i)):=by
 obtain ⟨v,st',e,hv,hp,hk⟩:=Fj h
 exact ⟨v,st',_,e,hv,hp,(wD L i).symm,hk⟩
theorem Ga {st:St} {p:Nat} {L:List aQ} {x:AV} {i d:Nat} (h:PS st p L x i d):
  ∃(k tk:Nat) (tx:List UInt8) (y:AV) (st':St) (i':Nat),Nd (aN (L.drop i)) k tk tx y∧PS st' p L x i' d∧L.drop i'=aJ (L.drop i)∧ba st st' (· =p)∧ ∀{β:Type} (K:Kv β),ak (aG vE) 39 [.mp p 0] st K=K (.agg [.int .u8 (k:Int),.int .u8 (tk:Int),.str tx,y]) st' ⟨[],.all st st'⟩:=
 (KK h).call rfl rfl
theorem nS (s:List UInt8) {β:Type} (st:St) (K:Kv β):ak (aG vE) 82 [.str s] st K=K (.agg [.int .u8 2,.int .u8 0,.str s,.aq]) st q0:=
 bj st K rfl rfl rfl (br rfl ((MR _).trans (by simp only [Sj,az])))
theorem rC (s:List UInt8):Nd (missing s) 2 0 s .aq:=⟨⟨[],[],rfl,.inl bl.aq,bO.nil⟩⟩
theorem Lg {st:St} {p:Nat} {L:List aQ} {x:AV} {i d:Nat} (h:PS st p L x i d): ∃s0,st.add (.cells 44 [.int .u8 0,.int .u8 0,.str [],.aq])=s0∧s0.get st.h= .ok (.cells 44 [.int .u8 0,.int .u8 0,.str [],.aq])∧PS s0 p L x i d∧ba st s0 (fun _=>False)∧st.h≠p∧st.ro≤st.h∧s0.h=st.h+1:=
 ⟨_,rfl,St.dR,h.keeps (ba.add _ _ (fun _=>False)) (fun f=>f),ba.add _ _ _,Nat.ne_of_gt h.lt,h.yx,rfl⟩
theorem FC {st s:St} {p:Nat} {L:List aQ} {x:AV} {i d:Nat} {old:List AV} (hg:s.get st.h= .ok (.cells 44 old)) (ho:old.length=4) (hp:PS s p L x i d) (hne:st.h≠p) (hk:ba st s (· =p)) (hro:st.ro≤st.h) (k tk:Int) (tx:List UInt8) (y:AV):
  ∃s',s'.get st.h= .ok (.cells 44 [.int .u8 k,.int .u8 tk,.str tx,y])∧PS s' p L x i d∧ba st s' (· =p)∧ ∃fx,∀{β:Type} (K:Kv β),ao (aG vE) 4 (AV.mp st.h 0) (.agg [.int .u8 k,.int .u8 tk,.str tx,y]) [.int .u8 k,.int .u8 tk,.str tx,y] s K=K VM.undef s' fx:=by
 obtain ⟨s',g,k1,_,fx,e⟩:=Q0 hg ho k tk tx y (by rw [hk.ro];exact hro)
 exact ⟨s',g,hp.keeps k1 (fun e=>hne e.symm),ba.join hk k1 fun j hj=> .inr (Nat.le_of_eq hj.symm),fx,e⟩
theorem K2 {st:St} {p:Nat} {L:List aQ} {x:AV} {i d:Nat} (h:PS st p L x i d) (s:List UInt8):NC 57 [.mp p 0,.str s] st p L x d (bX s (L.drop i)) (aT s (L.drop i)):=by
 obtain ⟨s0,es0,g0,h0,k0,hne,hro,n0⟩:=Lg h
 obtain ⟨s1,k1,c1⟩:=AX h0 (tA [s] (by simp))
 rw [zQ] at c1
 have c1: ∀{β:Type} (K:Kv β),ak (aG vE) 38 [.mp p 0,.sl 1 [.str s] .shut] s0 K=K (.bool (bN s (L.drop i))) s1 ⟨[],.all s0 s1⟩:=fun K=>c1 K
 have h1:=h0.keeps k1 (fun f=>f)
 have g1:=k1.old _ _ (fun f=>f) g0
 unfold bX aT
 cases hb:bN s (L.drop i) with
 | true=>
  rw [hb] at c1
  obtain ⟨k,tk,tx,y,s2,i2,hn,h2,hr2,k2,c2⟩:=Ga h1
  have g2:=k2.yD hne g1
  obtain ⟨s3,g3,h3,k3,fx,e3⟩:=FC g2 rfl h2 hne (((k0.trans k1).Dn fun _ f=>f.elim).trans k2) hro (k:Int) (tk:Int) tx y
  refine ⟨_,s3,i2,jF ((IC _ _ _).trans ?_),hn.vn,h3,hr2,k3⟩
  simp only [RB,az,fo,es0,c1,aC,aH,c2,aL,ag,aj,ah,hn.af,e3,bF g3,List.drop_zero,AP,al]
 | false=>
  rw [hb] at c1
  obtain ⟨s3,g3,h3,k3,fx,e3⟩:=FC g1 rfl h1 hne ((k0.trans k1).Dn fun _ f=>f.elim) hro 2 0 s .aq
  refine ⟨_,s3,i,jF ((IC _ _ _).trans ?_),(rC s).vn,h3,rfl,k3⟩
  simp only [RB,az,fo,es0,c1,aC,aB,nS,aL,ag,aj,ah,DN,e3,bF g3,List.drop_zero,AP,al]
  rfl
def rn (pat:Bool):Nat:=if pat then 5 else 6
def qZ (pat:Bool):List UInt8:=if pat then yj else cy
theorem dz (a b:Nat):((a:Int)==(b:Int))=(a==b):=by
 by_cases h:a=b
 ·rw [h];simp
 ·rw [beq_eq_false_iff_ne.2 h,beq_eq_false_iff_ne.2 (show ¬ (a:Int)=(b:Int) by omega)]
theorem FL {st:St} {p:Nat} {L:List aQ} {x:AV} {i d:Nat} (h:PS st p L x i d) (pat:Bool):
  ∃st',(aG vE).wide 55 [.mp p 0,.int .u8 (rn pat:Int),.str (qZ pat)] st=some (.bool (bw pat (L.drop i)),st')∧ba st st' (fun _=>False):=by
 obtain ⟨s1,k1,c1⟩:=nv h
 have ht:nx (L.drop i)=nx (L.drop i):=rfl
 generalize hT:nx (L.drop i)=t at c1 ht
 obtain ⟨s2,g2,k2,fx2,e2⟩:=Q1 s1 t.1 t.2 (PS.jd k1 h.yx)
 have h2:=h.keeps (k1.trans k2) (fun f=>f)
 obtain ⟨s3,k3,c3⟩:=AX h2 (tA [mW,jC,cy,jb,qZ pat] (by simp))
 have c3: ∀{β:Type} (K:Kv β),ak (aG vE) 38 [.mp p 0,.sl 1 [.str [116,114,117,101],.str [102,97,108,115,101],.str [40],.str [91],.str (qZ pat)] .shut] s2 K=K (.bool (isAny [mW,jC,cy,jb,qZ pat] (L.drop i))) s3 ⟨[],.all s2 s3⟩:=fun K=>c3 K
 have e4:((t.1:Int)==4)=(t.1==4):=dz t.1 4
 have e5:((t.1:Int)==5)=(t.1==5):=dz t.1 5
 have e7:((t.1:Int)==7)=(t.1==7):=dz t.1 7
 have e9:((t.1:Int)==9)=(t.1==9):=dz t.1 9
 have ek:=dz t.1 (rn pat)
 have hb:bw pat (L.drop i)=(t.1==4||t.1==5||t.1==7||t.1==9||t.1==rn pat||isAny [mW,jC,cy,jb,qZ pat] (L.drop i)):=by
  unfold bw
  rw [hT]
  rfl
 rw [hb]
 by_cases hk:(t.1==4||t.1==5||t.1==7||t.1==9||t.1==rn pat)=true
 ·refine ⟨s2,jF ((IY _ _ _ _).trans ?_),k1.trans k2⟩
  rw [hk,Bool.true_or]
  simp only [RD,aj,az,c1,dj,bS,cA,aL,ag,ah,fo,e2,bF g2,List.drop_zero,bU,al,e4,e5,e7,e9,ek]
  cases h4:t.1==4 <;> simp only [h4,aH,aB,al,ag,aC,ah]
  cases h5:t.1==5 <;> simp only [h5,aH,aB,al,ag,aC,ah]
  cases h7:t.1==7 <;> simp only [h7,aH,aB,al,ag,aC,ah]
  cases h9:t.1==9 <;> simp only [h9,aH,aB,al,ag,aC,ah]
  simp only [h4,h5,h7,h9,Bool.false_or] at hk
  simp only [hk,aH]
 ·have hk:(t.1==4||t.1==5||t.1==7||t.1==9||t.1==rn pat)=false:=by simpa using hk
  refine ⟨s3,jF ((IY _ _ _ _).trans ?_),(k1.trans k2).trans k3⟩
  rw [hk,Bool.false_or]
  simp only [Bool.or_eq_false_iff] at hk
  obtain ⟨⟨⟨⟨h4,h5⟩,h7⟩,h9⟩,h10⟩:=hk
  simp only [RD,aj,az,c1,dj,bS,cA,aL,ag,ah,fo,e2,bF g2,List.drop_zero,bU,al,e4,e5,e7,e9,ek,h4,h5,h7,h9,h10,aB,aC,c3]
theorem BD {st:St} {p:Nat} {L:List aQ} {x:AV} {i d:Nat} (h:PS st p L x i d) (pat:Bool):
  ∃st',ba st st' (fun _=>False)∧ ∀{β:Type} (K:Kv β),ak (aG vE) 55 [.mp p 0,.int .u8 (rn pat:Int),.str (qZ pat)] st K=K (.bool (bw pat (L.drop i))) st' ⟨[],.all st st'⟩:=by
 obtain ⟨st',e,k⟩:=FL h pat
 exact ⟨st',k,fun K=>js (E:=vE) K rfl rfl e⟩
abbrev ND:TypeId:=44
def BC {β:Type} (v:AV) (K:Int→Int→List UInt8→AV→Option β):Option β:=ui v fun l=>bK l fun v1 l=>bV .u8 v1 fun a=>bK l fun v2 l=>bV .u8 v2 fun b=>bK l fun v3 l=>fY v3 fun s=>bK l fun v4 l=>cT l (K a b s v4)
theorem qm {β:Type} (a b:Int) (s:List UInt8) (y:AV) (K:Int→Int→List UInt8→AV→Option β):BC (.agg [.int .u8 a,.int .u8 b,.str s,y]) K=K a b s y:=by
 simp only [BC,aL,ag,aj,az,ah]
def Pz (PT:TypeId) (st:St) (p:Nat) (L:List aQ) (x:AV) (d:Nat) (r:List aQ):Prop:= ∃i,JQ PT st p L x i d∧L.drop i=r
theorem Pz.keeps {PT:TypeId} {st st':St} {p:Nat} {L:List aQ} {x:AV} {d:Nat} {r:List aQ} {but:Nat→Prop} (h:Pz PT st p L x d r) (k:ba st st' but) (hp:¬ but p):Pz PT st' p L x d r:=by
 obtain ⟨i,h,e⟩:=h
 exact ⟨i,h.keeps k hp,e⟩
abbrev Vr:=Nat×TypeId×List AV
structure Wd (PT:TypeId) (st0 st:St) (p:Nat) (L:List aQ) (x:AV) (d:Nat) (r:List aQ) (l:List Vr) (os:List (AV×List AV)):Prop where
 pz:Pz PT st p L x d r
 k:ba st0 st (· =p)
 v: ∀q∈l,st.get q.1= .ok (.cells q.2.1 q.2.2)∧st0.h≤q.1
 nd:(l.map (·.1)).Nodup
 o: ∀q∈os,iN st 4 ND q.1 q.2∧ ∀j,dW q.1 j→st0.h≤j
 od:os.Pairwise fun a b=> ∀j,dW a.1 j→¬ dW b.1 j
 p0:p < st0.h
 ro0:st0.ro≤st0.h
section
variable {PT:TypeId} {st0 st st':St} {p:Nat} {L:List aQ} {x:AV} {d d':Nat} {r r':List aQ} {l l1 l2:List Vr} {os:List (AV×List AV)}
theorem Wd.start {i:Nat} (h:JQ PT st p L x i d):Wd PT st st p L x d (L.drop i) [] []:=
 ⟨⟨i,h,rfl⟩,ba.refl _ _,(fun _ h=>by cases h),List.nodup_nil,(fun _ h=>by cases h),List.Pairwise.nil,h.lt,h.yx⟩
theorem Wd.begin (h:Pz PT st p L x d r):Wd PT st st p L x d r [] []:=by
 obtain ⟨i,h,rfl⟩:=h
 exact Wd.start h
theorem Wd.ro (w:Wd PT st0 st p L x d r l os):st.ro≤st.h:=PS.jd w.k w.ro0
theorem Wd.h (w:Wd PT st0 st p L x d r l os):st0.h≤st.h:=w.k.h
theorem Wd.get (w:Wd PT st0 st p L x d r l os) {a:Nat} {t:TypeId} {cs:List AV} (h:(a,t,cs)∈l):st.get a= .ok (.cells t cs):=(w.v _ h).1
theorem Wd.ne (w:Wd PT st0 st p L x d r l os) {a:Nat} {t:TypeId} {cs:List AV} (h:(a,t,cs)∈l):a≠p:=by
 have:=(w.v _ h).2
 have:=w.p0
 simp only at *
 omega
theorem Wd.Sb (w:Wd PT st0 st p L x d r l os) {a:Nat} {t:TypeId} {cs:List AV} (h:(a,t,cs)∈l):st.ro≤a:=by
 have h1:=(w.v _ h).2
 have h2:=w.ro0
 rw [w.k.ro]
 exact Nat.le_trans h2 h1
theorem DR {v:AV} {es:List AV} {j:Nat} {z:Nat} {t:TypeId} (h:iN st z t v es) (hj:dW v j):j < st.h∧ ∃n e,st.get j= .ok (.tok n e):=by
 obtain ⟨z',es',rfl⟩:=hj
 rcases h.2.2 with ⟨h | h,_⟩ | h | ⟨k,h,hg,_⟩
 ·cases h
 ·cases h
 ·cases h
 ·cases h
  exact ⟨(St.bM.1 hg).1,_,_,hg⟩
theorem Wd.keeps (w:Wd PT st0 st p L x d r l os) {but:Nat→Prop} (k:ba st st' but) (hb: ∀j,but j→j=p∨st.h≤j) (pz:Pz PT st' p L x d' r'):Wd PT st0 st' p L x d' r' l os where
 pz:=pz
 k:=ba.join w.k k fun j hj=>by
  rcases hb j hj with h | h
  ·exact .inl h
  ·exact .inr (Nat.le_trans w.h h)
 v:=fun q hq=>⟨k.old _ _ (fun f=>by
  have h1:=(St.bM.1 (w.v q hq).1).1
  have h2:=(w.v q hq).2
  have h3:=w.p0
  rcases hb _ f with h | h <;> omega) (w.v q hq).1,(w.v q hq).2⟩
 nd:=w.nd
 o:=fun q hq=>⟨pF (w.o q hq).1 k fun j hj f=>by
  obtain ⟨h1,n,e,hg⟩:=DR (w.o q hq).1 hj
  have h2:=(w.o q hq).2 j hj
  have h3:=w.p0
  rcases hb _ f with h | h <;> omega,(w.o q hq).2⟩
 od:=w.od
 p0:=w.p0
 ro0:=w.ro0
theorem Wd.quiet (w:Wd PT st0 st p L x d r l os) (k:ba st st' (fun _=>False)):Wd PT st0 st' p L x d r l os:=
 w.keeps k (fun _ f=>f.elim) (w.pz.keeps k (fun f=>f))
theorem Wd.move (w:Wd PT st0 st p L x d r l os) (k:ba st st' (· =p)) (pz:Pz PT st' p L x d' r'):Wd PT st0 st' p L x d' r' l os:=
 w.keeps k (fun _ e=> .inl e) pz
theorem Wd.alloc (w:Wd PT st0 st p L x d r l os) (t:TypeId) (cs:List AV):Wd PT st0 (st.add (.cells t cs)) p L x d r ((st.h,t,cs)::l) os:=by
 have w':=w.quiet (ba.add st (.cells t cs) _)
 refine ⟨w'.pz,w'.k,fun q hq=> ?_, ?_,w'.o,w'.od,w.p0,w.ro0⟩
 ·rcases List.mem_cons.1 hq with rfl | hq
  ·exact ⟨St.dR,w.h⟩
  ·exact w'.v q hq
 ·rw [List.map_cons,List.nodup_cons]
  refine ⟨fun hm=> ?_,w.nd⟩
  obtain ⟨q,hq,e⟩:=List.mem_map.1 hm
  have h1:=(St.bM.1 (w.v q hq).1).1
  simp only at e
  omega
theorem Wd.putAt {a:Nat} {t t':TypeId} {old:List AV} (w:Wd PT st0 st p L x d r (l1++(a,t,old)::l2) os) (cs:List AV):Wd PT st0 (st.put a (.cells t' cs)) p L x d r (l1++(a,t',cs)::l2) os:=by
 have hm:(a,t,old)∈l1++(a,t,old)::l2:=List.mem_append_right _ List.mem_cons_self
 have hg:=w.get hm
 have hap:=w.ne hm
 have k:ba st (st.put a (.cells t' cs)) (· =a):=ba.put rfl
 have hnd:=w.nd
 rw [List.map_append,List.map_cons] at hnd
 refine ⟨w.pz.keeps k (fun e=>hap e.symm),ba.join w.k k fun j hj=> .inr (by have:=(w.v _ hm).2;simp only at this;omega),fun q hq=> ?_,by rw [List.map_append,List.map_cons];exact hnd,fun q hq=>⟨(w.o q hq).1.put hg,(w.o q hq).2⟩,w.od,w.p0,w.ro0⟩
 have other: ∀q∈l1++(a,t,old)::l2,q.1≠a→(st.put a (.cells t' cs)).get q.1= .ok (.cells q.2.1 q.2.2)∧st0.h≤q.1:=fun q hq hne=>
  ⟨k.old _ _ hne (w.v q hq).1,(w.v q hq).2⟩
 rcases List.mem_append.1 hq with hq | hq
 ·refine other q (List.mem_append_left _ hq) fun e=> ?_
  have:=(List.nodup_append.1 hnd).2.2 q.1 (List.mem_map_of_mem hq) a List.mem_cons_self
  exact this e
 ·rcases List.mem_cons.1 hq with rfl | hq
  ·exact ⟨St.aR (St.bM.1 hg).1,(w.v _ hm).2⟩
  ·refine other q (List.mem_append_right _ (List.mem_cons_of_mem _ hq)) fun e=> ?_
   have h1:=(List.nodup_cons.1 (List.nodup_append.1 hnd).2.1).1
   have h2:q.1∈l2.map (·.1):=List.mem_map_of_mem hq
   rw [e] at h2
   exact h1 h2
theorem Wd.store {a:Nat} {t:TypeId} {old:List AV} (l1:List Vr) (w:Wd PT st0 st p L x d r (l1++(a,t,old)::l2) os) {z:Nat} (hz:old.length=z) (v:AV) (cs:List AV) (hc:cs.length=z):
  ∃st' fx,Wd PT st0 st' p L x d r (l1++(a,t,cs)::l2) os∧ ∀{β:Type} (K:Kv β),ao (aG vE) z (.mp a 0) v cs st K=K VM.undef st' fx:=by
 have hm:(a,t,old)∈l1++(a,t,old)::l2:=List.mem_append_right _ List.mem_cons_self
 exact ⟨st.put a (.cells t cs),⟨[a],.wrote a (.cells t cs)⟩,w.putAt cs,fun K=>by rw [dw (w.get hm) hc (by omega) (w.Sb hm),jv (by omega)]⟩
theorem Wd.mC {a:Nat} {t:TypeId} {old:List AV} (l1:List Vr) (w:Wd PT st0 st p L x d r (l1++(a,t,old)::l2) os) (off:Nat) (v:AV) (hl:off+1≤old.length):
  ∃st' fx,Wd PT st0 st' p L x d r (l1++(a,t,cF old off [v])::l2) os∧ ∀{β:Type} (K:Kv β),ao (aG vE) 1 (.mp a off) v [v] st K=K VM.undef st' fx:=by
 have hm:(a,t,old)∈l1++(a,t,old)::l2:=List.mem_append_right _ List.mem_cons_self
 exact ⟨st.put a (.cells t (cF old off [v])),⟨[a],.wrote a (.cells t (cF old off [v]))⟩,w.putAt _,fun K=>dw (cs:=[v]) (z:=1) (w.get hm) rfl hl (w.Sb hm) K⟩
theorem Wd.sub {l':List Vr} (w:Wd PT st0 st p L x d r l os) (h:List.Sublist l' l):Wd PT st0 st p L x d r l' os:=
 ⟨w.pz,w.k,fun q hq=>w.v q (h.subset hq),(h.map _).nodup w.nd,w.o,w.od,w.p0,w.ro0⟩
theorem Wd.drop {o:AV×List AV} (w:Wd PT st0 st p L x d r l (o::os)):Wd PT st0 st p L x d r l os:=
 ⟨w.pz,w.k,w.v,w.nd,fun q hq=>w.o q (List.mem_cons_of_mem _ hq),(List.pairwise_cons.1 w.od).2,w.p0,w.ro0⟩
theorem Wd.loose {v:AV} {es:List AV} (w:Wd PT st0 st p L x d r l os) (h:iN st 4 ND v es) (hn: ∀j,¬ dW v j):Wd PT st0 st p L x d r l ((v,es)::os):=
 ⟨w.pz,w.k,w.v,w.nd,fun q hq=>by
  rcases List.mem_cons.1 hq with rfl | hq
  ·exact ⟨h,fun j hj=>absurd hj (hn j)⟩
  ·exact w.o q hq,List.pairwise_cons.2 ⟨fun _ _ j hj=>absurd hj (hn j),w.od⟩,w.p0,w.ro0⟩
theorem Wd.aq (w:Wd PT st0 st p L x d r l os):Wd PT st0 st p L x d r l ((.aq,[])::os):=w.loose (iN.aq w.ro 4 ND) fun _ h=>by obtain ⟨_,_,e⟩:=h;cases e
theorem Wd.shut (w:Wd PT st0 st p L x d r l os) {es:List AV} (h:es.length≤1000):Wd PT st0 st p L x d r l ((.sl 4 es .shut,es)::os):=w.loose (iN.shut w.ro ND (by omega)) fun _ h=>by obtain ⟨_,_,e⟩:=h;cases e
theorem Wd.app {v:AV} {es:List AV} (w:Wd PT st0 st p L x d r l ((v,es)::os)) (new:List AV) (hn:new≠[]) (hl:es.length+new.length≤1000000000):
  ∃v' st' fx,Wd PT st0 st' p L x d r l ((v',es++new)::os)∧ ∀{β:Type} (K:Kv β),gf 4 56 ND v new st K=K v' st' fx:=by
 have ho:=w.o (v,es) List.mem_cons_self
 obtain ⟨v',s2,fx,e,o2,k2,f2⟩:=vj (b:=56) (new:=new) ho.1 hn (vD (by simpa using hl) (by omega) (by omega))
 have hp:¬ dW v p:=by
  obtain ⟨i,h,_⟩:=w.pz
  exact ho.1.not h.get
 refine ⟨v',s2,fx,⟨w.pz.keeps k2 hp,ba.join w.k k2 fun j hj=> .inr (ho.2 j hj),fun q hq=>⟨k2.old _ _ (ho.1.not (w.v q hq).1) (w.v q hq).1,(w.v q hq).2⟩,w.nd,fun q hq=> ?_, ?_,w.p0,w.ro0⟩,fun K=>qa e K⟩
 ·rcases List.mem_cons.1 hq with rfl | hq
  ·refine ⟨o2,fun j hj=> ?_⟩
   rcases f2 j hj with h | h
   ·exact ho.2 j h
   ·exact Nat.le_trans w.h h
  ·have hq':=w.o q (List.mem_cons_of_mem _ hq)
   exact ⟨pF hq'.1 k2 fun j hj f=>(List.pairwise_cons.1 w.od).1 q hq j f hj,hq'.2⟩
 ·refine List.pairwise_cons.2 ⟨fun q hq j hj hj'=> ?_,(List.pairwise_cons.1 w.od).2⟩
  rcases f2 j hj with h | h
  ·exact (List.pairwise_cons.1 w.od).1 q hq j h hj'
  ·have:=(DR (w.o q (List.mem_cons_of_mem _ hq)).1 hj').1
   omega
theorem Wd.Px {v:AV} {es:List AV} (w:Wd PT st0 st p L x d r l ((v,es)::os)):Bi v es:=Bi.own (w.o (v,es) List.mem_cons_self).1
end
section
variable {β:Type} {Q:β→Prop}
def NQ (PT:TypeId) (st:St) (p:Nat) (L:List aQ) (x:AV) (d:Nat) (t:T) (r':List aQ):AV×St→Prop:=fun b=>VN t b.1∧gq t≤1000000000000000∧Pz PT b.2 p L x d r'∧ba st b.2 (· =p)
abbrev NW (PT:TypeId) (F:FuncId) (args:List AV) (st:St) (p:Nat) (L:List aQ) (x:AV) (d:Nat) (t:T) (r':List aQ):Prop:=ad ((aG vE).wide F args st) (NQ PT st p L x d t r')
variable {PT:TypeId} {st0 st:St} {p:Nat} {L:List aQ} {x:AV} {d:Nat} {r r':List aQ} {l l1 l2:List Vr} {os:List (AV×List AV)} {t:T}
theorem _root_.Go.VM.ad.node {F:FuncId} {args:List AV} (w:Wd PT st0 st p L x d r l os) (hc:NW PT F args st p L x d t r') (h1:vE.isLook F=false) (h2:(bz (args.map strip)&& !vE.full F)=false) {K:Int→Int→List UInt8→AV→St→Fx→Option β}
  (g: ∀(k tk:Nat) (tx:List UInt8) (y:AV) (s:St),Nd t k tk tx y→gq t≤1000000000000000→Wd PT st0 s p L x d r' l os→ad (K (k:Int) (tk:Int) tx y s ⟨[],.all st s⟩) Q):
  ad (ak (aG vE) F args st fun v s fx=>BC v fun a b c y=>K a b c y s fx) Q:=
 ad.iD hc h1 h2 fun v s h=>by
  obtain ⟨hv,hd,hp,hk⟩:=h
  obtain ⟨k,tk,tx,y,rfl,hn⟩:=hv.cells
  exact ad.step (qm ..) (g k tk tx y s hn hd (w.move hk hp))
theorem _root_.Go.VM.ad.alloc (w:Wd PT st0 st p L x d r l os) {ty:TypeId} {cs:List AV} {K:St→Option β} (g: ∀s,s.h=st.h+1→Wd PT st0 s p L x d r ((st.h,ty,cs)::l) os→ad (K s) Q):ad (bP (st.add (.cells ty cs)) K) Q:=
 g _ rfl (w.alloc ty cs)
theorem _root_.Go.VM.ad.store (l1:List Vr) {a:Nat} {ty:TypeId} {old:List AV} (w:Wd PT st0 st p L x d r (l1++(a,ty,old)::l2) os) {z:Nat} {v:AV} {cs:List AV} {K:Kv β}
  (g: ∀s fx,Wd PT st0 s p L x d r (l1++(a,ty,cs)::l2) os→ad (K VM.undef s fx) Q) (hz:old.length=z:=by rfl) (hc:cs.length=z:=by rfl):ad (ao (aG vE) z (.mp a 0) v cs st K) Q:=by
 obtain ⟨s,fx,w',e⟩:=w.store l1 hz v cs hc
 exact ad.step (e K) (g s fx w')
theorem _root_.Go.VM.ad.mC (l1:List Vr) {a:Nat} {ty:TypeId} {old:List AV} (w:Wd PT st0 st p L x d r (l1++(a,ty,old)::l2) os) {off:Nat} {v:AV} (hl:off+1≤old.length) {K:Kv β}
  (g: ∀s fx,Wd PT st0 s p L x d r (l1++(a,ty,cF old off [v])::l2) os→ad (K VM.undef s fx) Q):ad (ao (aG vE) 1 (.mp a off) v [v] st K) Q:=by
 obtain ⟨s,fx,w',e⟩:=w.mC l1 off v hl
 exact ad.step (e K) (g s fx w')
theorem _root_.Go.VM.ad.mV {a:Nat} {ty:TypeId} {cs:List AV} (hm:(a,ty,cs)∈l) (w:Wd PT st0 st p L x d r l os) {o:Nat} {v:AV} {post:List AV} (hv:cs.drop o=v::post) {K:AV→List Nat→Option β} (g:ad (K v [a]) Q):ad (aA 1 false (.mp a o) st K) Q:=by
 refine ad.step (bF (w.get hm) _ _ _ _) ?_
 rw [hv]
 exact g
theorem _root_.Go.VM.ad.lG {a:Nat} {ty:TypeId} {k tk:Int} {tx:List UInt8} {y:AV} (hm:(a,ty,[.int .u8 k,.int .u8 tk,.str tx,y])∈l) (w:Wd PT st0 st p L x d r l os) {K:Int→Int→List UInt8→AV→List Nat→Option β} (g:ad (K k tk tx y [a]) Q):ad (aA 4 true (.mp a 0) st fun v rd=>BC v fun a b c y=>K a b c y rd) Q:=by
 refine ad.step (bF (w.get hm) _ _ _ _) ?_
 exact ad.step (qm ..) g
theorem _root_.Go.VM.ad.PC {a:Nat} {ty:TypeId} {u v:AV} (hm:(a,ty,[u,v])∈l) (w:Wd PT st0 st p L x d r l os) {K:AV→List Nat→Option β} (g:ad (K (.agg [u,v]) [a]) Q):ad (aA 2 true (.mp a 0) st K) Q:=
 ad.step (bF (w.get hm) _ _ _ _) g
theorem _root_.Go.VM.ad.res (l1:List Vr) {a:Nat} {old:List AV} (w:Wd PT st0 st p L x d r (l1++(a,ND,old)::l2) os) (ho:old.length=4) {k tk:Nat} {tx:List UInt8} {y:AV} (hn:Nd t k tk tx y) (hd:gq t≤1000000000000000):
  ad (af y (ao (aG vE) 4 (.mp a 0) (.agg [.int .u8 (k:Int),.int .u8 (tk:Int),.str tx,y]) [.int .u8 (k:Int),.int .u8 (tk:Int),.str tx,y] st fun _ s _=>aA 4 true (.mp a 0) s fun v _=>BC v fun n1 n2 s1 y=>some (.agg [.int .u8 n1,.int .u8 n2,.str s1,y],s))) (NQ PT st0 p L x d t r):=by
 refine ad.step (hn.af _) (ad.store l1 w (fun s fx w'=> ?_) ho)
 exact ad.lG (List.mem_append_right _ List.mem_cons_self) w' (ad.some ⟨hn.vn,hd,w'.pz,w'.k⟩)
theorem _root_.Go.VM.ad.Ig (l1:List Vr) {a:Nat} {old:List AV} (w:Wd PT st0 st p L x d r (l1++(a,ND,old)::l2) os) (ho:old.length=4) {k tk:Nat} {tx:List UInt8} {y:AV} (hn:Nd t k tk tx y) (hd:gq t≤1000000000000000):
  ad (ao (aG vE) 4 (.mp a 0) (.agg [.int .u8 (k:Int),.int .u8 (tk:Int),.str tx,y]) [.int .u8 (k:Int),.int .u8 (tk:Int),.str tx,y] st fun _ s _=>aA 4 true (.mp a 0) s fun v _=>BC v fun n1 n2 s1 y=>some (.agg [.int .u8 n1,.int .u8 n2,.str s1,y],s)) (NQ PT st0 p L x d t r):=by
 have h:=ad.res l1 w ho hn hd
 rw [hn.af] at h
 exact h
theorem _root_.Go.VM.ad.fit {k tk:Nat} {tx:List UInt8} {y:AV} (hn:Nd t k tk tx y) {K:AV→Option β} (g: ∀y',kO t (.agg [.int .u8 (k:Int),.int .u8 (tk:Int),.str tx,y'])→VM.one y'=true→(∀{γ:Type} (K:AV→Option γ),aV y' K=K y')→ad (K y') Q):ad (af y (aV y K)) Q:=by
 obtain ⟨l,es,rfl,hk,hns⟩:=hn.ex
 obtain ⟨y',hx,hf⟩:=hk.fit
 refine ad.step (hk.af _) (ad.step (hf K) (g y' ?_ hx.one fun K=>hx.aV K))
 simp only [kO]
 exact ⟨y',es,rfl,hx,hns⟩
theorem _root_.Go.VM.ad.two {k tk:Nat} {tx:List UInt8} {y:AV} (hn:Nd t k tk tx y) {e:Option β} (g:ad e Q):ad (af y e) Q:=ad.step (hn.af e) g
theorem _root_.Go.VM.ad.app {v:AV} {es new:List AV} (w:Wd PT st0 st p L x d r l ((v,es)::os)) (hn:new≠[]) (hl:es.length+new.length≤1000000000) {K:Kv β} (g: ∀v' s fx,VM.one v'=true→Wd PT st0 s p L x d r l ((v',es++new)::os)→ad (K v' s fx) Q):ad (gf 4 56 ND v new st K) Q:=by
 obtain ⟨v',s,fx,w',e⟩:=w.app new hn hl
 exact ad.step (e K) (g v' s fx w'.Px.one w')
theorem Wd.same {a:Nat} {s:St} {k tk:Int} {tx:List UInt8} {v:AV} {es:List AV} {ts:List T} (w:Wd PT st0 st p L x d r l os) (w':Wd PT st0 s p L x d r' l os) (hm:(a,ND,[.int .u8 k,.int .u8 tk,.str tx,v])∈l) (hk:Bi v es) (hn:bO ts es) (hd:fc ts≤1000000000000000):apart ⟨[a],.kept⟩ ⟨[],.all st s⟩=true:=by
 have hv:Rf (2 * fc ts+1) v:=by
  have he:=bO.rf hn
  rcases hk with hx | ⟨_,k,rfl⟩
  ·rcases hx.2 with ⟨rfl | rfl,rfl⟩ | rfl | rfl
   ·exact Ah.mono (by omega)
   ·exact Jx.mono (by omega)
   ·exact uN he
   ·exact uN he
  ·exact uN he
 refine GS (Gw (w.get hm) (w'.get hm) (d:=2 * fc ts+1) (fun c hc=> ?_) (by omega))
 simp only [List.mem_cons,List.mem_nil_iff,or_false] at hc
 rcases hc with rfl | rfl | rfl | rfl
 ·exact (tv _ _).mono (by omega)
 ·exact (tv _ _).mono (by omega)
 ·exact (EF _).mono (by omega)
 ·exact hv
theorem Wd.se {a:Nat} {s:St} {k tk:Nat} {tx:List UInt8} {v:AV} (w:Wd PT st0 st p L x d r l os) (w':Wd PT st0 s p L x d r' l os) (hm:(a,ND,[.int .u8 (k:Int),.int .u8 (tk:Int),.str tx,v])∈l) (hn:Nd t k tk tx v) (hd:gq t≤1000000000000000):apart ⟨[a],.kept⟩ ⟨[],.all st s⟩=true:=by
 obtain ⟨ts,es,rfl,hk,hns⟩:=hn.ex
 simp only [gq] at hd
 exact w.same w' hm hk hns (by omega)
theorem _root_.Go.VM.ad.grow (l1:List Vr) {F:FuncId} {args:List AV} {a:Nat} {k tk:Int} {tx:List UInt8} {v:AV} {es:List AV} {ts:List T}
  (w:Wd PT st0 st p L x d r (l1++(a,ND,[.int .u8 k,.int .u8 tk,.str tx,v])::l2) ((v,es)::os)) (hc:NW PT F args st p L x d t r') (h1:vE.isLook F=false) (h2:(bz (args.map strip)&& !vE.full F)=false)
  (hns:bO ts es) (hdep:fc ts≤1000000000000000) (hl:ts.length≤100000000) {K:St→Option β}
  (g: ∀v' e s,bO (ts++[t]) (es++[e])→fc (ts++[t])≤1000000000000000→Wd PT st0 s p L x d r' (l1++(a,ND,[.int .u8 k,.int .u8 tk,.str tx,v'])::l2) ((v',es++[e])::os)→ad (K s) Q):
  ad (aA 1 false (.mp a 3) st fun v rd=>ak (aG vE) F args st fun u s x=>BC u fun n1 n2 tx y=>cQ (apart ⟨rd,.kept⟩ x&&(apart ⟨[],.kept⟩ x&&true)) (af y (af y (aV y fun y=>af y (aV y fun y=>gf 4 56 ND v [.agg [.int .u8 n1,.int .u8 n2,.str tx,y]] s fun v s _=>af v (af v (ao (aG vE) 1 (.mp a 3) v [v] s fun _ s _=>K s))))))) Q:=by
 have hm:(a,ND,[AV.int .u8 k,.int .u8 tk,.str tx,v])∈l1++(a,ND,[AV.int .u8 k,.int .u8 tk,.str tx,v])::l2:=List.mem_append_right _ List.mem_cons_self
 refine ad.mV hm w rfl (ad.node w hc h1 h2 fun k' tk' tx' y s hn hd w'=> ?_)
 have hap:=w.same w' hm w.Px hns hdep
 refine ad.step (kE (by rw [hap];rfl) _) (ad.two hn (ad.fit hn fun y' hN h1 hf=>ad.one h1 (ad.step (hf _) (ad.app w' (by simp) (by rw [bO.len hns];simp;omega) fun v' s' fx ho w2=> ?_))))
 refine ad.one ho (ad.one ho (ad.mC l1 w2 (Nat.le_of_ble_eq_true rfl) fun s3 fx3 w3=> ?_))
 exact g v' _ s3 (bO.app hns (bO.cons hN bO.nil)) (by rw [dc,bq];omega) w3
end
abbrev PP:TypeId:=65
section
variable {β:Type} {Q:β→Prop} {st0 st:St} {p:Nat} {L:List aQ} {x:AV} {d d':Nat} {r r':List aQ} {l l1 l2:List Vr} {os:List (AV×List AV)} {t:T}
theorem _root_.Go.VM.ad.is (ss:List (List UInt8)) (hs:ss.length≤1000) (w:Wd PP st0 st p L x d r l os) {K:Bool→St→Fx→Option β} (g: ∀s,Wd PP st0 s p L x d r l os→ad (K (isAny ss r) s ⟨[],.all st s⟩) Q):
  ad (ak (aG vE) 38 [.mp p 0,.sl 1 (ss.map AV.str) .shut] st fun v s fx=>du v fun b=>K b s fx) Q:=by
 obtain ⟨i,h,rfl⟩:=w.pz
 obtain ⟨s,k,e⟩:=AX h (tA ss hs)
 exact ad.step (e _) (g s (w.quiet k))
theorem _root_.Go.VM.ad.G7 {s0:List UInt8} (w:Wd PP st0 st p L x d r l os) {K:Bool→St→Fx→Option β} (g: ∀s,Wd PP st0 s p L x d r l os→ad (K (bN s0 r) s ⟨[],.all st s⟩) Q):
  ad (ak (aG vE) 38 [.mp p 0,.sl 1 [.str s0] .shut] st fun v s fx=>du v fun b=>K b s fx) Q:=
 ad.is [s0] (by simp) w fun s w'=>by rw [zQ];exact g s w'
theorem _root_.Go.VM.ad.bw (pat:Bool) (w:Wd PP st0 st p L x d r l os) {K:Bool→St→Fx→Option β} (g: ∀s,Wd PP st0 s p L x d r l os→ad (K (bw pat r) s ⟨[],.all st s⟩) Q):
  ad (ak (aG vE) 55 [.mp p 0,.int .u8 (rn pat:Int),.str (qZ pat)] st fun v s fx=>du v fun b=>K b s fx) Q:=by
 obtain ⟨i,h,rfl⟩:=w.pz
 obtain ⟨s,k,e⟩:=BD h pat
 exact ad.step (e _) (g s (w.quiet k))
theorem _root_.Go.VM.ad.next (w:Wd PP st0 st p L x d r l os) {K:St→St→Option β} (g: ∀s s',Wd PP st0 s' p L x d r ((s.h,41,[.int .u8 ((nx r).1:Int),.str (nx r).2])::l) os→ad (K s s') Q):
  ad (ak (aG vE) 37 [.mp p 0] st fun v s _=>iy v fun vs=>da vs 0 fun u=>ui u fun cs=>bK cs fun a cs=>bV .u8 a fun n=>bK cs fun b cs=>fY b fun tx=>cT cs (iy v fun vs=>da vs 1 fun u=>bV .i64 u fun _=>bP (St.add s (.cells 41 [.int .u8 0,.str []])) fun s1=>ao (aG vE) 2 (.mp (St.h s) 0) (.agg [.int .u8 n,.str tx]) [.int .u8 n,.str tx] s1 fun _ s' _=>K s s')) Q:=by
 obtain ⟨i,h,rfl⟩:=w.pz
 obtain ⟨s,k,e⟩:=nv h
 refine ad.step (e _) ?_
 simp only [dj,bS,cA,aL,ag,aj,az,ah]
 refine ad.alloc (w.quiet k) fun s1 _ w1=> ?_
 exact ad.store [] w1 fun s2 fx w2=>g s s2 w2
theorem iz (h:Pz PP st p L x d r):NW PP 39 [.mp p 0] st p L x d (aN r) (aJ r):=by
 obtain ⟨i,h,rfl⟩:=h
 obtain ⟨v,s,e,hv,hp,hk⟩:=Fj h
 exact ⟨(v,s),e,hv,Nat.le_trans (dp _) (by omega),⟨_,hp,(wD L i).symm⟩,hk⟩
theorem oa (h:Pz PP st p L x d r) (s:List UInt8):NW PP 57 [.mp p 0,.str s] st p L x d (bX s r) (aT s r):=by
 obtain ⟨i,h,rfl⟩:=h
 obtain ⟨v,s',i',e,hv,hp,hr,hk⟩:=K2 h s
 exact ⟨(v,s'),e,hv,Nat.le_trans (fP _ _) (by omega),⟨_,hp,hr⟩,hk⟩
theorem _root_.Go.VM.ad.take (w:Wd PP st0 st p L x d r l os) {K:Int→Int→List UInt8→AV→St→Fx→Option β}
  (g: ∀(k tk:Nat) (tx:List UInt8) (y:AV) (s:St),Nd (aN r) k tk tx y→gq (aN r)≤1000000000000000→Wd PP st0 s p L x d (aJ r) l os→ad (K (k:Int) (tk:Int) tx y s ⟨[],.all st s⟩) Q):
  ad (ak (aG vE) 39 [.mp p 0] st fun v s fx=>BC v fun a b c y=>K a b c y s fx) Q:=ad.node w (iz w.pz) rfl rfl g
theorem _root_.Go.VM.ad.mJ (w:Wd PP st0 st p L x d r l os) {s0:List UInt8} {K:Int→Int→List UInt8→AV→St→Fx→Option β}
  (g: ∀(k tk:Nat) (tx:List UInt8) (y:AV) (s:St),Nd (bX s0 r) k tk tx y→gq (bX s0 r)≤1000000000000000→Wd PP st0 s p L x d (aT s0 r) l os→ad (K (k:Int) (tk:Int) tx y s ⟨[],.all st s⟩) Q):
  ad (ak (aG vE) 57 [.mp p 0,.str s0] st fun v s fx=>BC v fun a b c y=>K a b c y s fx) Q:=ad.node w (oa w.pz s0) rfl rfl g
theorem _root_.Go.VM.ad.O2 {i o n:Nat} {K:AV→Option β} (g:ad (K (.mp i (o+n))) Q):ad (cQ (notNil (.mp i o)) (ct n (.mp i o) K)) Q:=g
theorem _root_.Go.VM.ad.EN {PT:TypeId} (w:Wd PT st0 st p L x d r l os) {K:AV→List Nat→Option β} (g:ad (K (.int .i64 (d:Int)) [p]) Q):ad (aA 1 false (.mp p 2) st K) Q:=by
 obtain ⟨i,h,rfl⟩:=w.pz
 exact ad.step (bF h.get _ _ _ _) g
theorem _root_.Go.VM.ad.deep {PT:TypeId} (d':Nat) (w:Wd PT st0 st p L x d r l os) {K:Kv β} (g: ∀s fx,Wd PT st0 s p L x d' r l os→ad (K VM.undef s fx) Q):ad (ao (aG vE) 1 (.mp p 2) (.int .i64 (d':Int)) [.int .i64 (d':Int)] st K) Q:=by
 obtain ⟨i,h,rfl⟩:=w.pz
 refine ad.step (dw (cs:=[.int .i64 (d':Int)]) (z:=1) (off:=2) h.get rfl (Nat.le_of_ble_eq_true rfl) h.ro K) (g _ _ ?_)
 have k:ba st (st.put p (.cells PT (cF [x,.int .i64 (i:Int),.int .i64 (d:Int)] 2 [.int .i64 (d':Int)]))) (· =p):=ba.put rfl
 exact w.move k ⟨i,⟨St.aR (St.bM.1 h.get).1,h.sl,h.le,h.len,by rw [k.ro];exact h.ro⟩,rfl⟩
theorem pS {k:Nat} {es:List AV} {ts:List T} (h:bO ts es) (hl:es.length≤1000):Nd (node k ts) k 0 [] (.sl 4 es .shut):=⟨⟨ts,es,rfl,.inl (bl.shut (by omega)),h⟩⟩
theorem uZ {t:T} {e:AV} (h:kO t e):bO [t] [e]:=bO.cons h bO.nil
theorem CC {t u:T} {e f:AV} (h:kO t e) (h':kO u f):bO [t,u] [e,f]:=bO.cons h (uZ h')
theorem HC {t u v:T} {e f g:AV} (h:kO t e) (h':kO u f) (h'':kO v g):bO [t,u,v] [e,f,g]:=bO.cons h (CC h' h'')
theorem pG (f:AV) (s0:List UInt8) (h:Pz PP st p L x 64 r):NW PP 84 [.mp p 0,.str s0,f] st p L x 64 (ji s0 r) (gV r):=by
 refine ad.wide (ad.step (Iq _ _ _ _) ?_)
 unfold Rs
 refine ad.step (az _ _) (ad.alloc (Wd.begin h) fun s1 _ w=> ?_)
 refine ad.O2 (ad.EN w ?_)
 refine ad.step (aj _ _ _) ?_
 refine ad.next w fun s2 s3 w=> ?_
 refine ad.mV (List.mem_cons_self) w rfl (ad.step (aj _ _ _) ?_)
 unfold ji gV
 by_cases h0:(nx r).1=0
 ·rw [if_pos h0,if_pos h0,show (((nx r).1:Int)==0)=true by rw [h0];rfl]
  refine ad.step (aH _ _) (ad.step (nS _ _ _) ?_)
  refine ad.res [_] (old:=[.int .u8 0,.int .u8 0,.str [],.aq]) w rfl (rC s0) ?_
  rw [jU];omega
 ·rw [if_neg h0,if_neg h0,show (((nx r).1:Int)==0)=false from beq_eq_false_iff_ne.2 (by omega)]
  refine ad.step (aB _ _) (ad.take w fun k tk tx y s hn hd w=> ?_)
  refine ad.two hn (ad.fit hn fun y' hN _ _=> ?_)
  refine ad.Ig [_] (old:=[.int .u8 0,.int .u8 0,.str [],.aq]) w rfl (pS (uZ hN) (by simp)) ?_
  rw [cC,bq]
  have:=dp r
  omega
theorem uj {f:AV} {F:FuncId} {args:List AV} (s0:List UInt8) (h:Pz PP st p L x d r) (hd:d < 64) (h1:vE.isLook F=false) (h2:(bz (args.map strip)&& !vE.full F)=false)
  (hf: ∀{β:Type} (s:St) (K:Kv β),jR (aG vE) (Sx.prim (sx vE 84)) f [] s K=ak (aG vE) F args s K)
  (hc: ∀s,ba st s (· =p)→Pz PP s p L x (d+1) r→NW PP F args s p L x (d+1) t r'):NW PP 84 [.mp p 0,.str s0,f] st p L x d t r':=by
 refine ad.wide (ad.step (Iq _ _ _ _) ?_)
 unfold Rs
 refine ad.step (az _ _) (ad.alloc (Wd.begin h) fun s1 _ w=> ?_)
 refine ad.O2 (ad.EN w ?_)
 refine ad.step (aj _ _ _) ?_
 rw [show ((d:Int)==64)=false from beq_eq_false_iff_ne.2 (by omega)]
 refine ad.step (aB _ _) (ad.O2 (ad.EN w ?_))
 refine ad.step (aj _ _ _) ?_
 rw [aY,cH (by omega)]
 refine ad.O2 (ad.deep (d+1) w fun s2 fx w=> ?_)
 refine ad.step (hf _ _) (ad.node w (hc s2 w.k w.pz) h1 h2 fun k tk tx y s hn hd' w=> ?_)
 refine ad.alloc w fun s3 _ w=>ad.two hn ?_
 refine ad.store [] w fun s4 fx w=> ?_
 refine ad.O2 (ad.EN w ?_)
 refine ad.step (aj _ _ _) ?_
 rw [aY,show ((d+1:Nat):Int) - 1=((d+1:Nat):Int) - ((1:Nat):Int) from rfl,CY (by omega) (by omega),Nat.add_sub_cancel]
 refine ad.O2 (ad.deep d w fun s5 fx w=> ?_)
 refine ad.lG (List.mem_cons_self) w ?_
 exact ad.res [_] (old:=[.int .u8 0,.int .u8 0,.str [],.aq]) w rfl hn hd'
end
def qI (F:FuncId) (more:Nat→List AV) (job:gX) (n:Nat):Prop:= ∀(st:St) (p:Nat) (L:List aQ) (x:AV) (d:Nat) (r:List aQ) (t:T) (r':List aQ),Pz PP st p L x d r→d≤64→P n job d r=some ([t],r')→NW PP F (.mp p 0::more p) st p L x d t r'
def Jz (pat:Bool):FuncId:=match pat with | true=>81 | false=>58
def xk (pat:Bool) (p:Nat):AV:= .fn (.func (Jz pat)) [.mp p 0] []
def BQ (PT:TypeId) (st:St) (p:Nat) (L:List aQ) (x:AV) (d:Nat) (ts:List T) (r':List aQ):AV×St→Prop:=fun b=> ∃es,iN b.2 4 ND b.1 es∧(∀j,dW b.1 j→st.h≤j)∧bO ts es∧fc ts≤1000000000000000∧Pz PT b.2 p L x d r'∧ba st b.2 (· =p)
def I3 (n:Nat):Prop:= ∀(st:St) (p:Nat) (L:List aQ) (x:AV) (d:Nat) (r:List aQ) (ts:List T) (r':List aQ),Pz PP st p L x d r→d≤64→P n .binding d r=some (ts,r')→ad ((aG vE).wide 40 [.mp p 0] st) (BQ PP st p L x d ts r')
structure IH (n:Nat):Prop where
 expr:qI 58 (fun _=>[]) .expr n
 whole:qI 85 (fun _=>[]) .whole n
 level: ∀k:Nat,k≤7→qI 104 (fun _=>[.int .i64 (k:Int)]) (.level k) n
 neg:qI 114 (fun _=>[]) .neg n
 atom: ∀pat,qI 56 (fun _=>[.bool pat]) (.atom pat) n
 closed: ∀list pat,qI 83 (fun p=>[.int .u8 (kindOf list pat:Int),.str (tu list),.str (gG list),xk pat p]) (.closed list pat) n
 pattern:qI 81 (fun _=>[]) .pattern n
 arm:qI 103 (fun _=>[]) .arm n
 binding:I3 n
theorem ED {n:Nat} (hn:n≤10000000) {job:gX} {d:Nat} {r:List aQ} {l:List T} {r':List aQ} (h:P n job d r=some (l,r')) (ha:dA job=[]):fc l≤100000020000000:=by
 have:=Mg n job d r l r' h
 rw [ha,bh] at this
 have hq:n * n≤10000000 * 10000000:=Nat.mul_le_mul hn hn
 omega
theorem iS {n:Nat} (hn:n≤10000000) {job:gX} {d:Nat} {r:List aQ} {t:T} {r':List aQ} (h:P n job d r=some ([t],r')) (ha:dA job=[]):gq t≤100000020000000:=by
 have:=ED hn h ha
 rwa [bq] at this
section
variable {β:Type} {Q:β→Prop} {st0 st:St} {p:Nat} {L:List aQ} {x:AV} {d d':Nat} {r r':List aQ} {l l1 l2:List Vr} {os:List (AV×List AV)} {t:T}
abbrev z4:List AV:=[.int .u8 0,.int .u8 0,.str [],.aq]
theorem G6 {n:Nat} (ih:IH n):qI 58 (fun _=>[]) .expr (n+1):=by
 intro st p L x d r t r' hp hd h
 simp only [P] at h
 refine ad.wide (ad.step (Oj _ _) ?_)
 unfold RP
 refine ad.alloc (Wd.begin hp) fun s1 _ w=> ?_
 split at h
 ·rename_i hd
  subst hd
  cases h
  exact ad.node w (pG _ _ w.pz) rfl rfl fun k tk tx y s hn hd w=>ad.res [] (old:=z4) w rfl hn hd
 ·exact ad.node w (uj (F:=85) (args:=[.mp p 0]) _ w.pz (by omega) rfl rfl (fun _ _=>rfl) fun s _ hp=>ih.whole s p L x (d+1) r t r' hp (by omega) h) rfl rfl fun k tk tx y s hn hd w=>ad.res [] (old:=z4) w rfl hn hd
def Nv (PT:TypeId) (st0 s:St) (p:Nat) (L:List aQ) (x:AV) (d:Nat) (r:List aQ) (a b:Nat) (t:T):Prop:= ∃(k tk:Nat) (tx:List UInt8) (y:AV),Wd PT st0 s p L x d r [(a,ND,[.int .u8 (k:Int),.int .u8 (tk:Int),.str tx,y]),(b,ND,z4)] []∧Nd t k tk tx y
theorem Nv.fin {PT:TypeId} {s:St} {a b:Nat} (h:Nv PT st0 s p L x d r a b t) (hd:gq t≤1000000000000000):
  ad (aA 4 true (.mp a 0) s fun v _=>BC v fun n1 n2 tx y=>af y (ao (aG vE) 4 (.mp b 0) (.agg [.int .u8 n1,.int .u8 n2,.str tx,y]) [.int .u8 n1,.int .u8 n2,.str tx,y] s fun _ s _=>aA 4 true (.mp b 0) s fun v _=>BC v fun n1 n2 tx y=>some (.agg [.int .u8 n1,.int .u8 n2,.str tx,y],s))) (NQ PT st0 p L x d t r):=by
 obtain ⟨k,tk,tx,y,w,hn⟩:=h
 exact ad.lG (List.mem_cons_self) w (ad.res [_] (old:=z4) w rfl hn hd)
theorem Pv {a b c:Vr}:List.Sublist [b,c] [a,b,c]:=List.Sublist.cons _ (List.Sublist.refl _)
theorem eY {b c:Bool} (h:b=c) {α:Type} (x y:Option α):bI b x y=bI c x y:=by rw [h]
theorem Ko {n:Nat} (ih:IH n) {a:Nat} (ha:st.get a= .ok (.cells 63 [.mp p 0])) (hap:a≠p) (hp:Pz PP st p L x d r) (hd:d≤64)
  {r1:List aQ} {u:T} (h1:P n (.atom true) d r=some ([u],r1)) (h2:if bN uG r1=true then ∃v,P n .pattern d (aJ r1)=some ([v],r')∧t=node 16 [u,aN r1,v] else t=u∧r'=r1)
  (hn:n≤10000000):NW PP 101 [.mp a 0] st p L x d t r':=by
 have hdu':=iS hn h1 rfl
 refine ad.wide (ad.step (LF _ _) ?_)
 unfold PI
 have rd: ∀{s:St} {β:Type} (K:AV→List Nat→Option β),ba st s (· =p)→aA 1 false (.mp a 0) s K=K (.mp p 0) [a]:=fun K k=>bF (k.yD hap ha) _ _ _ _
 refine ad.alloc (Wd.begin hp) fun s1 _ w=> ?_
 refine ad.step (rd _ w.k) (ad.node w (ih.atom true _ p L x d r u r1 w.pz hd h1) rfl rfl fun k tk tx y s hnd hdu w=> ?_)
 refine ad.alloc w fun s3 _ w=>ad.two hnd ?_
 refine ad.store [] w fun s4 fx w=> ?_
 refine ad.step (rd _ w.k) ?_
 refine ad.G7 w fun s5 w=> ?_
 cases hb:bN uG r1 with
 | true=>
  rw [hb,if_pos rfl] at h2
  obtain ⟨v,h2,rfl⟩:=h2
  have hdv:=iS hn h2 rfl
  have hdk:=dp r1
  refine ad.bind (R:=fun c=> ∃s6,c=([],s6)∧Nv PP st s6 p L x d r' s.h st.h (node 16 [u,aN r1,v])) ?_ ?_
  ·refine ad.step (eY (c:=true) hb _ _) (ad.step (aH _ _) ?_)
   refine ad.step (rd _ w.k) (ad.take w fun k' tk' tx' y' s6 hn' hd' w=> ?_)
   refine ad.alloc w fun s7 _ w=>ad.two hn' ?_
   refine ad.store [] w fun s8 fx w=> ?_
   refine ad.lG (a:=s.h) (List.mem_cons_of_mem _ List.mem_cons_self) w ?_
   refine ad.lG (List.mem_cons_self) w ?_
   refine ad.step (rd _ w.k) (ad.node w (ih.pattern _ p L x d _ v r' w.pz hd h2) rfl rfl fun k2 tk2 tx2 y2 s9 hn2 hd2 w9=> ?_)
   have a1:=w.se w9 (List.mem_cons_self) hn' hd'
   have a2:=w.se w9 (a:=s.h) (List.mem_cons_of_mem _ List.mem_cons_self) hnd hdu
   refine ad.step (kE (by rw [a1,a2];rfl) _) ?_
   refine ad.two hnd (ad.two hn' (ad.two hn2 (ad.fit hnd fun z1 hN1 _ _=>ad.fit hn' fun z2 hN2 _ _=>ad.fit hn2 fun z3 hN3 _ _=> ?_)))
   refine ad.store [_] w9 fun s10 fx w=> ?_
   exact ad.some ⟨s10,rfl,16,0,[],_,w.sub Pv,pS (HC hN1 hN2 hN3) (by simp)⟩
  ·rintro c ⟨s6,rfl,h⟩
   refine ad.step (ah _) (h.fin ?_)
   rw [cC]
   simp only [cb,bh]
   omega
 | false=>
  rw [hb,if_neg (by simp)] at h2
  obtain ⟨rfl,rfl⟩:=h2
  refine ad.bind (R:=fun c=> ∃s6,c=([],s6)∧Nv PP st s6 p L x d r' s.h st.h t) ?_ ?_
  ·exact ad.step (eY (c:=false) hb _ _) (ad.step (aB _ _) (ad.some ⟨s5,rfl,k,tk,tx,y,w,hnd⟩))
  ·rintro c ⟨s6,rfl,h⟩
   exact ad.step (ah _) (h.fin hdu)
theorem AF {n:Nat} (ih:IH n) (hn:n≤10000000):qI 81 (fun _=>[]) .pattern (n+1):=by
 intro st p L x d r t r' hp hd h
 simp only [P] at h
 refine ad.wide (ad.step (OE _ _) ?_)
 unfold SF
 refine ad.one rfl (ad.one rfl ?_)
 refine ad.alloc (Wd.begin hp) fun s1 _ w=> ?_
 refine ad.alloc w fun s2 _ w=> ?_
 refine ad.mV (a:=st.h) (List.mem_cons_of_mem _ List.mem_cons_self) w rfl ?_
 have hne:st.h≠p:=w.ne (List.mem_cons_of_mem _ List.mem_cons_self)
 have hg:=w.get (a:=st.h) (List.mem_cons_of_mem _ List.mem_cons_self)
 split at h
 ·rename_i hd
  subst hd
  cases h
  exact ad.node w (pG _ _ w.pz) rfl rfl fun k tk tx y s hn hd w=>ad.res [] (old:=z4) w rfl hn hd
 ·obtain ⟨⟨a,r1⟩,e1,h⟩:=bind_some h
  obtain ⟨u,rfl⟩:=fK _ _ _ _ _ _ e1 rfl
  refine ad.node w (uj (F:=101) (args:=[.mp st.h 0]) (t:=t) (r':=r') _ w.pz (by omega) rfl rfl (fun _ _=>rfl) fun s k hp=> ?_) rfl rfl fun k tk tx y s hn hd w=>ad.res [] (old:=z4) w rfl hn hd
  refine Ko ih (k.yD hne hg) hne hp (by omega) e1 ?_ hn
  dsimp only at h
  split at h
  ·rename_i hb
   rw [if_pos hb]
   obtain ⟨⟨b,r2⟩,e2,h⟩:=bind_some h
   obtain ⟨v,rfl⟩:=fK _ _ _ _ _ _ e2 rfl
   cases h
   exact ⟨v,e2,rfl⟩
  ·rename_i hb
   rw [if_neg hb]
   cases h
   exact ⟨rfl,rfl⟩
end
section
variable {β:Type} {Q:β→Prop} {st0 st:St} {p:Nat} {L:List aQ} {x:AV} {d d':Nat} {r r':List aQ} {l l1 l2:List Vr} {os:List (AV×List AV)} {t:T}
theorem Iz {n:Nat} (ih:IH n) (hn:n≤10000000):qI 103 (fun _=>[]) .arm (n+1):=by
 intro st p L x d r t r' hp hd h
 simp only [P] at h
 obtain ⟨⟨a,r1⟩,e1,h⟩:=bind_some h
 obtain ⟨u,rfl⟩:=fK _ _ _ _ _ _ e1 rfl
 obtain ⟨⟨b,r2⟩,e2,h⟩:=bind_some h
 obtain ⟨v,rfl⟩:=fK _ _ _ _ _ _ e2 rfl
 cases h
 have hdu:=iS hn e1 rfl
 have hdv:=iS hn e2 rfl
 have hdk:=fP fG r1
 refine ad.wide (ad.step (Lr _ _) ?_)
 unfold PK
 refine ad.alloc (Wd.begin hp) fun s1 _ w=> ?_
 refine ad.node w (ih.pattern _ p L x d _ u r1 w.pz hd e1) rfl rfl fun k tk tx y s hnd hdu' w=> ?_
 refine ad.alloc w fun s3 _ w=>ad.two hnd ?_
 refine ad.store [] w fun s4 fx w=> ?_
 refine ad.mJ w fun k' tk' tx' y' s6 hn' hd' w=> ?_
 refine ad.alloc w fun s7 _ w=>ad.two hn' ?_
 refine ad.store [] w fun s8 fx w=> ?_
 refine ad.lG (a:=s.h) (List.mem_cons_of_mem _ List.mem_cons_self) w ?_
 refine ad.lG (List.mem_cons_self) w ?_
 refine ad.node w (ih.expr _ p L x d _ v r2 w.pz hd e2) rfl rfl fun k2 tk2 tx2 y2 s9 hn2 hd2 w9=> ?_
 have a1:=w.se w9 (List.mem_cons_self) hn' hd'
 have a2:=w.se w9 (a:=s.h) (List.mem_cons_of_mem _ List.mem_cons_self) hnd hdu'
 refine ad.step (kE (by rw [a1,a2];rfl) _) ?_
 refine ad.two hnd (ad.two hn' (ad.two hn2 (ad.fit hnd fun z1 hN1 _ _=>ad.fit hn' fun z2 hN2 _ _=>ad.fit hn2 fun z3 hN3 _ _=> ?_)))
 refine ad.Ig [_,_] (old:=z4) w9 rfl (pS (HC hN1 hN2 hN3) (by simp)) ?_
 simp only [cC,dc,cb,bh]
 omega
theorem tM (pat:Bool) (p:Nat) {β:Type} (s:St) (K:Kv β):jR (aG vE) (Sx.prim (sx vE 83)) (xk pat p) [] s K=ak (aG vE) (Jz pat) [.mp p 0] s K:=by cases pat <;> rfl
theorem Iw {n:Nat} (ih:IH n) (pat:Bool) (hp:Pz PP st p L x d r) (hd:d≤64) (h:P n (if pat then .pattern else .expr) d r=some ([t],r')):NW PP (Jz pat) [.mp p 0] st p L x d t r':=by
 cases pat with
 | true=>exact ih.pattern _ p L x d _ t r' hp hd h
 | false=>exact ih.expr _ p L x d _ t r' hp hd h
theorem B7 (pat:Bool):vE.isLook (Jz pat)=false:=by cases pat <;> rfl
theorem Ca (pat:Bool) (p:Nat):(bz ([AV.mp p 0].map strip)&& !vE.full (Jz pat))=false:=rfl
theorem Fs (pat:Bool):single (if pat then gX.pattern else .expr)=true:=by cases pat <;> rfl
def Gv (PT:TypeId) (st0 s:St) (p:Nat) (L:List aQ) (x:AV) (d:Nat) (r:List aQ) (a b k:Nat) (ts:List T):Prop:= ∃(v:AV) (es:List AV),Wd PT st0 s p L x d r [(a,ND,[.int .u8 (k:Int),.int .u8 0,.str [],v]),(b,ND,z4)] [(v,es)]∧bO ts es∧fc ts≤1000000000000000
theorem Gv.nd {PT:TypeId} {s:St} {a b k:Nat} {ts:List T} (h:Gv PT st0 s p L x d r a b k ts):Nv PT st0 s p L x d r a b (node k ts):=by
 obtain ⟨v,es,w,hs,hd⟩:=h
 exact ⟨k,0,[],v,w.drop,⟨⟨ts,es,rfl,w.Px,hs⟩⟩⟩
theorem Gv.grow {PT:TypeId} {s:St} {a b k:Nat} {ts:List T} (h:Gv PT st0 s p L x d r a b k ts) {F:FuncId} {args:List AV} (hc:NW PT F args s p L x d t r') (h1:vE.isLook F=false) (h2:(bz (args.map strip)&& !vE.full F)=false) (hl:ts.length≤100000000) {K:St→Option β} (g: ∀s,Gv PT st0 s p L x d r' a b k (ts++[t])→ad (K s) Q):
  ad (aA 1 false (.mp a 3) s fun v rd=>ak (aG vE) F args s fun u s x=>BC u fun n1 n2 tx y=>cQ (apart ⟨rd,.kept⟩ x&&(apart ⟨[],.kept⟩ x&&true)) (af y (af y (aV y fun y=>af y (aV y fun y=>gf 4 56 ND v [.agg [.int .u8 n1,.int .u8 n2,.str tx,y]] s fun v s _=>af v (af v (ao (aG vE) 1 (.mp a 3) v [v] s fun _ s _=>K s))))))) Q:=by
 obtain ⟨v,es,w,hs,hd⟩:=h
 exact ad.grow [] w hc h1 h2 hs hd hl fun v' e s hs' hd' w'=>g s ⟨v',_,w',hs',hd'⟩
theorem Gv.pz {PT:TypeId} {s:St} {a b k:Nat} {ts:List T} (h:Gv PT st0 s p L x d r a b k ts):Pz PT s p L x d r:=by
 obtain ⟨v,es,w,hs,hd⟩:=h
 exact w.pz
theorem Gv.is {s:St} {a b k:Nat} {ts:List T} (h:Gv PP st0 s p L x d r a b k ts) {s0:List UInt8} {K:Bool→St→Fx→Option β} (g: ∀s',Gv PP st0 s' p L x d r a b k ts→ad (K (bN s0 r) s' ⟨[],.all s s'⟩) Q):
  ad (ak (aG vE) 38 [.mp p 0,.sl 1 [.str s0] .shut] s fun v s fx=>du v fun b=>K b s fx) Q:=by
 obtain ⟨v,es,w,hs,hd⟩:=h
 exact ad.G7 w fun s' w'=>g s' ⟨v,es,w',hs,hd⟩
theorem DZ {n:Nat} (hn:n≤10000000) (ih: ∀m,m < n→IH m) (list pat:Bool) {a b k:Nat} {st5:St} (ha:st5.h=a) (hd:d≤64): ∀(m:Nat) (ts bs:List T) (r r':List aQ) (s:St),m≤n→P m (.items list pat) d r=some (bs,r')→Gv PP st0 s p L x d r a b k ts→ts.length+2 * m≤100000000→
  ad (bu (pA (.mp p 0) (xk pat p) (tu list) st5) ([],s)) (fun q=> ∃s',q=(0,[],s')∧Gv PP st0 s' p L x d r' a b k (ts++bs)):=by
 intro m
 induction m with
 | zero=>intro ts bs r r' s _ h;cases h
 | succ m ihm=>
  intro ts bs r r' s hm h hg hl
  simp only [P] at h
  have e0:pA (.mp p 0) (xk pat p) (tu list) st5 ([],s)=pA (.mp p 0) (xk pat p) (tu list) st5 ([],s):=rfl
  split at h
  ·rename_i hb
   obtain ⟨⟨a1,r1⟩,e1,h⟩:=bind_some h
   obtain ⟨u,rfl⟩:=fK _ _ _ _ _ _ e1 (Fs pat)
   obtain ⟨⟨b1,r2⟩,e2,h⟩:=bind_some h
   cases h
   have hgo:ad (pA (.mp p 0) (xk pat p) (tu list) st5 ([],s)) (fun q=> ∃s',q= .inl ([],s')∧Gv PP st0 s' p L x d r1 a b k (ts++[aN r]++[u])):=by
    simp only [pA,tM,ha,ah]
    refine hg.is fun s1 hg=> ?_
    rw [hb]
    refine ad.step (aH _ _) ?_
    refine hg.grow (iz hg.pz) rfl rfl (by omega) fun s2 hg=> ?_
    refine hg.grow (Iw (ih m (by omega)) pat hg.pz hd e1) (B7 pat) (Ca pat p) (by simp;omega) fun s3 hg=> ?_
    exact ad.some ⟨s3,rfl,hg⟩
   obtain ⟨q,e,s',rfl,hg'⟩:=hgo
   rw [bR e]
   refine (ihm _ b1 r1 _ s' (by omega) e2 hg' (by simp;omega)).mono ?_
   rintro q ⟨s2,rfl,hg2⟩
   refine ⟨s2,rfl, ?_⟩
   simpa using hg2
  ·rename_i hb
   cases h
   have hgo:ad (pA (.mp p 0) (xk pat p) (tu list) st5 ([],s)) (fun q=> ∃s',q= .inr (0,[],s')∧Gv PP st0 s' p L x d r a b k ts):=by
    simp only [pA,tM,ha,ah]
    refine hg.is fun s1 hg=> ?_
    rw [eq_false_of_ne_true hb]
    exact ad.step (aB _ _) (ad.some ⟨s1,rfl,hg⟩)
   obtain ⟨q,e,s',rfl,hg'⟩:=hgo
   exact ⟨_,bC e,s',rfl,by simpa using hg'⟩
theorem CE {n:Nat} (ih: ∀m,m≤n→IH m) (hn:n≤10000000) (list pat:Bool):qI 83 (fun p=>[.int .u8 (kindOf list pat:Int),.str (tu list),.str (gG list),xk pat p]) (.closed list pat) (n+1):=by
 intro st p L x d r t r' hp hd h
 simp only [P] at h
 refine ad.wide (ad.step (Mu _ _ _ _ _ _) ?_)
 simp only [R2,tM,aj,az]
 refine ad.alloc (Wd.begin hp) fun s1 _ w=> ?_
 refine ad.take w fun k tk tx y s hnd hdu' w=> ?_
 refine ad.two hnd (ad.fit hnd fun z1 hN1 _ _=> ?_)
 refine ad.alloc w fun s3 _ w=> ?_
 refine ad.store [] w fun s4 fx w=> ?_
 have hg:Gv PP st s4 p L x d (aJ r) s.h st.h (kindOf list pat) [aN r]:=⟨_,_,w.shut (by simp),uZ hN1,by rw [bq];exact hdu'⟩
 refine hg.is fun s5 hg=> ?_
 split at h
 ·rename_i hb
  cases h
  rw [hb]
  refine ad.step (aH _ _) ?_
  refine hg.grow (iz hg.pz) rfl rfl (by simp) fun s2 hg=> ?_
  refine hg.nd.fin ?_
  have:=dp r
  have:=dp (aJ r)
  simp only [cC,dc,cb,bh]
  omega
 ·rename_i hb
  rw [eq_false_of_ne_true hb]
  obtain ⟨⟨a1,r1⟩,e1,h⟩:=bind_some h
  obtain ⟨u,rfl⟩:=fK _ _ _ _ _ _ e1 (Fs pat)
  obtain ⟨⟨b1,r2⟩,e2,h⟩:=bind_some h
  cases h
  refine ad.step (aB _ _) ?_
  refine hg.grow (Iw (ih n (Nat.le_refl _)) pat hg.pz hd e1) (B7 pat) (Ca pat p) (by simp) fun s3 hg=> ?_
  refine ad.bind (DZ hn (fun m hm=>ih m (by omega)) list pat rfl hd n _ b1 _ _ s3 (Nat.le_refl _) e2 hg (by simp;omega)) ?_
  rintro q ⟨s6,rfl,hg⟩
  refine ad.step (ah _) ?_
  have hd1:=ED hn e2 rfl
  have hdu:=iS hn e1 (mY pat)
  have hl:=Hc _ _ _ _ _ _ _ e2
  refine hg.grow (oa hg.pz (gG list)) rfl rfl (by simp;omega) fun s7 hg=> ?_
  have hfin:=hg.nd.fin (t:=node (kindOf list pat) ([aN r]++[u]++b1++[bX (gG list) r2])) (by
   have:=dp r
   have:=fP (gG list) r2
   simp only [cC,dc,cb,bh]
   omega)
  exact hfin
end
end Go.Proofs.YtmngkfmgnkeclaaGreatDoor.Vm
