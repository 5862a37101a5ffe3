/-
  A part of the proof.
-/
import Derived.Test.YthapbjoekpbhgaaGreatDoorVmCI
set_option maxRecDepth 1000000
set_option maxHeartbeats 0
namespace Go.Proofs.YthapbjoekpbhgaaGreatDoor.Vm
open Go Go.VM Go.Proofs
def ea2g0 : LV := [(qt [40,42,108,101,116,32,97,32,61,32,49,10,108,101,116])]
def ev2g0 : AV := (.tup [(qd 4 [(qd 3 [(ql 9 [40,42,108,101,116,32,97,32,61,32,49,10,108,101,116])]),(ql 0 [])]),(.int .i64 0)])
theorem er2g0 : rQ2 15 ea2g0 ev2g0 = true := by kernel_rfl
def ea2g1 : LV := [(qt [255,108,101,116,32,97,32,61,32,49,10,108,101,116,32,98,32,61,32,50,10,108,101,116,32,99,32,61,32,51,10])]
def ev2g1 : AV := (.tup [(q0 0 0 []),(.int .i64 4)])
theorem er2g1 : rQ2 15 ea2g1 ev2g1 = true := by kernel_rfl
def ea2g2 : LV := [(qt [108,101,116,32,97,32,61,32,49,10,108,101,32,98,32,61,32,50,10,108,101,116])]
def ev2g2 : AV := (.tup [(qd 4 [(qd 5 [(ql 3 [108,101,116]),(qw 4 [97]),(qw 8 [61]),(qs 11 [(qs 13 [(qs 13 [(qw 5 [49]),(qv 4 [108,101])]),(qw 4 [98])]),(qw 8 [61]),(qw 5 [50])])]),(qd 5 [(qv 3 [108,101,116]),(q0 2 0 [112,97,116,116,101,114,110]),(q0 2 0 [61]),(q0 2 0 [101,120,112,114])]),(ql 0 [])]),(.int .i64 0)])
theorem er2g2 : rQ2 15 ea2g2 ev2g2 = true := by kernel_rfl
def ea2g3 : LV := [(qt [108,101,116,32,97,32,61,32,34,10,108,101,116])]
def ev2g3 : AV := (.tup [(qd 4 [(qd 5 [(ql 3 [108,101,116]),(qw 4 [97]),(qw 8 [61]),(qs 3 [(qw 9 [34])])]),(qd 5 [(qv 3 [108,101,116]),(q0 2 0 [112,97,116,116,101,114,110]),(q0 2 0 [61]),(q0 2 0 [101,120,112,114])]),(ql 0 [])]),(.int .i64 0)])
theorem er2g3 : rQ2 15 ea2g3 ev2g3 = true := by kernel_rfl
def ea2g4 : LV := [(qt [108,101,116,32,97,32,61,32,49,32,40,42,32,42,41,32,10,108,101,116])]
def ev2g4 : AV := (.tup [(qd 4 [(qd 5 [(ql 3 [108,101,116]),(qw 4 [97]),(qw 8 [61]),(qw 5 [49])]),(qd 5 [(qf 1 3 [108,101,116] [qb,(ql 2 [40,42,32,42,41]),(ql 1 [32,10])]),(q0 2 0 [112,97,116,116,101,114,110]),(q0 2 0 [61]),(q0 2 0 [101,120,112,114])]),(ql 0 [])]),(.int .i64 0)])
theorem er2g4 : rQ2 15 ea2g4 ev2g4 = true := by kernel_rfl
def ea2g5 : LV := [(qt [108,101,116,32,97,32,61,32,49,10,108,101,116,32,98,32,61,32,50,10,10,108,101,116,32,99,32,61,32,51,10])]
def ev2g5 : AV := (.tup [(qd 4 [(qd 5 [(ql 3 [108,101,116]),(qw 4 [97]),(qw 8 [61]),(qw 5 [49])]),(qd 5 [(qv 3 [108,101,116]),(qw 4 [98]),(qw 8 [61]),(qw 5 [50])]),(qd 5 [(qf 1 3 [108,101,116] [(ql 1 [10,10])]),(qw 4 [99]),(qw 8 [61]),(qw 5 [51])]),(qv 0 [])]),(.int .i64 0)])
theorem er2g5 : rQ2 15 ea2g5 ev2g5 = true := by kernel_rfl
def ea2g6 : LV := [(qt [10,108,101,116,32,99,32,61,32,108,101,116,32,122,32,61,32,49,32,105,110,32,122,10])]
def ev2g6 : AV := (.tup [(qd 4 [(qd 5 [(qv 3 [108,101,116]),(qw 4 [99]),(qw 8 [61]),(qd 6 [(qw 3 [108,101,116]),(qw 4 [122]),(qw 8 [61]),(qw 5 [49]),(qw 3 [105,110]),(qw 4 [122])])]),(qv 0 [])]),(.int .i64 0)])
theorem er2g6 : rQ2 15 ea2g6 ev2g6 = true := by kernel_rfl
def ea2g7 : LV := [(qt [108,101,116,32,97,32,61,32,49,108,101,116,32,99,32,61,32,51,10])]
def ev2g7 : AV := (.tup [(qd 4 [(qd 5 [(ql 3 [108,101,116]),(qw 4 [97]),(qw 8 [61]),(qw 5 [49])]),(qd 5 [(ql 3 [108,101,116]),(qw 4 [99]),(qw 8 [61]),(qw 5 [51])]),(qv 0 [])]),(.int .i64 0)])
theorem er2g7 : rQ2 15 ea2g7 ev2g7 = true := by kernel_rfl
end Go.Proofs.YthapbjoekpbhgaaGreatDoor.Vm
