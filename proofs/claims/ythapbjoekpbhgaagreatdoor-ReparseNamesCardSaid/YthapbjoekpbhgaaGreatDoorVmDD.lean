/-
  A part of the proof.
-/
import Derived.Test.YthapbjoekpbhgaaGreatDoorVmCI
set_option maxRecDepth 1000000
set_option maxHeartbeats 0
namespace Go.Proofs.YthapbjoekpbhgaaGreatDoor.Vm
open Go Go.VM Go.Proofs
def ea2e0 : LV := [(qt [108,101,116,32,97,32,61,32,10,108,101,116,32,98,32,61,32,50,10,108,101,116,32,99,32,61,32,51,10])]
def ev2e0 : AV := (.tup [(qd 4 [(qd 5 [(ql 3 [108,101,116]),(qw 4 [97]),(qw 8 [61]),(qd 6 [(qf 1 3 [108,101,116] [(ql 1 [32,10])]),(qw 4 [98]),(qw 8 [61]),(qw 5 [50]),(q0 2 0 [105,110]),(qd 6 [(qv 3 [108,101,116]),(qw 4 [99]),(qw 8 [61]),(qw 5 [51]),(q0 2 0 [105,110]),(q0 2 0 [101,120,112,114])])])]),(qv 0 [])]),(.int .i64 0)])
theorem er2e0 : rQ2 15 ea2e0 ev2e0 = true := by kernel_rfl
def ea2e1 : LV := [(qt [255,108,101,116,32,97,32,61,32,49,10,108,101,116])]
def ev2e1 : AV := (.tup [(q0 0 0 []),(.int .i64 4)])
theorem er2e1 : rQ2 15 ea2e1 ev2e1 = true := by kernel_rfl
def ea2e2 : LV := [(qt [108,101,116,32,97,32,61,32,49,32,108,101,116,32,98,32,61,32,50,10,108,101,116])]
def ev2e2 : AV := (.tup [(qd 4 [(qd 5 [(ql 3 [108,101,116]),(qw 4 [97]),(qw 8 [61]),(qw 5 [49])]),(qd 5 [(qw 3 [108,101,116]),(qw 4 [98]),(qw 8 [61]),(qw 5 [50])]),(qd 5 [(qv 3 [108,101,116]),(q0 2 0 [112,97,116,116,101,114,110]),(q0 2 0 [61]),(q0 2 0 [101,120,112,114])]),(ql 0 [])]),(.int .i64 0)])
theorem er2e2 : rQ2 15 ea2e2 ev2e2 = true := by kernel_rfl
def ea2e3 : LV := [(qt [108,101,116,32,97,32,61,32,49,32,105,110,10,108,101,116])]
def ev2e3 : AV := (.tup [(qd 4 [(qd 5 [(ql 3 [108,101,116]),(qw 4 [97]),(qw 8 [61]),(qw 5 [49])]),(qd 3 [(qw 3 [105,110])]),(qd 5 [(qv 3 [108,101,116]),(q0 2 0 [112,97,116,116,101,114,110]),(q0 2 0 [61]),(q0 2 0 [101,120,112,114])]),(ql 0 [])]),(.int .i64 0)])
theorem er2e3 : rQ2 15 ea2e3 ev2e3 = true := by kernel_rfl
def ea2e4 : LV := [(qt [108,101,116,32,97,32,61,32,49,32,40,42,32,10,108,101,116,32,98,32,61,32,50,10,108,101,116])]
def ev2e4 : AV := (.tup [(qd 4 [(qd 5 [(ql 3 [108,101,116]),(qw 4 [97]),(qw 8 [61]),(qs 13 [(qw 5 [49]),(qs 3 [(qw 9 [40,42,32,10,108,101,116,32,98,32,61,32,50,10,108,101,116])])])]),(ql 0 [])]),(.int .i64 0)])
theorem er2e4 : rQ2 15 ea2e4 ev2e4 = true := by kernel_rfl
def ea2e5 : LV := [(qt [10,108,101,116,32,98,32,61,32,50,10,108,101,116,32,99,32,61,32,51,10])]
def ev2e5 : AV := (.tup [(qd 4 [(qd 5 [(qv 3 [108,101,116]),(qw 4 [98]),(qw 8 [61]),(qw 5 [50])]),(qd 5 [(qv 3 [108,101,116]),(qw 4 [99]),(qw 8 [61]),(qw 5 [51])]),(qv 0 [])]),(.int .i64 0)])
theorem er2e5 : rQ2 15 ea2e5 ev2e5 = true := by kernel_rfl
def ea2e6 : LV := [(qt [10,108,101,116,32,98,32,61,32,50,10,32,99,32,61,32,51,10])]
def ev2e6 : AV := (.tup [(qd 4 [(qd 5 [(qv 3 [108,101,116]),(qw 4 [98]),(qw 8 [61]),(qs 11 [(qs 13 [(qw 5 [50]),(qf 1 4 [99] [(ql 1 [10,32])])]),(qw 8 [61]),(qw 5 [51])])]),(qv 0 [])]),(.int .i64 0)])
theorem er2e6 : rQ2 15 ea2e6 ev2e6 = true := by kernel_rfl
def ea2e7 : LV := [(qt [10,108,101,116,32,99,32,61,32,51,10,108,101,116])]
def ev2e7 : AV := (.tup [(qd 4 [(qd 5 [(qv 3 [108,101,116]),(qw 4 [99]),(qw 8 [61]),(qw 5 [51])]),(qd 5 [(qv 3 [108,101,116]),(q0 2 0 [112,97,116,116,101,114,110]),(q0 2 0 [61]),(q0 2 0 [101,120,112,114])]),(ql 0 [])]),(.int .i64 0)])
theorem er2e7 : rQ2 15 ea2e7 ev2e7 = true := by kernel_rfl
end Go.Proofs.YthapbjoekpbhgaaGreatDoor.Vm
