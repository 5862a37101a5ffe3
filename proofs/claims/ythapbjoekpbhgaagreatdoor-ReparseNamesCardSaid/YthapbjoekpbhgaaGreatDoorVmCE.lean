/-
  A part of the proof.
-/
import Derived.Test.YthapbjoekpbhgaaGreatDoorVmCD
set_option maxRecDepth 1000000
set_option maxHeartbeats 0
namespace Go.Proofs.YthapbjoekpbhgaaGreatDoor.Vm
open Go Go.VM Go.Proofs
def ea1a0 : LV := [(qt [108,101,116,32,114,101,99,32,105,110,32,102,117,110,32,105,102,32,116,104,101,110,32,101,108,115,101,32,109,97,116,99,104,32,119,105,116,104,32,116,114,117,101,32,102,97,108,115,101,32,109,111,100])]
def ev1a0 : AV := (.sl 1 [(qt [108,101,116]),(qt [114,101,99]),(qt [105,110]),(qt [102,117,110]),(qt [105,102]),(qt [116,104,101,110]),(qt [101,108,115,101]),(qt [109,97,116,99,104]),(qt [119,105,116,104]),(qt [116,114,117,101]),(qt [102,97,108,115,101]),(qt [109,111,100])] .shut)
theorem er1a0 : rQ1 63 ea1a0 ev1a0 = true := by kernel_rfl
def ea1a1 : LV := [(qt [108,101,116,32,97,32,61,32,10,108,101,116])]
def ev1a1 : AV := (.tup [(.sl 2 [(.agg [(.int .u8 3),(qt [108,101,116])]),(.agg [(.int .u8 1),(qt [32])]),(.agg [(.int .u8 4),(qt [97])]),(.agg [(.int .u8 1),(qt [32])]),(.agg [(.int .u8 8),(qt [61])]),(.agg [(.int .u8 1),(qt [32,10])]),(.agg [(.int .u8 3),(qt [108,101,116])])] .wide),(.int .i64 0)])
theorem er1a1 : rQ1 21 ea1a1 ev1a1 = true := by kernel_rfl
def ea1a2 : LV := [(qt [40,42,108,101,116,32,97,32,61,32,49,10,108,101,116])]
def ev1a2 : AV := (.tup [(.sl 2 [(.agg [(.int .u8 9),(qt [40,42,108,101,116,32,97,32,61,32,49,10,108,101,116])])] .wide),(.int .i64 0)])
theorem er1a2 : rQ1 21 ea1a2 ev1a2 = true := by kernel_rfl
def ea1a3 : LV := [(qt [255])]
def ev1a3 : AV := (.tup [.nils,(.int .i64 4)])
theorem er1a3 : rQ1 21 ea1a3 ev1a3 = true := by kernel_rfl
def ea1a4 : LV := [(qt [255,108,101,116,32,97,32,61,32,49,10,108,101,116,32,98,32,61,32,50,10,108,101,116,32,99,32,61,32,51,10])]
def ev1a4 : AV := (.tup [.nils,(.int .i64 4)])
theorem er1a4 : rQ1 21 ea1a4 ev1a4 = true := by kernel_rfl
def ea1a5 : LV := [(qt [108,101,116,32,97,32,61,32,49,10,108,101,116])]
def ev1a5 : AV := (.tup [(.sl 2 [(.agg [(.int .u8 3),(qt [108,101,116])]),(.agg [(.int .u8 1),(qt [32])]),(.agg [(.int .u8 4),(qt [97])]),(.agg [(.int .u8 1),(qt [32])]),(.agg [(.int .u8 8),(qt [61])]),(.agg [(.int .u8 1),(qt [32])]),(.agg [(.int .u8 5),(qt [49])]),(.agg [(.int .u8 1),(qt [10])]),(.agg [(.int .u8 3),(qt [108,101,116])])] .wide),(.int .i64 0)])
theorem er1a5 : rQ1 21 ea1a5 ev1a5 = true := by kernel_rfl
def ea1a6 : LV := [(qt [108,101,116,32,97,32,61,32,49,10,108,101,32,98,32,61,32,50,10,108,101,116])]
def ev1a6 : AV := (.tup [(.sl 2 [(.agg [(.int .u8 3),(qt [108,101,116])]),(.agg [(.int .u8 1),(qt [32])]),(.agg [(.int .u8 4),(qt [97])]),(.agg [(.int .u8 1),(qt [32])]),(.agg [(.int .u8 8),(qt [61])]),(.agg [(.int .u8 1),(qt [32])]),(.agg [(.int .u8 5),(qt [49])]),(.agg [(.int .u8 1),(qt [10])]),(.agg [(.int .u8 4),(qt [108,101])]),(.agg [(.int .u8 1),(qt [32])]),(.agg [(.int .u8 4),(qt [98])]),(.agg [(.int .u8 1),(qt [32])]),(.agg [(.int .u8 8),(qt [61])]),(.agg [(.int .u8 1),(qt [32])]),(.agg [(.int .u8 5),(qt [50])]),(.agg [(.int .u8 1),(qt [10])]),(.agg [(.int .u8 3),(qt [108,101,116])])] .wide),(.int .i64 0)])
theorem er1a6 : rQ1 21 ea1a6 ev1a6 = true := by kernel_rfl
def ea1a7 : LV := [(qt [108,101,116,32,97,32,61,32,49,10,108,101,116,120,32,98,32,61,32,50,10,108,101,116])]
def ev1a7 : AV := (.tup [(.sl 2 [(.agg [(.int .u8 3),(qt [108,101,116])]),(.agg [(.int .u8 1),(qt [32])]),(.agg [(.int .u8 4),(qt [97])]),(.agg [(.int .u8 1),(qt [32])]),(.agg [(.int .u8 8),(qt [61])]),(.agg [(.int .u8 1),(qt [32])]),(.agg [(.int .u8 5),(qt [49])]),(.agg [(.int .u8 1),(qt [10])]),(.agg [(.int .u8 4),(qt [108,101,116,120])]),(.agg [(.int .u8 1),(qt [32])]),(.agg [(.int .u8 4),(qt [98])]),(.agg [(.int .u8 1),(qt [32])]),(.agg [(.int .u8 8),(qt [61])]),(.agg [(.int .u8 1),(qt [32])]),(.agg [(.int .u8 5),(qt [50])]),(.agg [(.int .u8 1),(qt [10])]),(.agg [(.int .u8 3),(qt [108,101,116])])] .wide),(.int .i64 0)])
theorem er1a7 : rQ1 21 ea1a7 ev1a7 = true := by kernel_rfl
def ea1a8 : LV := [(qt [108,101,116,32,97,32,61,32,34,10,108,101,116])]
def ev1a8 : AV := (.tup [(.sl 2 [(.agg [(.int .u8 3),(qt [108,101,116])]),(.agg [(.int .u8 1),(qt [32])]),(.agg [(.int .u8 4),(qt [97])]),(.agg [(.int .u8 1),(qt [32])]),(.agg [(.int .u8 8),(qt [61])]),(.agg [(.int .u8 1),(qt [32])]),(.agg [(.int .u8 9),(qt [34])]),(.agg [(.int .u8 1),(qt [10])]),(.agg [(.int .u8 3),(qt [108,101,116])])] .wide),(.int .i64 0)])
theorem er1a8 : rQ1 21 ea1a8 ev1a8 = true := by kernel_rfl
def ea1a9 : LV := [(qt [10,108,101,116,32,98,32,61,32,50,10,108,101,116])]
def ev1a9 : AV := (.tup [(.sl 2 [(.agg [(.int .u8 1),(qt [10])]),(.agg [(.int .u8 3),(qt [108,101,116])]),(.agg [(.int .u8 1),(qt [32])]),(.agg [(.int .u8 4),(qt [98])]),(.agg [(.int .u8 1),(qt [32])]),(.agg [(.int .u8 8),(qt [61])]),(.agg [(.int .u8 1),(qt [32])]),(.agg [(.int .u8 5),(qt [50])]),(.agg [(.int .u8 1),(qt [10])]),(.agg [(.int .u8 3),(qt [108,101,116])])] .wide),(.int .i64 0)])
theorem er1a9 : rQ1 21 ea1a9 ev1a9 = true := by kernel_rfl
def ea1a10 : LV := [(qt [108,101,116,32,97,32,61,32,49,32,40,42,32,42,41,32,10,108,101,116])]
def ev1a10 : AV := (.tup [(.sl 2 [(.agg [(.int .u8 3),(qt [108,101,116])]),(.agg [(.int .u8 1),(qt [32])]),(.agg [(.int .u8 4),(qt [97])]),(.agg [(.int .u8 1),(qt [32])]),(.agg [(.int .u8 8),(qt [61])]),(.agg [(.int .u8 1),(qt [32])]),(.agg [(.int .u8 5),(qt [49])]),(.agg [(.int .u8 1),(qt [32])]),(.agg [(.int .u8 2),(qt [40,42,32,42,41])]),(.agg [(.int .u8 1),(qt [32,10])]),(.agg [(.int .u8 3),(qt [108,101,116])])] .wide),(.int .i64 0)])
theorem er1a10 : rQ1 21 ea1a10 ev1a10 = true := by kernel_rfl
def ea1a11 : LV := [(qt [10,108,101,116,32,98,32,61,32,50,41,32,10,108,101,116,32,99,32,61,32,51,10])]
def ev1a11 : AV := (.tup [(.sl 2 [(.agg [(.int .u8 1),(qt [10])]),(.agg [(.int .u8 3),(qt [108,101,116])]),(.agg [(.int .u8 1),(qt [32])]),(.agg [(.int .u8 4),(qt [98])]),(.agg [(.int .u8 1),(qt [32])]),(.agg [(.int .u8 8),(qt [61])]),(.agg [(.int .u8 1),(qt [32])]),(.agg [(.int .u8 5),(qt [50])]),(.agg [(.int .u8 8),(qt [41])]),(.agg [(.int .u8 1),(qt [32,10])]),(.agg [(.int .u8 3),(qt [108,101,116])]),(.agg [(.int .u8 1),(qt [32])]),(.agg [(.int .u8 4),(qt [99])]),(.agg [(.int .u8 1),(qt [32])]),(.agg [(.int .u8 8),(qt [61])]),(.agg [(.int .u8 1),(qt [32])]),(.agg [(.int .u8 5),(qt [51])]),(.agg [(.int .u8 1),(qt [10])])] .wide),(.int .i64 0)])
theorem er1a11 : rQ1 21 ea1a11 ev1a11 = true := by kernel_rfl
def ea1a12 : LV := [(qt [108,101,116,32,97,32,61,32,49,10,108,101,116,32,98,32,61,32,50,10,10,108,101,116,32,99,32,61,32,51,10])]
def ev1a12 : AV := (.tup [(.sl 2 [(.agg [(.int .u8 3),(qt [108,101,116])]),(.agg [(.int .u8 1),(qt [32])]),(.agg [(.int .u8 4),(qt [97])]),(.agg [(.int .u8 1),(qt [32])]),(.agg [(.int .u8 8),(qt [61])]),(.agg [(.int .u8 1),(qt [32])]),(.agg [(.int .u8 5),(qt [49])]),(.agg [(.int .u8 1),(qt [10])]),(.agg [(.int .u8 3),(qt [108,101,116])]),(.agg [(.int .u8 1),(qt [32])]),(.agg [(.int .u8 4),(qt [98])]),(.agg [(.int .u8 1),(qt [32])]),(.agg [(.int .u8 8),(qt [61])]),(.agg [(.int .u8 1),(qt [32])]),(.agg [(.int .u8 5),(qt [50])]),(.agg [(.int .u8 1),(qt [10,10])]),(.agg [(.int .u8 3),(qt [108,101,116])]),(.agg [(.int .u8 1),(qt [32])]),(.agg [(.int .u8 4),(qt [99])]),(.agg [(.int .u8 1),(qt [32])]),(.agg [(.int .u8 8),(qt [61])]),(.agg [(.int .u8 1),(qt [32])]),(.agg [(.int .u8 5),(qt [51])]),(.agg [(.int .u8 1),(qt [10])])] .wide),(.int .i64 0)])
theorem er1a12 : rQ1 21 ea1a12 ev1a12 = true := by kernel_rfl
def ea1a13 : LV := [(qt [76,69,84,32,97,32,61,32,49,10,108,101,116])]
def ev1a13 : AV := (.tup [(.sl 2 [(.agg [(.int .u8 9),(qt [76])]),(.agg [(.int .u8 9),(qt [69])]),(.agg [(.int .u8 9),(qt [84])]),(.agg [(.int .u8 1),(qt [32])]),(.agg [(.int .u8 4),(qt [97])]),(.agg [(.int .u8 1),(qt [32])]),(.agg [(.int .u8 8),(qt [61])]),(.agg [(.int .u8 1),(qt [32])]),(.agg [(.int .u8 5),(qt [49])]),(.agg [(.int .u8 1),(qt [10])]),(.agg [(.int .u8 3),(qt [108,101,116])])] .wide),(.int .i64 0)])
theorem er1a13 : rQ1 21 ea1a13 ev1a13 = true := by kernel_rfl
def ea1a14 : LV := [(qt [10,108,101,116,32,99,32,61,32,108,101,116,32,122,32,61,32,49,32,105,110,32,122,10])]
def ev1a14 : AV := (.tup [(.sl 2 [(.agg [(.int .u8 1),(qt [10])]),(.agg [(.int .u8 3),(qt [108,101,116])]),(.agg [(.int .u8 1),(qt [32])]),(.agg [(.int .u8 4),(qt [99])]),(.agg [(.int .u8 1),(qt [32])]),(.agg [(.int .u8 8),(qt [61])]),(.agg [(.int .u8 1),(qt [32])]),(.agg [(.int .u8 3),(qt [108,101,116])]),(.agg [(.int .u8 1),(qt [32])]),(.agg [(.int .u8 4),(qt [122])]),(.agg [(.int .u8 1),(qt [32])]),(.agg [(.int .u8 8),(qt [61])]),(.agg [(.int .u8 1),(qt [32])]),(.agg [(.int .u8 5),(qt [49])]),(.agg [(.int .u8 1),(qt [32])]),(.agg [(.int .u8 3),(qt [105,110])]),(.agg [(.int .u8 1),(qt [32])]),(.agg [(.int .u8 4),(qt [122])]),(.agg [(.int .u8 1),(qt [10])])] .wide),(.int .i64 0)])
theorem er1a14 : rQ1 21 ea1a14 ev1a14 = true := by kernel_rfl
def ea1a15 : LV := [(qt [108,101,116,32,97,32,61,32,108,101,116,32,122,32,61,10,108,101,116,32,98,32,61,32,50,10,108,101,116])]
def ev1a15 : AV := (.tup [(.sl 2 [(.agg [(.int .u8 3),(qt [108,101,116])]),(.agg [(.int .u8 1),(qt [32])]),(.agg [(.int .u8 4),(qt [97])]),(.agg [(.int .u8 1),(qt [32])]),(.agg [(.int .u8 8),(qt [61])]),(.agg [(.int .u8 1),(qt [32])]),(.agg [(.int .u8 3),(qt [108,101,116])]),(.agg [(.int .u8 1),(qt [32])]),(.agg [(.int .u8 4),(qt [122])]),(.agg [(.int .u8 1),(qt [32])]),(.agg [(.int .u8 8),(qt [61])]),(.agg [(.int .u8 1),(qt [10])]),(.agg [(.int .u8 3),(qt [108,101,116])]),(.agg [(.int .u8 1),(qt [32])]),(.agg [(.int .u8 4),(qt [98])]),(.agg [(.int .u8 1),(qt [32])]),(.agg [(.int .u8 8),(qt [61])]),(.agg [(.int .u8 1),(qt [32])]),(.agg [(.int .u8 5),(qt [50])]),(.agg [(.int .u8 1),(qt [10])]),(.agg [(.int .u8 3),(qt [108,101,116])])] .wide),(.int .i64 0)])
theorem er1a15 : rQ1 21 ea1a15 ev1a15 = true := by kernel_rfl
def ea1a16 : LV := [(qt [108,101,116,32,97,32,61,32,49,108,101,116,32,99,32,61,32,51,10])]
def ev1a16 : AV := (.tup [(.sl 2 [(.agg [(.int .u8 3),(qt [108,101,116])]),(.agg [(.int .u8 1),(qt [32])]),(.agg [(.int .u8 4),(qt [97])]),(.agg [(.int .u8 1),(qt [32])]),(.agg [(.int .u8 8),(qt [61])]),(.agg [(.int .u8 1),(qt [32])]),(.agg [(.int .u8 5),(qt [49])]),(.agg [(.int .u8 3),(qt [108,101,116])]),(.agg [(.int .u8 1),(qt [32])]),(.agg [(.int .u8 4),(qt [99])]),(.agg [(.int .u8 1),(qt [32])]),(.agg [(.int .u8 8),(qt [61])]),(.agg [(.int .u8 1),(qt [32])]),(.agg [(.int .u8 5),(qt [51])]),(.agg [(.int .u8 1),(qt [10])])] .wide),(.int .i64 0)])
theorem er1a16 : rQ1 21 ea1a16 ev1a16 = true := by kernel_rfl
def ea1a17 : LV := [(qt [108,101,116,32,102,32,40,120,41,32,91,121,59,32,122,93,32,95,32,61,32,49,10,108,101,116,32,98,32,61,32,50,10,108,101,116,32,99,32,61,32,51,10])]
def ev1a17 : AV := (.tup [(.sl 2 [(.agg [(.int .u8 3),(qt [108,101,116])]),(.agg [(.int .u8 1),(qt [32])]),(.agg [(.int .u8 4),(qt [102])]),(.agg [(.int .u8 1),(qt [32])]),(.agg [(.int .u8 8),(qt [40])]),(.agg [(.int .u8 4),(qt [120])]),(.agg [(.int .u8 8),(qt [41])]),(.agg [(.int .u8 1),(qt [32])]),(.agg [(.int .u8 8),(qt [91])]),(.agg [(.int .u8 4),(qt [121])]),(.agg [(.int .u8 8),(qt [59])]),(.agg [(.int .u8 1),(qt [32])]),(.agg [(.int .u8 4),(qt [122])]),(.agg [(.int .u8 8),(qt [93])]),(.agg [(.int .u8 1),(qt [32])]),(.agg [(.int .u8 8),(qt [95])]),(.agg [(.int .u8 1),(qt [32])]),(.agg [(.int .u8 8),(qt [61])]),(.agg [(.int .u8 1),(qt [32])]),(.agg [(.int .u8 5),(qt [49])]),(.agg [(.int .u8 1),(qt [10])]),(.agg [(.int .u8 3),(qt [108,101,116])]),(.agg [(.int .u8 1),(qt [32])]),(.agg [(.int .u8 4),(qt [98])]),(.agg [(.int .u8 1),(qt [32])]),(.agg [(.int .u8 8),(qt [61])]),(.agg [(.int .u8 1),(qt [32])]),(.agg [(.int .u8 5),(qt [50])]),(.agg [(.int .u8 1),(qt [10])]),(.agg [(.int .u8 3),(qt [108,101,116])]),(.agg [(.int .u8 1),(qt [32])]),(.agg [(.int .u8 4),(qt [99])]),(.agg [(.int .u8 1),(qt [32])]),(.agg [(.int .u8 8),(qt [61])]),(.agg [(.int .u8 1),(qt [32])]),(.agg [(.int .u8 5),(qt [51])]),(.agg [(.int .u8 1),(qt [10])])] .wide),(.int .i64 0)])
theorem er1a17 : rQ1 21 ea1a17 ev1a17 = true := by kernel_rfl
end Go.Proofs.YthapbjoekpbhgaaGreatDoor.Vm
