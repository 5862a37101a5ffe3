/-
  A part of the proof.
-/
import Derived.Test.YtpinfliihpdjcaaGreatDoorVmCD
import Derived.Deep.RegionWith
set_option maxRecDepth 1000000
set_option linter.all false
namespace Go.Proofs.YtpinfliihpdjcaaGreatDoor.Vm
open Go Go.VM Go.Proofs Go.Lex Go.Parse Go.RowKit
theorem cK {a b c:World} (h:Below a.heap.size a b) (k:Below b.heap.size b c):Below a.heap.size a c:=h.trans (k.mono h.size)
structure Pt (s:List UInt8) (w0 w1:World) (n m mid:Nat) (a b:Int) (z:ByteArray) (y:Value) (a' b':Int) (z':ByteArray) (y':Value) (w:World):Prop where
  G:ca vE.G w
  va:Vc n a b z y w
  vb:Vc m a' b' z' y' w
  sa:Std (dT s) w (nV a b z y)
  sb:uc (dT s) w0.heap.size mid w (nV a' b' z' y')
  b0:Below w0.heap.size w0 w
  b1:Below w1.heap.size w1 w
theorem Pt.below {s:List UInt8} {w0 w1:World} {n m mid:Nat} {a b:Int} {z:ByteArray} {y:Value} {a' b':Int} {z':ByteArray} {y':Value} {w w':World} (h:Pt s w0 w1 n m mid a b z y a' b' z' y' w) (k:Below w.heap.size w w'):Pt s w0 w1 n m mid a b z y a' b' z' y' w':=
  ⟨h.G.below k,h.va.below k,h.vb.below k,h.sa.below k,h.sb.below k,cK h.b0 k,cK h.b1 k⟩
set_option maxHeartbeats 8000000 in
theorem CZ (s:List UInt8) (h:3000 < s.length) (w:World) (hG:ca vE.G w):
    Calls Tryz.prog 3 #[sV s] w fun e w'=>e= .returned (.bool true)/\Below w.heap.size w w':=by
  go_enter Tryz.func3,Tryz.ntmps3
  go_wp2_with fail
  refine (IE w hG).mono ?_;rintro e w' ⟨rfl,hB⟩;go_wp2;go_ret;exact ⟨rfl,hB⟩
set_option maxHeartbeats 16000000 in
theorem BR (s:List UInt8) (h:¬ 3000 < s.length) (w:World) (hG:ca vE.G w):
    Calls Tryz.prog 3 #[sV s] w fun e w'=>e= .returned (.bool true)/\Below w.heap.size w w':=by
  go_enter Tryz.func3,Tryz.ntmps3
  go_wp2_with fail
  refine (Ks s w hG).mono ?_;rintro e w1 ⟨a,b,z,yo,yl,yc,rfl,B1,O1⟩
  go_wp2_with fail
  have al:Below w1.heap.size w1 (w1.alloc (.cells #[.int .u8 a,.int .u8 b,.string z,.slice yo yl yc] 27)):=by go_grown
  have va:=Vc.new a b z (.slice yo yl yc) w1;generalize w1.alloc (.cells #[.int .u8 a,.int .u8 b,.string z,.slice yo yl yc] 27)=W1 at *;have G1:=(hG.below B1).below al;refine (Mq s W1 G1).mono ?_;rintro e g ⟨a',b',z',c,d,f,rfl,B2,O2⟩;have al2:Below g.heap.size g (g.alloc (.cells #[.int .u8 a',.int .u8 b',.string z',.slice c d f] 27)):=by go_grown
  have P2:Pt s w w1 w1.heap.size g.heap.size W1.heap.size a b z (.slice yo yl yc) a' b' z' (.slice c d f) (g.alloc (.cells #[.int .u8 a',.int .u8 b',.string z',.slice c d f] 27)):=
    ⟨(G1.below B2).below al2,(va.below B2).below al2,Vc.new _ _ _ _ _,O1.GZ (cK (cK al B2) al2),(O2.Ku (Hp hG)).below al2,cK (cK (cK B1 al) B2) al2,cK (cK al B2) al2⟩
  have X1:Hid (yw (dT s) w.heap.size w1 (nV a b z (.slice yo yl yc))/\ca vE.G w1/\E1 w.heap.size):=⟨O1,hG.below B1,Hp hG⟩;have X3:Hid (w.heap.size<=w1.heap.size/\w1.heap.size < W1.heap.size/\W1.heap.size<=g.heap.size):=⟨B1.size,va.lt,B2.size⟩;clear hG O1 O2 B1 al va G1 B2 al2;obtain ⟨c0,c1,c2,c3,_⟩:=P2.va;obtain ⟨i,j,k,l,_⟩:=P2.vb
  go_wp2_with fail
  clear c0 c1 c2 c3 i j k l;generalize g.alloc (.cells #[.int .u8 a',.int .u8 b',.string z',.slice c d f] 27)=W2 at *;refine (Lm W2 P2.G P2.sa P2.sb.GZ).mono ?_;rintro e o ⟨rfl,B3⟩;have P3:=P2.below B3;clear P2 B3;by_cases h0:qj s=0
  · have Pq:=P3.below (Below.refl _ _).drew
    have Gq:=Pq.G;have aq:=Pq.sa;have bq:=Pq.sb.GZ;obtain ⟨c0,c1,c2,c3,_⟩:=Pq.va;obtain ⟨i,j,k,l,_⟩:=Pq.vb
    go_wp2_with fail
    clear P3
    go_region_with (first
      | (go_at_call 8
         refine (Mm (t:=dT s) _ (by assumption) (by assumption)).mono ?_;rintro e wq ⟨rfl,Bq⟩
         replace Pq:=Pq.below Bq
         have Gq:=Pq.G;have aq:=Pq.sa;have bq:=Pq.sb.GZ;obtain ⟨c0,c1,c2,c3,_⟩:=Pq.va;obtain ⟨i,j,k,l,_⟩:=Pq.vb)
      | (go_at_call 9
         refine (Mo (t:=dT s) _ (by assumption) (by assumption)).mono ?_;rintro e wq ⟨rfl,Bq⟩
         replace Pq:=Pq.below Bq
         have Gq:=Pq.G;have aq:=Pq.sa;have bq:=Pq.sb.GZ;obtain ⟨c0,c1,c2,c3,_⟩:=Pq.va;obtain ⟨i,j,k,l,_⟩:=Pq.vb))
    all_goals go_wp2_with fail
    all_goals obtain ⟨n,u,H⟩:=X3.out
    all_goals refine (MA X1.out.1 X1.out.2.1 Pq.b1).mono ?_
    all_goals rintro e v ⟨rfl,C5⟩
    all_goals have G5:=Pq.G.Dk C5 X1.out.2.2
    all_goals have V5:=Pq.va.Dk C5 (.inr (NX _))
    all_goals have U5:=Pq.vb.Dk C5 (.inr (by omega))
    all_goals have S5:=Pq.sb.Dk C5 (NX _) (by omega)
    all_goals have H5:=Pq.b0.trans (C5.below (NX _) Pq.b0.size)
    all_goals clear Gq aq bq c0 c1 c2 c3 i j k l C5
    all_goals go_wp2_with fail
    all_goals refine (Ks s v G5).mono ?_
    all_goals rintro e I ⟨p,q,r,no,nl,nc,rfl,B6,O6⟩
    all_goals have G6:=G5.below B6
    all_goals have V6:=V5.below B6
    all_goals have U6:=U5.below B6
    all_goals have S6:=S5.below B6
    all_goals have H6:=cK H5 B6
    all_goals have L6:=Oe H5.size B6.size
    all_goals have T6:=O6.Ku (lo:=w.heap.size) X1.out.2.2
    all_goals have J5:=V5.lt
    all_goals clear G5 V5 U5 S5 H5 B6 O6
    all_goals obtain ⟨x,m⟩:=V6.put p q r (.slice no nl nc)
    all_goals obtain ⟨y,A,B,C,_⟩:=x
    all_goals obtain ⟨i,j,k,l,_⟩:=U6.Dk m (.inr (by omega))
    all_goals obtain ⟨c0,c1,c2,c3,cf⟩:=V6
    all_goals have J:=cf 0
    all_goals have K:=cf 1
    all_goals have L:=cf 2
    all_goals have M:=cf 3
    all_goals clear cf
    all_goals have G7:=G6.Dk m (fun b cs D E=>PA (X1.out.2.2 b cs D E) n)
    all_goals have T7:=T6.Dk m n J5
    all_goals have S7:=S6.Dk m n u
    all_goals have H7:=H6.trans (m.below n L6)
    all_goals go_wp2_with fail
    all_goals refine (Lm _ G7 T7.GZ S7.GZ).mono ?_
    all_goals rintro e F ⟨rfl,B8⟩
    all_goals have H8:=cK H7 B8
    all_goals have G8:=G7.below B8
    all_goals clear G7 T7 S7 H7 B8 c0 c1 c2 c3 i j k l y A B C m G6 T6 S6 H6 U6
    all_goals go_wp2_with fail
    all_goals refine (IE F G8).mono ?_
    all_goals rintro e N ⟨rfl,B9⟩
    all_goals have H9:=cK H8 B9
    all_goals go_wp2
    all_goals go_ret
    all_goals exact ⟨rfl,H9⟩
  · go_wp2_with fail
    refine (IE o P3.G).mono ?_;rintro e O ⟨rfl,B4⟩;have H4:=cK P3.b0 B4;go_wp2;go_ret;exact ⟨rfl,H4⟩
theorem Ec (s:List UInt8) (w:World) (hG:ca vE.G w):
    Calls Tryz.prog 3 #[sV s] w fun e w'=>e= .returned (.bool true)/\Below w.heap.size w w':=by
  by_cases h:3000 < s.length
  · exact CZ s h w hG
  · exact BR s h w hG
end Go.Proofs.YtpinfliihpdjcaaGreatDoor.Vm
namespace Go.Proofs.YtpinfliihpdjcaaGreatDoor.Vm
open Go Go.VM Go.Proofs
def zA:List TypeId:=[9]
theorem AR: ∀t,xY zA t=true->wH Tryz.prog zA t=true:=by
 intro t a;have:t∈zA:=by
  obtain ⟨u,b,e⟩:=List.any_eq_true.1 a;rw [<- NZ e];exact b
 exact Ox.1 (show (zA.all fun t=>wH Tryz.prog zA t)=true by kernel_rfl) t this
theorem Jb {n t:Nat} {cs:List AV} (a:Tryz.prog.underlying t=some .string) (h:lx Tryz.prog n t cs): ∃s,cs=[.str s]/\s.length<=maxLen:=by
 cases n with
 | zero=>cases h
 | succ n=>simp only [lx,a] at h;exact h
end Go.Proofs.YtpinfliihpdjcaaGreatDoor.Vm
