/-
  (A part of the proof: AnyT2, LibC.)
-/
import Derived.Test.YtmhofncehlaamaaGreatDoorVmAA
import Derived.Test.YtmhofncehlaamaaGreatDoorVmBI
import Derived.Test.YtmhofncehlaamaaGreatDoorVmBD
import Derived.Lib.OthersKept
import Derived.Lib.SpaceUEq
import Derived.Lib.MapLaws
import Derived.Shelf.Strings.IndexAny
set_option linter.unusedSimpArgs false
namespace Go.Proofs
open Go.Shelf Go.RowKit Go.Lib
variable {P:Program} {ρ:Ren}
set_option maxHeartbeats 4000000 in
set_option maxRecDepth 1000000 in
theorem Any.Ja (L:Lays.n152 P ρ) (w:World):
  Calls P (ρ.f 152) #[.string ⟨#[10,13]⟩,.int .i32 65533] w fun e w'=>e= .returned (.int .i64 (-1))∧Below w.heap.size w w':=by
 have mixed:=L.mixed;have t3:=L.t3;have a3:=L.a3;have z3:=L.z3;have v3:=L.v3;have t4:=L.t4;have a4:=L.a4;have z4:=L.z4;have v4:=L.v4;have t5:=L.t5;have a5:=L.a5;have z5:=L.z5;have v5:=L.v5;have t9:=L.t9;have a9:=L.a9;have z9:=L.z9;have v9:=L.v9;have t21:=L.t21;have a21:=L.a21;have z21:=L.z21;have v21:=L.v21;have hb:Below w.heap.size w (w.iter ⟨#[10,13]⟩ 2):=(Below.refl _ w).alloc (Vn _) _;have n0:=fun ty=>run_next_ascii (P:=P) w ⟨#[10,13]⟩ 0 ty (by decide) (by decide);have n1:=fun ty=>run_next_ascii (P:=P) w ⟨#[10,13]⟩ 1 ty (by decide) (by decide);have n2:=fun ty=>run_next_end (P:=P) w ⟨#[10,13]⟩ 2 ty (by decide);have s0:((⟨#[10,13]⟩:ByteArray)[0]'(by decide)).toNat=10:=rfl;have s1:((⟨#[10,13]⟩:ByteArray)[1]'(by decide)).toNat=13:=rfl;rw [s0] at n0;rw [s1] at n1
 go_enter L.f152,Body.n152_ntmps ρ
 go_wp2;refine wp_loop_rounds 3 ?_;rw [rounds_succ];go_wp2;rw [rounds_succ];go_wp2;rw [rounds_succ];go_wp2
 all_goals (first | (simp only [Exit.noGoto_ret];go_ret;exact ⟨rfl,hb⟩) | (go_simp;go_ret;exact ⟨rfl,hb⟩) | skip)
def Co (r:Int):Int:=if r=10 then 0 else if r=13 then 1 else -1
theorem Any.A0 (L:Lays.n152 P ρ) (r:Int) (w:World) (h0:0≤r) (h1:r≤1114111) (hv:r < 55296∨57343 < r):
  Calls P (ρ.f 152) #[.string ⟨#[10,13]⟩,.int .i32 r] w fun e w'=>e= .returned (.int .i64 (Co r))∧Below w.heap.size w w':=by
 by_cases h2:r < 128
 ·refine (Any.strings_IndexRune_ascii L _ r w h0 h2).mono ?_;rintro e w' ⟨rfl,rfl⟩;refine ⟨?_,Below.refl _ _⟩;have hk: ∀n:Nat,n < 128→Lib.indexByte [10,13] n.toUInt8=Co (n:Int):=by decide
  have:=hk r.toNat (by omega);rw [show ((r.toNat:Nat):Int)=r from Int.toNat_of_nonneg h0] at this;exact Wb _ (Wb _ this)
 have hn:Co r= -1:=by unfold Co;rw [if_neg (by omega),if_neg (by omega)]
 rw [hn];by_cases h3:r < 2048
 ·exact Any.Ju L r w (by omega) h3
 by_cases h4:r=65533
 ·subst h4;exact Any.Ja L w
 ·refine (Any.HY L r w (by omega) h1 hv h4).mono ?_;rintro e w' ⟨h,rfl⟩;exact ⟨h,Below.refl _ _⟩
theorem Ib (s:ByteArray) (pos:Nat) (h:pos < s.size) (x:UInt8) (hx:s.data.toList[pos]? =some x) (ha:128≤x.toNat):
  128≤(Utf8.decode s pos).1∧(Utf8.decode s pos).1≤1114111∧((Utf8.decode s pos).1 < 55296∨57343 < (Utf8.decode s pos).1)∧1≤(Utf8.decode s pos).2∧pos+(Utf8.decode s pos).2≤s.size∧
   ∀(j:Nat) b,pos≤j→j < pos+(Utf8.decode s pos).2→s.data.toList[j]? =some b→128≤b.toNat:=by
 have hl:s.data.toList.length=s.size:=(Lib.size_eq s).symm;have g0:s.data.toList.getD pos 0=x:=by simp [List.getD,hx]
 have hc:=decodeN_conts (s.data.toList.length - pos) (s.data.toList.getD pos 0).toNat (s.data.toList.getD (pos+1) 0).toNat (s.data.toList.getD (pos+2) 0).toNat (s.data.toList.getD (pos+3) 0).toNat
 have hs:=decodeN_shape (s.data.toList.length - pos) (s.data.toList.getD pos 0).toNat (s.data.toList.getD (pos+1) 0).toNat (s.data.toList.getD (pos+2) 0).toNat (s.data.toList.getD (pos+3) 0).toNat
 have hw:=width_pos s pos;have hr:=rune_le s pos;have hge: ∀j b,s.data.toList[j]? =some b→s.data.toList.getD j 0=b:=fun j b h=>by simp [List.getD,h]
 rw [← decode_N] at hc hs;rw [g0] at hs;obtain ⟨c2,c3,c4,c5⟩:=hc;refine ⟨?_,hr, ?_,hw,by omega, ?_⟩
 ·rcases hs with ⟨h1,_⟩ | ⟨_,_,_,h1,h2⟩ | ⟨_,_,_,_,h1,_,h2⟩ | ⟨_,_,_,_,_,h1,_,h2⟩ | h2
  ·omega
  all_goals (rw [h2];simp only;omega)
 ·rcases hs with ⟨h1,_⟩ | ⟨_,_,_,h1,h2⟩ | ⟨_,_,_,_,h1,_,h2⟩ | ⟨_,_,_,_,_,h1,_,h2⟩ | h2
  ·omega
  all_goals (rw [h2];simp only;omega)
 ·intro j b h1 h2 hb;have hgb:=hge j b hb;obtain ⟨d,rfl⟩: ∃d,j=pos+d:=⟨j - pos,by omega⟩;have:d=0∨d=1∨d=2∨d=3:=by omega
  rcases this with rfl | rfl | rfl | rfl
  ·rw [Wk,hx] at hb;cases hb;exact ha
  ·have:=(c2 (by omega)).1;rw [hgb] at this;omega
  ·have:=(c3 (by omega)).1;rw [hgb] at this;omega
  ·have:=(c4 (by omega)).1;rw [hgb] at this;omega
theorem Jb {s:List UInt8} {i n:Nat} (h:Lib.NoAny s [10,13] i) (hn: ∀(j:Nat) b,i≤j→j < i+n→s[j]? =some b→128≤b.toNat):Lib.NoAny s [10,13] (i+n):=by
 intro j b hj hb;by_cases hji:j < i
 ·exact h j b hji hb
 ·have:=hn j b (by omega) hj hb;have h1:b≠10:=by rintro rfl;exact absurd this (by decide)
  have h2:b≠13:=by rintro rfl;exact absurd this (by decide)
  simp [h1,h2]
set_option maxHeartbeats 8000000 in
set_option maxRecDepth 1000000 in
theorem Any.Fo (L:Lays.n153 P ρ) (s:ByteArray) (w:World) (h8:s.size≤8):
  Calls P (ρ.f 153) #[.string s,.string ⟨#[10,13]⟩] w fun e w'=>e= .returned (.int .i64 (Lib.indexAny s.data.toList [10,13]))∧Below w.heap.size w w':=by
 have h8z:decide ((8:Int) < (s.size:Int))=false:=WD (by omega);have t3:=L.t3;have a3:=L.a3;have z3:=L.z3;have v3:=L.v3;have t4:=L.t4;have a4:=L.a4;have z4:=L.z4;have v4:=L.v4;have t5:=L.t5;have a5:=L.a5;have z5:=L.z5;have v5:=L.v5;have t9:=L.t9;have a9:=L.a9;have z9:=L.z9;have v9:=L.v9;have t21:=L.t21;have a21:=L.a21;have z21:=L.z21;have v21:=L.v21;have e152: ∀args w,(callFunc (ρ.f 152) args).run P w= .ok (.enter (ρ.f 152) args) w:=enters_of L.f152 (by kernel_rfl) rfl;have e226: ∀args w,(callFunc (ρ.f 226) args).run P w= .ok (.enter (ρ.f 226) args) w:=enters_of L.f226 (by kernel_rfl) rfl
 go_enter L.f153,Body.n153_ntmps ρ
 go_wp2_with (go_at_fn (ρ.f 226);refine (Any.strings_shouldUseASCIISet {L with} _ _).mono ?_;rintro e w' ⟨rfl,hw⟩;rw [hw,h8z])
 go_loopg [9,10] s.size (fun g _ _ wx=> ∃i:Nat,i≤s.size∧s.size≤i+g∧wx.heap[w.heap.size]? =some (.stringIter s i)∧Below w.heap.size w wx∧Lib.NoAny s.data.toList [10,13] i)
 case atStart=>exact ⟨0,by omega,by omega,World.iter_heap w s 0,(Below.refl _ w).alloc (Vn _) _,Lib.NoAny.zero _ _⟩
 case round=>
  obtain ⟨i,hi,hig,hit,hbw,hno⟩:=hrel;have HN:Aside (Lib.NoAny s.data.toList [10,13] i):=hno;clear hno;by_cases hlt:i < s.size
  ·obtain ⟨g,rfl⟩: ∃g,gk=g+1:=⟨gk - 1,by omega⟩;have hlw:w.heap.size < wr.heap.size:=(Xh.1 hit).1;have hnx: ∀ty,(Instr.next (.pointer (some ⟨w.heap.size,0,none⟩)) true ty).run P wr= _:=fun ty=>Lib.run_next_any_at wr w.heap.size s i ty hit hlt;obtain ⟨x,hx⟩: ∃x:UInt8,s[i]'hlt=x:=⟨_,rfl⟩;have hxl:s.data.toList[i]? =some x:=by rw [← hx];exact Lib.data_getElem? s i hlt
   have hdec: ∃R K:Nat,(Utf8.decode s i).1=R∧(Utf8.decode s i).2=K∧R≤1114111∧(R < 55296∨57343 < R)∧1≤K∧i+K≤s.size∧
     ((Co (R:Int)= -1∧Lib.NoAny s.data.toList [10,13] (i+K))∨(0≤Co (R:Int)∧Lib.indexAny s.data.toList [10,13]=(i:Int))):=by
    by_cases h128:x.toNat < 128
    ·refine ⟨x.toNat,1, ?_, ?_,by omega,by omega,by omega,by omega, ?_⟩
     ·rw [decode_ascii s i hlt (by rw [hx];exact h128),hx]
     ·rw [decode_ascii s i hlt (by rw [hx];exact h128)]
     ·by_cases hin:([10,13]:List UInt8).contains x=true
      ·refine .inr ⟨?_,Lib.indexAny_hit HN.out hxl hin⟩;have:x=10∨x=13:=by simpa using hin
       rcases this with rfl | rfl <;> decide
      ·have hin':([10,13]:List UInt8).contains x=false:=by simpa using hin
       refine .inl ⟨?_,HN.out.succ hxl hin'⟩;have h1:x≠10∧x≠13:=by simpa using hin'
       have h2:(x.toNat:Int)≠10:=fun e=>h1.1 (WC.1 (by show x.toNat=10;omega));have h3:(x.toNat:Int)≠13:=fun e=>h1.2 (WC.1 (by show x.toNat=13;omega));unfold Co;rw [if_neg h2,if_neg h3]
    ·obtain ⟨d1,d2,d3,d4,d5,d6⟩:=Ib s i hlt x hxl (by omega);refine ⟨_,_,rfl,rfl,d2,d3,d4,d5,.inl ⟨?_,Jb HN.out d6⟩⟩;unfold Co;rw [if_neg (by omega),if_neg (by omega)]
   obtain ⟨R,K,hR,hK,hr1,hr2,hk1,hk2,hdec⟩:=hdec;rw [hR,hK] at hnx;have hbw2:=Lib.below_iterAt hbw (k:=w.heap.size) (Vn _) s (i+K);have hit2:=Lib.iterAt_heap wr w.heap.size s i (i+K) hit;have hsz2:=Lib.iterAt_size wr w.heap.size s (i+K);clear hxl hx;rcases hdec with ⟨hnl,HN2⟩ | ⟨hnl,hans⟩
   ·have hz:¬ ((0:Int)≤Co (R:Int)):=by omega
    clear hnl;have HN3:Aside (Lib.NoAny s.data.toList [10,13] (i+K)):=HN2;clear HN2
    go_wp2_with (go_at_fn (ρ.f 152);refine (Any.A0 {L with} _ _ (by omega) (by omega) (by omega)).mono ?_;rintro e w' ⟨rfl,hw⟩)
    go_roundg g
    case measure=>omega
    case rel=>exact ⟨i+K,by omega,by omega,(hw.block _ (by omega)).trans hit2,hbw2.trans (hw.mono (by omega)),HN3.out⟩
   ·have HA:Aside (Lib.indexAny s.data.toList [10,13]=(i:Int)):=hans;clear hans
    go_wp2_with (go_at_fn (ρ.f 152);refine (Any.A0 {L with} _ _ (by omega) (by omega) (by omega)).mono ?_;rintro e w' ⟨rfl,hw⟩)
    go_ret;exact ⟨by rw [HA.out];rfl,hbw2.trans (hw.mono (by omega))⟩
  ·obtain rfl:i=s.size:=by omega
   have hnx:=fun ty=>Lib.run_next_end_at (P:=P) wr w.heap.size s s.size ty hit hlt;go_wp2;go_ret;exact ⟨by rw [Lib.indexAny_none (by rw [← Lib.size_eq];exact HN.out)];rfl,hbw⟩
theorem tj: ∀s:List UInt8,(decide ((0:Int)≤Lib.indexAny s [10,13]))=s.any fun c=>c==10||c==13
 | []=>rfl
 | b::l=>by
  have ih:=tj l;have hg:=Lib.indexAny_ge [10,13] l;rw [WH];unfold Lib.indexAny;by_cases hb:([10,13]:List UInt8).contains b=true
  ·have:(b==10||b==13)=true:=by simpa using hb
   rw [if_pos hb,this];rfl
  ·have h2:(b==10||b==13)=false:=by
    cases h:(b==10||b==13) with
    | false=>rfl
    | true=>exact absurd (by simpa using h) hb
   rw [if_neg hb,h2,Wu, ← ih];by_cases h3:Lib.indexAny l [10,13]= -1
   ·rw [h3];rfl
   ·rw [if_neg (by simpa using h3)];exact decide_eq_decide.2 (by omega)
set_option maxHeartbeats 1000000 in
theorem Any.N9 (L:Lays.n150 P ρ) (h116:(P.info? (ρ.t 116)).map (fun i=>(i.zero,i.size))=some (some (.agg (Array.replicate 256 (.bool false))),256)) (s:ByteArray) (w:World) (hs:s.size < 4294967281):
  Calls P (ρ.f 150) #[.string s,.string ⟨#[10,13]⟩] w fun e w'=>e= .returned (.bool (s.data.toList.any fun c=>c==10||c==13))∧Below w.heap.size w w':=by
 rw [← tj];have c:Calls P (ρ.f 153) #[.string s,.string ⟨#[10,13]⟩] w fun e w'=>e= .returned (.int .i64 (Lib.indexAny s.data.toList [10,13]))∧Below w.heap.size w w':=by
  by_cases h8:s.size≤8
  ·exact Any.Fo {L with} s w h8
  ·refine (Any.strings_IndexAny_long {L with} (zero_of_info h116).1 (zero_of_info h116).2 s ⟨#[10,13]⟩ w (by decide) (by omega) hs (by decide) ?_).mono fun e w' ⟨h1,h2⟩=>⟨h1, ?_⟩
   ·intro j b h
    match j,h with
    | 0,h=>cases h;decide
    | 1,h=>cases h;decide
    | j+2,h=>cases h
   ·rw [h2];exact ((Below.refl _ _).alloc (Vn _) _).alloc (by simp) _
 have t3:=L.t3;have a3:=L.a3;have z3:=L.z3;have v3:=L.v3;have t4:=L.t4;have a4:=L.a4;have z4:=L.z4;have v4:=L.v4;have t9:=L.t9;have a9:=L.a9;have z9:=L.z9;have v9:=L.v9;have e153: ∀args w,(callFunc (ρ.f 153) args).run P w= .ok (.enter (ρ.f 153) args) w:=enters_of L.f153 (by kernel_rfl) rfl
 go_enter L.f150,Body.n150_ntmps ρ
 go_wp2_with (go_at_fn (ρ.f 153);refine c.mono ?_;rintro e w' ⟨rfl,hw⟩)
 go_ret;exact ⟨rfl,hw⟩
end Go.Proofs
namespace Go.VM
open Go.RowKit
section
variable {P:Program} {T:TT} {G:Nat→Option (List AV)}
def mu:List AV→cM AV
 | [.str s,.str c]=>match s.length.blt 4294967281&&c.isEqv [10,13] (fun a b=>a.toNat.beq b.toNat) with
  | true=> .ok (.bool (s.any fun c=>c==10||c==13))
  | false=> .error "ContainsAny: others than line ends"
 | _=> .error "ContainsAny"
theorem I0 {f:FuncId} (hcall: ∀args w,(callFunc f args).run P w= .ok (.enter f args) w)
  (h: ∀(s:ByteArray) (w:World),s.size < 4294967281→Calls P f #[.string s,.string ⟨#[10,13]⟩] w fun e w'=>e= .returned (.bool (s.data.toList.any fun c=>c==10||c==13))∧Below w.heap.size w w'):cR P T G f (.lib mu):=by
 refine km hcall fun args v hF A g st w xs _ hx _=> ?_;unfold mu at hF;split at hF
 ·rename_i s c;split at hF
  ·rename_i hk;cases hF;simp only [Vl] at hk;obtain ⟨x,y,rfl,h1,h2⟩:=Sa hx;have hc:c=[10,13]:=by
    have:=hk.2
    match c,this with
    | [],h=>cases h
    | [_],h=>simp [List.isEqv] at h
    | [a,b],h=>
     simp only [List.isEqv,Vl,Wp] at h;rw [WC.1 (Vq h.1),WC.1 (Vq h.2)]
    | _:: _:: _:: _,h=>simp [List.isEqv] at h
   rw [lY h1,lY h2,hc];refine (h ⟨s.toArray⟩ w (by simpa [ByteArray.size] using cH.1 hk.1)).mono ?_;rintro e w' ⟨rfl,hB⟩;exact ⟨⟨_,rfl,by simp only [R]⟩,hB⟩
  ·cases hF
 ·cases hF
end
end Go.VM
