/-
  A part of the proof.
-/
import Derived.Test.YtkpeicabocpbkaaGreatDoorVmBI
import Derived.Test.YtkpeicabocpbkaaGreatDoorVmBD
import Derived.Lib.OthersKept
import Derived.Lib.SpaceUEq
import Derived.Lib.MapLaws
import Derived.Shelf.Strings.IndexAny
set_option linter.all false
namespace Go.Proofs
open Go.Shelf Go.RowKit Go.Lib
variable {P:Program} {ρ:Ren}
set_option maxHeartbeats 4000000 in
set_option maxRecDepth 1000000 in
theorem Any.KR (L:Lays.n152 P ρ) (w:World):
  Calls P (ρ.f 152) #[.string ⟨#[10,13]⟩,.int .i32 65533] w fun e w'=>e= .returned (.int .i64 (-1))/\Below w.heap.size w w':=by
 have mixed:=L.mixed;have t3:=L.t3;have a3:=L.a3;have z3:=L.z3;have v3:=L.v3;have t4:=L.t4;have a4:=L.a4;have z4:=L.z4;have v4:=L.v4;have t5:=L.t5;have a5:=L.a5;have z5:=L.z5;have v5:=L.v5;have t9:=L.t9;have a9:=L.a9;have z9:=L.z9;have v9:=L.v9;have t21:=L.t21;have a21:=L.a21;have z21:=L.z21;have v21:=L.v21;have a:Below w.heap.size w (w.iter ⟨#[10,13]⟩ 2):=(Below.refl _ w).alloc (aah _) _;have b:=fun ty=>run_next_ascii (P:=P) w ⟨#[10,13]⟩ 0 ty (by decide) (by decide);have c:=fun ty=>run_next_ascii (P:=P) w ⟨#[10,13]⟩ 1 ty (by decide) (by decide);have g:=fun ty=>run_next_end (P:=P) w ⟨#[10,13]⟩ 2 ty (by decide);have s0:((⟨#[10,13]⟩:ByteArray)[0]'(by decide)).toNat=10:=rfl;have d:((⟨#[10,13]⟩:ByteArray)[1]'(by decide)).toNat=13:=rfl;rw [s0] at b;rw [d] at c
 go_enter L.f152,Body.n152_ntmps ρ
 go_wp2;refine wp_loop_rounds 3 ?_;rw [rounds_succ];go_wp2;rw [rounds_succ];go_wp2;rw [rounds_succ];go_wp2
 all_goals (first | (simp only [Exit.noGoto_ret];go_ret;exact ⟨rfl,a⟩) | (go_simp;go_ret;exact ⟨rfl,a⟩) | skip)
def ED (r:Int):Int:=if r=10 then 0 else if r=13 then 1 else -1
theorem Any.CR (L:Lays.n152 P ρ) (r:Int) (w:World) (h0:0<=r) (h1:r<=1114111) (a:r < 55296\/57343 < r):
  Calls P (ρ.f 152) #[.string ⟨#[10,13]⟩,.int .i32 r] w fun e w'=>e= .returned (.int .i64 (ED r))/\Below w.heap.size w w':=by
 by_cases b:r < 128
 .refine (Any.strings_IndexRune_ascii L _ r w h0 b).mono ?_;rintro e w' ⟨rfl,rfl⟩;refine ⟨?_,Below.refl _ _⟩;have c: ∀n:Nat,n < 128->Lib.indexByte [10,13] n.toUInt8=ED (n:Int):=by decide
  have:=c r.toNat (by omega);rw [show ((r.toNat:Nat):Int)=r from Int.toNat_of_nonneg h0] at this;exact aaY _ (aaY _ this)
 have hn:ED r= -1:=by unfold ED;rw [if_neg (by omega),if_neg (by omega)]
 rw [hn];by_cases d:r < 2048
 .exact Any.Lh L r w (by omega) d
 by_cases h4:r=65533
 .subst h4;exact Any.KR L w
 .refine (Any.KG L r w (by omega) h1 a h4).mono ?_;rintro e w' ⟨h,rfl⟩;exact ⟨h,Below.refl _ _⟩
theorem KE (s:ByteArray) (pos:Nat) (h:pos < s.size) (x:UInt8) (hx:s.data.toList[pos]? =some x) (i:128<=x.toNat):
  128<=(Utf8.decode s pos).1/\(Utf8.decode s pos).1<=1114111/\((Utf8.decode s pos).1 < 55296\/57343 < (Utf8.decode s pos).1)/\1<=(Utf8.decode s pos).2/\pos+(Utf8.decode s pos).2<=s.size/\
   ∀(j:Nat) b,pos<=j->j < pos+(Utf8.decode s pos).2->s.data.toList[j]? =some b->128<=b.toNat:=by
 have hl:s.data.toList.length=s.size:=(Lib.size_eq s).symm;have k:s.data.toList.getD pos 0=x:=by simp [List.getD,hx]
 have g:=decodeN_conts (s.data.toList.length - pos) (s.data.toList.getD pos 0).toNat (s.data.toList.getD (pos+1) 0).toNat (s.data.toList.getD (pos+2) 0).toNat (s.data.toList.getD (pos+3) 0).toNat
 have hs:=decodeN_shape (s.data.toList.length - pos) (s.data.toList.getD pos 0).toNat (s.data.toList.getD (pos+1) 0).toNat (s.data.toList.getD (pos+2) 0).toNat (s.data.toList.getD (pos+3) 0).toNat
 have l:=width_pos s pos;have m:=rune_le s pos;have e: ∀j b,s.data.toList[j]? =some b->s.data.toList.getD j 0=b:=fun j b h=>by simp [List.getD,h]
 rw [<- decode_N] at g hs;rw [k] at hs;obtain ⟨n,o,p,q⟩:=g;refine ⟨?_,m, ?_,l,by omega, ?_⟩
 .rcases hs with ⟨h1,_⟩ | ⟨_,_,_,h1,a⟩ | ⟨_,_,_,_,h1,_,a⟩ | ⟨_,_,_,_,_,h1,_,a⟩ | a
  .omega
  all_goals (rw [a];simp only;omega)
 .rcases hs with ⟨h1,_⟩ | ⟨_,_,_,h1,a⟩ | ⟨_,_,_,_,h1,_,a⟩ | ⟨_,_,_,_,_,h1,_,a⟩ | a
  .omega
  all_goals (rw [a];simp only;omega)
 .intro j b h1 a f;have c:=e j b f;obtain ⟨d,rfl⟩: ∃d,j=pos+d:=⟨j - pos,by omega⟩;have:d=0\/d=1\/d=2\/d=3:=by omega
  rcases this with rfl | rfl | rfl | rfl
  .rw [abq,hx] at f;cases f;exact i
  .have:=(n (by omega)).1;rw [c] at this;omega
  .have:=(o (by omega)).1;rw [c] at this;omega
  .have:=(p (by omega)).1;rw [c] at this;omega
theorem Mu {s:LB} {i n:Nat} (h:Lib.NoAny s [10,13] i) (hn: ∀(j:Nat) b,i<=j->j < i+n->s[j]? =some b->128<=b.toNat):Lib.NoAny s [10,13] (i+n):=by
 intro j b d c;by_cases a:j < i
 .exact h j b a c
 .have:=hn j b (by omega) d c;have h1:b≠10:=by rintro rfl;exact absurd this (by decide)
  have e:b≠13:=by rintro rfl;exact absurd this (by decide)
  simp [h1,e]
set_option maxHeartbeats 8000000 in
set_option maxRecDepth 1000000 in
theorem Any.Iu (L:Lays.n153 P ρ) (s:ByteArray) (w:World) (F:s.size<=8):
  Calls P (ρ.f 153) #[.string s,.string ⟨#[10,13]⟩] w fun e w'=>e= .returned (.int .i64 (Lib.indexAny s.data.toList [10,13]))/\Below w.heap.size w w':=by
 have h8z:decide ((8:Int) < (s.size:Int))=false:=abe (by omega);have t3:=L.t3;have a3:=L.a3;have z3:=L.z3;have v3:=L.v3;have t4:=L.t4;have a4:=L.a4;have z4:=L.z4;have v4:=L.v4;have t5:=L.t5;have a5:=L.a5;have z5:=L.z5;have v5:=L.v5;have t9:=L.t9;have a9:=L.a9;have z9:=L.z9;have v9:=L.v9;have t21:=L.t21;have a21:=L.a21;have z21:=L.z21;have v21:=L.v21;have e152: ∀args w,(callFunc (ρ.f 152) args).run P w= .ok (.enter (ρ.f 152) args) w:=enters_of L.f152 (by kernel_rfl) rfl;have e226: ∀args w,(callFunc (ρ.f 226) args).run P w= .ok (.enter (ρ.f 226) args) w:=enters_of L.f226 (by kernel_rfl) rfl
 go_enter L.f153,Body.n153_ntmps ρ
 go_wp2_with (go_at_fn (ρ.f 226);refine (Any.strings_shouldUseASCIISet {L with} _ _).mono ?_;rintro e w' ⟨rfl,l⟩;rw [l,h8z])
 go_loopg [9,10] s.size (fun g _ _ wx=> ∃i:Nat,i<=s.size/\s.size<=i+g/\wx.heap[w.heap.size]? =some (.stringIter s i)/\Below w.heap.size w wx/\Lib.NoAny s.data.toList [10,13] i)
 case atStart=>exact ⟨0,by omega,by omega,World.iter_heap w s 0,(Below.refl _ w).alloc (aah _) _,Lib.NoAny.zero _ _⟩
 case round=>
  obtain ⟨i,hi,t,b,m,n⟩:=hrel;have HN:Aside (Lib.NoAny s.data.toList [10,13] i):=n;clear n;by_cases a:i < s.size
  .obtain ⟨g,rfl⟩: ∃g,gk=g+1:=⟨gk - 1,by omega⟩;have u:w.heap.size < wr.heap.size:=(acm.1 b).1;have o: ∀ty,(Instr.next (.pointer (some ⟨w.heap.size,0,none⟩)) true ty).run P wr= _:=fun ty=>Lib.run_next_any_at wr w.heap.size s i ty b a;obtain ⟨x,hx⟩: ∃x:UInt8,s[i]'a=x:=⟨_,rfl⟩;have c:s.data.toList[i]? =some x:=by rw [<- hx];exact Lib.data_getElem? s i a
   have hdec: ∃R K:Nat,(Utf8.decode s i).1=R/\(Utf8.decode s i).2=K/\R<=1114111/\(R < 55296\/57343 < R)/\1<=K/\i+K<=s.size/\
     ((ED (R:Int)= -1/\Lib.NoAny s.data.toList [10,13] (i+K))\/(0<=ED (R:Int)/\Lib.indexAny s.data.toList [10,13]=(i:Int))):=by
    by_cases h128:x.toNat < 128
    .refine ⟨x.toNat,1, ?_, ?_,by omega,by omega,by omega,by omega, ?_⟩
     .rw [decode_ascii s i a (by rw [hx];exact h128),hx]
     .rw [decode_ascii s i a (by rw [hx];exact h128)]
     .by_cases j:([10,13]:LB).contains x=true
      .refine .inr ⟨?_,Lib.indexAny_hit HN.out c j⟩;have:x=10\/x=13:=by simpa using j
       rcases this with rfl | rfl <;> decide
      .have d:([10,13]:LB).contains x=false:=by simpa using j
       refine .inl ⟨?_,HN.out.succ c d⟩;have h1:x≠10/\x≠13:=by simpa using d
       have v:(x.toNat:Int)≠10:=fun e=>h1.1 (abE.1 (by show x.toNat=10;omega));have y:(x.toNat:Int)≠13:=fun e=>h1.2 (abE.1 (by show x.toNat=13;omega));unfold ED;rw [if_neg v,if_neg y]
    .obtain ⟨d1,d2,d3,d4,z,A⟩:=KE s i a x c (by omega);refine ⟨_,_,rfl,rfl,d2,d3,d4,z,.inl ⟨?_,Mu HN.out A⟩⟩;unfold ED;rw [if_neg (by omega),if_neg (by omega)]
   obtain ⟨R,K,hR,hK,B,C,D,E,hdec⟩:=hdec;rw [hR,hK] at o;have h:=Lib.below_iterAt m (k:=w.heap.size) (aah _) s (i+K);have p:=Lib.iterAt_heap wr w.heap.size s i (i+K) b;have r:=Lib.iterAt_size wr w.heap.size s (i+K);clear c hx;rcases hdec with ⟨q,HN2⟩ | ⟨q,hans⟩
   .have G:¬ ((0:Int)<=ED (R:Int)):=by omega
    clear q;have HN3:Aside (Lib.NoAny s.data.toList [10,13] (i+K)):=HN2;clear HN2
    go_wp2_with (go_at_fn (ρ.f 152);refine (Any.CR {L with} _ _ (by omega) (by omega) (by omega)).mono ?_;rintro e w' ⟨rfl,l⟩)
    go_roundg g
    case measure=>omega
    case rel=>exact ⟨i+K,by omega,by omega,(l.block _ (by omega)).trans p,h.trans (l.mono (by omega)),HN3.out⟩
   .have HA:Aside (Lib.indexAny s.data.toList [10,13]=(i:Int)):=hans;clear hans
    go_wp2_with (go_at_fn (ρ.f 152);refine (Any.CR {L with} _ _ (by omega) (by omega) (by omega)).mono ?_;rintro e w' ⟨rfl,l⟩)
    go_ret;exact ⟨by rw [HA.out];rfl,h.trans (l.mono (by omega))⟩
  .obtain rfl:i=s.size:=by omega
   have o:=fun ty=>Lib.run_next_end_at (P:=P) wr w.heap.size s s.size ty b a;go_wp2;go_ret;exact ⟨by rw [Lib.indexAny_none (by rw [<- Lib.size_eq];exact HN.out)];rfl,m⟩
theorem tZ: ∀s:LB,(decide ((0:Int)<=Lib.indexAny s [10,13]))=s.any fun c=>c==10||c==13
 | []=>rfl
 | b::l=>by
  have ih:=tZ l;have f:=Lib.indexAny_ge [10,13] l;rw [abr];unfold Lib.indexAny;by_cases a:([10,13]:LB).contains b=true
  .have:(b==10||b==13)=true:=by simpa using a
   rw [if_pos a,this];rfl
  .have e:(b==10||b==13)=false:=by
    cases h:(b==10||b==13) with
    | false=>rfl
    | true=>exact absurd (by simpa using h) a
   rw [if_neg a,e,aaV, <- ih];by_cases d:Lib.indexAny l [10,13]= -1
   .rw [d];rfl
   .rw [if_neg (by simpa using d)];exact decide_eq_decide.2 (by omega)
set_option maxHeartbeats 1000000 in
theorem Any.Qg (L:Lays.n150 P ρ) (h116:(P.info? (ρ.t 116)).map (fun i=>(i.zero,i.size))=some (some (.agg (Array.replicate 256 (.bool false))),256)) (s:ByteArray) (w:World) (hs:s.size < 4294967281):
  Calls P (ρ.f 150) #[.string s,.string ⟨#[10,13]⟩] w fun e w'=>e= .returned (.bool (s.data.toList.any fun c=>c==10||c==13))/\Below w.heap.size w w':=by
 rw [<- tZ];have c:Calls P (ρ.f 153) #[.string s,.string ⟨#[10,13]⟩] w fun e w'=>e= .returned (.int .i64 (Lib.indexAny s.data.toList [10,13]))/\Below w.heap.size w w':=by
  by_cases a:s.size<=8
  .exact Any.Iu {L with} s w a
  .refine (Any.strings_IndexAny_long {L with} (zero_of_info h116).1 (zero_of_info h116).2 s ⟨#[10,13]⟩ w (by decide) (by omega) hs (by decide) ?_).mono fun e w' ⟨h1,d⟩=>⟨h1, ?_⟩
   .intro j b h
    match j,h with
    | 0,h=>cases h;decide
    | 1,h=>cases h;decide
    | j+2,h=>cases h
   .rw [d];exact ((Below.refl _ _).alloc (aah _) _).alloc (by simp) _
 have t3:=L.t3;have a3:=L.a3;have z3:=L.z3;have v3:=L.v3;have t4:=L.t4;have a4:=L.a4;have z4:=L.z4;have v4:=L.v4;have t9:=L.t9;have a9:=L.a9;have z9:=L.z9;have v9:=L.v9;have e153: ∀args w,(callFunc (ρ.f 153) args).run P w= .ok (.enter (ρ.f 153) args) w:=enters_of L.f153 (by kernel_rfl) rfl
 go_enter L.f150,Body.n150_ntmps ρ
 go_wp2_with (go_at_fn (ρ.f 153);refine c.mono ?_;rintro e w' ⟨rfl,g⟩)
 go_ret;exact ⟨rfl,g⟩
end Go.Proofs
namespace Go.VM
open Go.RowKit
section
variable {P:Program} {T:TT} {G:Nat->Oq LA}
def nk:LA->cY AV
 | [.str s,.str c]=>match s.length.blt 4294967281&&c.isEqv [10,13] (fun a b=>a.toNat.beq b.toNat) with
  | true=> .ok (.bool (s.any fun c=>c==10||c==13))
  | false=> .error "ContainsAny: others than line ends"
 | _=> .error "ContainsAny"
theorem LX {f:FuncId} (d: ∀args w,(callFunc f args).run P w= .ok (.enter f args) w)
  (h: ∀(s:ByteArray) (w:World),s.size < 4294967281->Calls P f #[.string s,.string ⟨#[10,13]⟩] w fun e w'=>e= .returned (.bool (s.data.toList.any fun c=>c==10||c==13))/\Below w.heap.size w w'):dD P T G f (.lib nk):=by
 refine lg d fun args v i A g st w xs _ hx _=> ?_;unfold nk at i;split at i
 .rename_i s c;split at i
  .rename_i j;cases i;simp only [aaf] at j;obtain ⟨x,y,rfl,h1,k⟩:=Xz hx;have l:c=[10,13]:=by
    have:=j.2
    match c,this with
    | [],h=>cases h
    | [_],h=>simp [List.isEqv] at h
    | [a,b],h=>
     simp only [List.isEqv,aaf,abv] at h;rw [abE.1 (aan h.1),abE.1 (aan h.2)]
    | _:: _:: _:: _,h=>simp [List.isEqv] at h
   rw [mB h1,mB k,l];refine (h ⟨s.toArray⟩ w (by simpa [ByteArray.size] using cS.1 j.1)).mono ?_;rintro e w' ⟨rfl,m⟩;exact ⟨⟨_,rfl,by simp only [R]⟩,m⟩
  .cases i
 .cases i
end
end Go.VM
