/-
  A part of the proof.
-/
import Derived.Test.YtpinfliihpdjcaaGreatDoorVmBE
import Derived.Shelf.Unicode.DecodeSlow
import Derived.Lib.TrimUEq
set_option linter.all false
namespace Go.VM
open Go.RowKit
section
variable {P:Program} {T:TT} {G:Nat->Option (List AV)} {A:Nat->Prop} {g:Gh} {st:St} {w:World}
theorem lS {l:List AV} {b:Nat}: ∀{o:Nat},ig g l b o-> ∀{j:Nat} {k:IntKind} {n:Int},l[j]? =some (.int k n)->g.F b (o+j)=some (.int k n):=by
 induction l with
 | nil=>intro o _ j k n h;simp at h
 | cons v l ih=>
  intro o h j k n a;simp only [ig] at h;obtain ⟨⟨x,h1,_,c⟩,d⟩:=h;cases j with
  | zero=>
   simp at a;subst a;rw [HL c] at h1;exact h1
  | succ j=>
   have:=ih d (j:=j) (by simpa using a);rw [<- this];congr 1;omega
theorem qh {g3 g4:Nat} {c3 b:List AV} (k:G g3=some c3) (h4:G g4=some b) (l:c3=(List.range 256).map fun c=>AV.int .u8 (Lib.firstT c))
  (m:b=(List.range 16).flatMap fun i=>[AV.int .u8 (Lib.accLo i),AV.int .u8 (Lib.accHi i)]) (hG:GR g G) (hi:Inv T A g st w):Lib.Utf8Tabs g3 g4 w:=by
 have n:=(hG _ _ k).2.1;have e:=(hG _ _ h4).2.1;constructor
 .intro c o;have:c3[c]? =some (.int .u8 (Lib.firstT c)):=by rw [l];simp [o]
  have:=lS n this;rw [N5] at this;exact hi.F _ _ _ this
 .intro i d;have a: ∀j,j < 2->b[2 * i+j]? =[AV.int .u8 (Lib.accLo i),AV.int .u8 (Lib.accHi i)][j]? :=by
   have: ∀i:Fin 16,∀j:Fin 2,((List.range 16).flatMap fun i=>[(Lib.accLo i,true),(Lib.accHi i,false)])[2 * i.val+j.val]? =[(Lib.accLo i.val,true),(Lib.accHi i.val,false)][j.val]? :=by decide
   intro j q;have:=OC (Option.map fun p:Nat×Bool=>AV.int .u8 (p.1:Int)) (this ⟨i,d⟩ ⟨j,q⟩);rw [<- OM, <- OM,List.map_flatMap] at this;rw [m];simpa using this
  have f:=a 0 (by omega);have h:=a 1 (by omega);simp only [PD,PE,Ow] at f h;have b0:=lS e f;have b1:=lS e h;rw [N5] at b0 b1;exact ⟨hi.F _ _ _ b0,hi.F _ _ _ b1⟩
theorem AO {f:FuncId} {g3 g4:Nat} {c3 d:List AV} (a: ∀args w,(callFunc f args).run P w= .ok (.enter f args) w)
  (h: ∀(s:ByteArray) (w:World),s.size<=9223372036854775807->Lib.Utf8Tabs g3 g4 w->Calls P f #[.string s] w fun e w'=>e= .returned (.bool (Lib.validD s.data.toList))/\Below w.heap.size w w')
  (j:G g3=some c3) (h4:G g4=some d) (k:c3=(List.range 256).map fun c=>AV.int .u8 (Lib.firstT c)) (l:d=(List.range 16).flatMap fun i=>[AV.int .u8 (Lib.accLo i),AV.int .u8 (Lib.accHi i)]):fm P T G f (.lib iY):=by
 refine oO a fun args v b A g st w xs hG m hi=> ?_;unfold iY at b;split at b
 .rename_i s;split at b
  .rename_i n;cases b;obtain ⟨x,rfl,h1⟩:=L5 m;rw [tM h1];refine (h ⟨s.toArray⟩ w (by simpa [ByteArray.size] using N4 n) (qh j h4 k l hG hi)).mono ?_;rintro e w' ⟨rfl,hB⟩;exact ⟨⟨_,rfl,Ip _⟩,hB⟩
  .cases b
 .cases b
def gx:List AV->cl AV
 | [.str s]=>match s with
  | []=> .ok (.tup [.int .i32 65533,.int .i64 0])
  | _:: _=>let p:=Lib.decodeN s.length (s.getD 0 0).toNat (s.getD 1 0).toNat (s.getD 2 0).toNat (s.getD 3 0).toNat
   .ok (.tup [.int .i32 p.1,.int .i64 p.2])
 | _=> .error "decode"
theorem xH {f:FuncId} {g3 g4:Nat} {c3 d:List AV} (a: ∀args w,(callFunc f args).run P w= .ok (.enter f args) w)
  (h: ∀(s:ByteArray) (w:World),Lib.Utf8Tabs g3 g4 w->Calls P f #[.string s] w fun e w'=>e= .returned (.tuple #[.int .i32 (Lib.decodeGo s).1,.int .i64 (Lib.decodeGo s).2])/\Below w.heap.size w w')
  (j:G g3=some c3) (h4:G g4=some d) (k:c3=(List.range 256).map fun c=>AV.int .u8 (Lib.firstT c)) (l:d=(List.range 16).flatMap fun i=>[AV.int .u8 (Lib.accLo i),AV.int .u8 (Lib.accHi i)]):fm P T G f (.lib gx):=by
 refine oO a fun args v b A g st w xs hG m hi=> ?_;unfold gx at b;split at b
 .rename_i s;obtain ⟨x,rfl,h1⟩:=L5 m;rw [tM h1];refine (h ⟨s.toArray⟩ w (qh j h4 k l hG hi)).mono ?_;rintro e w' ⟨rfl,hB⟩;refine ⟨⟨_,rfl, ?_⟩,hB⟩;have n:Lib.decodeGo ⟨s.toArray⟩=if s.length=0 then (65533,0) else Lib.decodeN s.length (s.getD 0 0).toNat (s.getD 1 0).toNat (s.getD 2 0).toNat (s.getD 3 0).toNat:=by
   unfold Lib.decodeGo;rw [<- Lib.decodeL_N];have:(ByteArray.mk s.toArray).size=s.length:=by simp [ByteArray.size]
   rw [this];rfl
  rw [n];split at b
  .cases b;simp only [R];exact ⟨_,rfl,bJ (uu _ _) (bJ (uu _ _) dF)⟩
  .cases b;simp only [R];rw [if_neg (by simp)];exact ⟨_,rfl,bJ (uu _ _) (bJ (uu _ _) dF)⟩
 .cases b
end
end Go.VM
