/-
  A part of the proof.
-/
import Derived.Test.YtkpeicabocpbkaaGreatDoorVmBD
import Derived.Shelf.Unicode.DecodeSlow
import Derived.Lib.TrimUEq
set_option linter.all false
namespace Go.VM
open Go.RowKit
section
variable {P:Program} {T:TT} {G:Nat->Oq LA} {A:Nat->Prop} {g:Gh} {st:St} {w:World}
theorem qR {l:LA} {b:Nat}: ∀{o:Nat},oH g l b o-> ∀{j:Nat} {k:IntKind} {n:Int},l[j]? =some (.int k n)->g.F b (o+j)=some (.int k n):=by
 induction l with
 | nil=>intro o _ j k n h;simp at h
 | cons v l ih=>
  intro o h j k n a;simp only [oH] at h;obtain ⟨⟨x,h1,_,c⟩,d⟩:=h;cases j with
  | zero=>
   simp at a;subst a;rw [MW c] at h1;exact h1
  | succ j=>
   have:=ih d (j:=j) (by simpa using a);rw [<- this];congr 1;omega
theorem xd {g3 g4:Nat} {b d:LA} (o:G g3=some b) (h4:G g4=some d) (q:b=(List.range 256).map fun c=>AV.int .u8 (Lib.firstT c))
  (r:d=(List.range 16).flatMap fun i=>[AV.int .u8 (Lib.accLo i),AV.int .u8 (Lib.accHi i)]) (f:GR g G) (hi:Inv T A g st w):Lib.Utf8Tabs g3 g4 w:=by
 have s:=(f _ _ o).2;have h:=(f _ _ h4).2;constructor
 .intro c t;have:b[c]? =some (.int .u8 (Lib.firstT c)):=by rw [q];simp [t]
  have:=qR s this;rw [aau] at this;exact hi.F _ _ _ this
 .intro i e;have a: ∀j,j < 2->d[2 * i+j]? =[AV.int .u8 (Lib.accLo i),AV.int .u8 (Lib.accHi i)][j]? :=by
   have: ∀i:Fin 16,∀j:Fin 2,((List.range 16).flatMap fun i=>[(Lib.accLo i,true),(Lib.accHi i,false)])[2 * i.val+j.val]? =[(Lib.accLo i.val,true),(Lib.accHi i.val,false)][j.val]? :=by decide
   intro j u;have:=aaY (Option.map fun p:Nat×Bool=>AV.int .u8 (p.1:Int)) (this ⟨i,e⟩ ⟨j,u⟩);rw [<- abc, <- abc,List.map_flatMap] at this;rw [r];simpa using this
  have k:=a 0 (by omega);have l:=a 1 (by omega);simp only [ach,abX,abq] at k l;have m:=qR h k;have n:=qR h l;rw [aau] at m n;exact ⟨hi.F _ _ _ m,hi.F _ _ _ n⟩
theorem HL {f:FuncId} {g3 g4:Nat} {d j:LA} (a: ∀args w,(callFunc f args).run P w= .ok (.enter f args) w)
  (h: ∀(s:ByteArray) (w:World),s.size<=9223372036854775807->Lib.Utf8Tabs g3 g4 w->Calls P f #[.string s] w fun e w'=>e= .returned (.bool (Lib.validD s.data.toList))/\Below w.heap.size w w')
  (k:G g3=some d) (h4:G g4=some j) (l:d=(List.range 256).map fun c=>AV.int .u8 (Lib.firstT c)) (m:j=(List.range 16).flatMap fun i=>[AV.int .u8 (Lib.accLo i),AV.int .u8 (Lib.accHi i)]):dD P T G f (.lib jU):=by
 refine lg a fun args v b A g st w xs n hx hi=> ?_;unfold jU at b;split at b
 .rename_i s;split at b
  .rename_i o;cases b;obtain ⟨x,rfl,h1⟩:=VE hx;rw [mB h1];refine (h ⟨s.toArray⟩ w (by simpa [ByteArray.size] using aaq o) (xd k h4 l m n hi)).mono ?_;rintro e w' ⟨rfl,p⟩;exact ⟨⟨_,rfl,OB _⟩,p⟩
  .cases b
 .cases b
def kC:LA->cY AV
 | [.str s]=>match s with
  | []=> .ok (.tup [.int .i32 65533,.int .i64 0])
  | _:: _=>let p:=Lib.decodeN s.length (s.getD 0 0).toNat (s.getD 1 0).toNat (s.getD 2 0).toNat (s.getD 3 0).toNat
   .ok (.tup [.int .i32 p.1,.int .i64 p.2])
 | _=> .error "decode"
theorem Fh {f:FuncId} {g3 g4:Nat} {d j:LA} (a: ∀args w,(callFunc f args).run P w= .ok (.enter f args) w)
  (h: ∀(s:ByteArray) (w:World),Lib.Utf8Tabs g3 g4 w->Calls P f #[.string s] w fun e w'=>e= .returned (.tuple #[.int .i32 (Lib.decodeGo s).1,.int .i64 (Lib.decodeGo s).2])/\Below w.heap.size w w')
  (k:G g3=some d) (h4:G g4=some j) (l:d=(List.range 256).map fun c=>AV.int .u8 (Lib.firstT c)) (m:j=(List.range 16).flatMap fun i=>[AV.int .u8 (Lib.accLo i),AV.int .u8 (Lib.accHi i)]):dD P T G f (.lib kC):=by
 refine lg a fun args v b A g st w xs n hx hi=> ?_;unfold kC at b;split at b
 .rename_i s;obtain ⟨x,rfl,h1⟩:=VE hx;rw [mB h1];refine (h ⟨s.toArray⟩ w (xd k h4 l m n hi)).mono ?_;rintro e w' ⟨rfl,o⟩;refine ⟨⟨_,rfl, ?_⟩,o⟩;have p:Lib.decodeGo ⟨s.toArray⟩=if s.length=0 then (65533,0) else Lib.decodeN s.length (s.getD 0 0).toNat (s.getD 1 0).toNat (s.getD 2 0).toNat (s.getD 3 0).toNat:=by
   unfold Lib.decodeGo;rw [<- Lib.decodeL_N];have:(ByteArray.mk s.toArray).size=s.length:=by simp [ByteArray.size]
   rw [this];rfl
  rw [p];split at b
  .cases b;simp only [R];exact ⟨_,rfl,cA (Bt _ _) (cA (Bt _ _) gF)⟩
  .cases b;simp only [R];rw [if_neg (by simp)];exact ⟨_,rfl,cA (Bt _ _) (cA (Bt _ _) gF)⟩
 .cases b
end
end Go.VM
