/-
  (A part of the proof: LibU.)
-/
import Derived.Test.YtgecmbapkplklaaGreatDoorVmAA
import Derived.Test.YtgecmbapkplklaaGreatDoorVmBD
import Derived.Shelf.Unicode.DecodeSlow
import Derived.Lib.TrimUEq
set_option linter.unusedSimpArgs false
namespace Go.VM
open Go.RowKit
section
variable {P:Program} {T:TT} {G:Nat->Option (List AV)} {A:Nat->Prop} {g:Gh} {st:St} {w:World}
theorem qu {l:List AV} {b:Nat}: ∀{o:Nat},nI g l b o-> ∀{j:Nat} {k:IntKind} {n:Int},l[j]? =some (.int k n)->g.F b (o+j)=some (.int k n):=by
 induction l with
 | nil=>intro o _ j k n h;simp at h
 | cons v l ih=>
  intro o h j k n hj;simp only [nI] at h;obtain ⟨⟨x,h1,_,h2⟩,h3⟩:=h;cases j with
  | zero=>
   simp at hj;subst hj;rw [QT h2] at h1;exact h1
  | succ j=>
   have:=ih h3 (j:=j) (by simpa using hj);rw [<- this];congr 1;omega
theorem vW {g3 g4:Nat} {c3 c4:List AV} (h3:G g3=some c3) (h4:G g4=some c4) (h:c3=(List.range 256).map fun c=>AV.int .u8 (Lib.firstT c))
  (k:c4=(List.range 16).flatMap fun i=>[AV.int .u8 (Lib.accLo i),AV.int .u8 (Lib.accHi i)]) (d:GR g G) (hi:Inv T A g st w):Lib.Utf8Tabs g3 g4 w:=by
 have l:=(d _ _ h3).2;have e:=(d _ _ h4).2;constructor
 .intro c hc;have:c3[c]? =some (.int .u8 (Lib.firstT c)):=by rw [h];simp [hc]
  have:=qu l this;rw [Xd] at this;exact hi.F _ _ _ this
 .intro i b;have a: ∀j,j < 2->c4[2 * i+j]? =[AV.int .u8 (Lib.accLo i),AV.int .u8 (Lib.accHi i)][j]? :=by
   have: ∀i:Fin 16,∀j:Fin 2,((List.range 16).flatMap fun i=>[(Lib.accLo i,true),(Lib.accHi i,false)])[2 * i.val+j.val]? =[(Lib.accLo i.val,true),(Lib.accHi i.val,false)][j.val]? :=by decide
   intro j hj;have:=Xy (Option.map fun p:Nat×Bool=>AV.int .u8 (p.1:Int)) (this ⟨i,b⟩ ⟨j,hj⟩);rw [<- XG, <- XG,List.map_flatMap] at this;rw [k];simpa using this
  have a0:=a 0 (by omega);have f:=a 1 (by omega);simp only [Yz,Yp,XO] at a0 f;have b0:=qu e a0;have b1:=qu e f;rw [Xd] at b0 b1;exact ⟨hi.F _ _ _ b0,hi.F _ _ _ b1⟩
theorem GG {f:FuncId} {g3 g4:Nat} {c3 c4:List AV} (a: ∀args w,(callFunc f args).run P w= .ok (.enter f args) w)
  (h: ∀(s:ByteArray) (w:World),s.size<=9223372036854775807->Lib.Utf8Tabs g3 g4 w->Calls P f #[.string s] w fun e w'=>e= .returned (.bool (Lib.validD s.data.toList))/\Below w.heap.size w w')
  (h3:G g3=some c3) (h4:G g4=some c4) (d:c3=(List.range 256).map fun c=>AV.int .u8 (Lib.firstT c)) (j:c4=(List.range 16).flatMap fun i=>[AV.int .u8 (Lib.accLo i),AV.int .u8 (Lib.accHi i)]):fH P T G f (.lib lV):=by
 refine ud a fun args v b A g st w xs k hx hi=> ?_;unfold lV at b;split at b
 .rename_i s;split at b
  .rename_i hk;cases b;obtain ⟨x,rfl,h1⟩:=Ti hx;rw [zh h1];refine (h ⟨s.toArray⟩ w (by simpa [ByteArray.size] using WU hk) (vW h3 h4 d j k hi)).mono ?_;rintro e w' ⟨rfl,l⟩;exact ⟨⟨_,rfl,QG _⟩,l⟩
  .cases b
 .cases b
def jS:List AV->db AV
 | [.str s]=>match s with
  | []=> .ok (.tup [.int .i32 65533,.int .i64 0])
  | _:: _=>let p:=Lib.decodeN s.length (s.getD 0 0).toNat (s.getD 1 0).toNat (s.getD 2 0).toNat (s.getD 3 0).toNat
   .ok (.tup [.int .i32 p.1,.int .i64 p.2])
 | _=> .error "decode"
theorem Dz {f:FuncId} {g3 g4:Nat} {c3 c4:List AV} (a: ∀args w,(callFunc f args).run P w= .ok (.enter f args) w)
  (h: ∀(s:ByteArray) (w:World),Lib.Utf8Tabs g3 g4 w->Calls P f #[.string s] w fun e w'=>e= .returned (.tuple #[.int .i32 (Lib.decodeGo s).1,.int .i64 (Lib.decodeGo s).2])/\Below w.heap.size w w')
  (h3:G g3=some c3) (h4:G g4=some c4) (d:c3=(List.range 256).map fun c=>AV.int .u8 (Lib.firstT c)) (j:c4=(List.range 16).flatMap fun i=>[AV.int .u8 (Lib.accLo i),AV.int .u8 (Lib.accHi i)]):fH P T G f (.lib jS):=by
 refine ud a fun args v b A g st w xs k hx hi=> ?_;unfold jS at b;split at b
 .rename_i s;obtain ⟨x,rfl,h1⟩:=Ti hx;rw [zh h1];refine (h ⟨s.toArray⟩ w (vW h3 h4 d j k hi)).mono ?_;rintro e w' ⟨rfl,l⟩;refine ⟨⟨_,rfl, ?_⟩,l⟩;have m:Lib.decodeGo ⟨s.toArray⟩=if s.length=0 then (65533,0) else Lib.decodeN s.length (s.getD 0 0).toNat (s.getD 1 0).toNat (s.getD 2 0).toNat (s.getD 3 0).toNat:=by
   unfold Lib.decodeGo;rw [<- Lib.decodeL_N];have:(ByteArray.mk s.toArray).size=s.length:=by simp [ByteArray.size]
   rw [this];rfl
  rw [m];split at b
  .cases b;simp only [R];exact ⟨_,rfl,cH (Ba _ _) (cH (Ba _ _) fQ)⟩
  .cases b;simp only [R];rw [if_neg (by simp)];exact ⟨_,rfl,cH (Ba _ _) (cH (Ba _ _) fQ)⟩
 .cases b
end
end Go.VM
