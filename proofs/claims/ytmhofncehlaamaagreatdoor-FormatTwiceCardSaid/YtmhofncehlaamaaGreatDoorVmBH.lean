/-
  (A part of the proof: LibU.)
-/
import Derived.Test.YtmhofncehlaamaaGreatDoorVmAA
import Derived.Test.YtmhofncehlaamaaGreatDoorVmBD
import Derived.Shelf.Unicode.DecodeSlow
import Derived.Lib.TrimUEq
set_option linter.unusedSimpArgs false
namespace Go.VM
open Go.RowKit
section
variable {P:Program} {T:TT} {G:Nat→Option (List AV)} {A:Nat→Prop} {g:Gh} {st:St} {w:World}
theorem pO {l:List AV} {b:Nat}: ∀{o:Nat},mi g l b o→ ∀{j:Nat} {k:IntKind} {n:Int},l[j]? =some (.int k n)→g.F b (o+j)=some (.int k n):=by
 induction l with
 | nil=>intro o _ j k n h;simp at h
 | cons v l ih=>
  intro o h j k n hj;simp only [mi] at h;obtain ⟨⟨x,h1,_,h2⟩,h3⟩:=h;cases j with
  | zero=>
   simp at hj;subst hj;rw [JZ h2] at h1;exact h1
  | succ j=>
   have:=ih h3 (j:=j) (by simpa using hj);rw [← this];congr 1;omega
theorem va {g3 g4:Nat} {c3 c4:List AV} (h3:G g3=some c3) (h4:G g4=some c4) (e3:c3=(List.range 256).map fun c=>AV.int .u8 (Lib.firstT c))
  (e4:c4=(List.range 16).flatMap fun i=>[AV.int .u8 (Lib.accLo i),AV.int .u8 (Lib.accHi i)]) (hG:GR g G) (hi:Inv T A g st w):Lib.Utf8Tabs g3 g4 w:=by
 have r3:=(hG _ _ h3).2;have r4:=(hG _ _ h4).2;constructor
 ·intro c hc;have:c3[c]? =some (.int .u8 (Lib.firstT c)):=by rw [e3];simp [hc]
  have:=pO r3 this;rw [VC] at this;exact hi.F _ _ _ this
 ·intro i hi2;have a: ∀j,j < 2→c4[2 * i+j]? =[AV.int .u8 (Lib.accLo i),AV.int .u8 (Lib.accHi i)][j]? :=by
   have: ∀i:Fin 16,∀j:Fin 2,((List.range 16).flatMap fun i=>[(Lib.accLo i,true),(Lib.accHi i,false)])[2 * i.val+j.val]? =[(Lib.accLo i.val,true),(Lib.accHi i.val,false)][j.val]? :=by decide
   intro j hj;have:=Wb (Option.map fun p:Nat×Bool=>AV.int .u8 (p.1:Int)) (this ⟨i,hi2⟩ ⟨j,hj⟩);rw [← Wa, ← Wa,List.map_flatMap] at this;rw [e4];simpa using this
  have a0:=a 0 (by omega);have a1:=a 1 (by omega);simp only [Xa,WV,Wk] at a0 a1;have b0:=pO r4 a0;have b1:=pO r4 a1;rw [VC] at b0 b1;exact ⟨hi.F _ _ _ b0,hi.F _ _ _ b1⟩
theorem F4 {f:FuncId} {g3 g4:Nat} {c3 c4:List AV} (hcall: ∀args w,(callFunc f args).run P w= .ok (.enter f args) w)
  (h: ∀(s:ByteArray) (w:World),s.size≤9223372036854775807→Lib.Utf8Tabs g3 g4 w→Calls P f #[.string s] w fun e w'=>e= .returned (.bool (Lib.validD s.data.toList))∧Below w.heap.size w w')
  (h3:G g3=some c3) (h4:G g4=some c4) (e3:c3=(List.range 256).map fun c=>AV.int .u8 (Lib.firstT c)) (e4:c4=(List.range 16).flatMap fun i=>[AV.int .u8 (Lib.accLo i),AV.int .u8 (Lib.accHi i)]):cR P T G f (.lib iT):=by
 refine km hcall fun args v hF A g st w xs hG hx hi=> ?_;unfold iT at hF;split at hF
 ·rename_i s;split at hF
  ·rename_i hk;cases hF;obtain ⟨x,rfl,h1⟩:=Rw hx;rw [lY h1];refine (h ⟨s.toArray⟩ w (by simpa [ByteArray.size] using VA hk) (va h3 h4 e3 e4 hG hi)).mono ?_;rintro e w' ⟨rfl,hB⟩;exact ⟨⟨_,rfl,Lr _⟩,hB⟩
  ·cases hF
 ·cases hF
def jI:List AV→cM AV
 | [.str s]=>match s with
  | []=> .ok (.tup [.int .i32 65533,.int .i64 0])
  | _:: _=>let p:=Lib.decodeN s.length (s.getD 0 0).toNat (s.getD 1 0).toNat (s.getD 2 0).toNat (s.getD 3 0).toNat
   .ok (.tup [.int .i32 p.1,.int .i64 p.2])
 | _=> .error "decode"
theorem Eo {f:FuncId} {g3 g4:Nat} {c3 c4:List AV} (hcall: ∀args w,(callFunc f args).run P w= .ok (.enter f args) w)
  (h: ∀(s:ByteArray) (w:World),Lib.Utf8Tabs g3 g4 w→Calls P f #[.string s] w fun e w'=>e= .returned (.tuple #[.int .i32 (Lib.decodeGo s).1,.int .i64 (Lib.decodeGo s).2])∧Below w.heap.size w w')
  (h3:G g3=some c3) (h4:G g4=some c4) (e3:c3=(List.range 256).map fun c=>AV.int .u8 (Lib.firstT c)) (e4:c4=(List.range 16).flatMap fun i=>[AV.int .u8 (Lib.accLo i),AV.int .u8 (Lib.accHi i)]):cR P T G f (.lib jI):=by
 refine km hcall fun args v hF A g st w xs hG hx hi=> ?_;unfold jI at hF;split at hF
 ·rename_i s;obtain ⟨x,rfl,h1⟩:=Rw hx;rw [lY h1];refine (h ⟨s.toArray⟩ w (va h3 h4 e3 e4 hG hi)).mono ?_;rintro e w' ⟨rfl,hB⟩;refine ⟨⟨_,rfl, ?_⟩,hB⟩;have e1:Lib.decodeGo ⟨s.toArray⟩=if s.length=0 then (65533,0) else Lib.decodeN s.length (s.getD 0 0).toNat (s.getD 1 0).toNat (s.getD 2 0).toNat (s.getD 3 0).toNat:=by
   unfold Lib.decodeGo;rw [← Lib.decodeL_N];have:(ByteArray.mk s.toArray).size=s.length:=by simp [ByteArray.size]
   rw [this];rfl
  rw [e1];split at hF
  ·cases hF;simp only [R];exact ⟨_,rfl,cp (yg _ _) (cp (yg _ _) fP)⟩
  ·cases hF;simp only [R];rw [if_neg (by simp)];exact ⟨_,rfl,cp (yg _ _) (cp (yg _ _) fP)⟩
 ·cases hF
end
end Go.VM
