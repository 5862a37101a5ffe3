/-
  A part of the proof.
-/
import Derived.Test.YtpinfliihpdjcaaGreatDoorVmBE
import Derived.Test.YtpinfliihpdjcaaGreatDoorVmBD
import Derived.Lib.AtoiAll
import Derived.Lib.ConvBytes
import Derived.Lib.SlTrimSet
set_option linter.all false
namespace Go.VM
open Go.RowKit
section
variable {P:Program} {T:TT} {G:Nat->Option (List AV)} {A:Nat->Prop} {g:Gh} {st:St} {w:World}
def gl (a:TypeId):List AV->cl AV
 | [.str s]=>match s.length.ble 281474976710656 with
  | true=>match Lib.atoiAll s with
   | .ok v=> .ok (.tup [.int .i64 v,.nili])
   | .range=> .ok (.tup [.int .i64 (Lib.atoiSat s),.iface a (.opq false)])
   | _=> .error "Atoi: no numeral"
  | false=> .error "Atoi: too long"
 | _=> .error "Atoi"
theorem BJ {f:FuncId} {m g16:Nat} {Q:World->World->Prop} (o: ∀w w',Q w w'->Below w.heap.size w w') (b: ∀args w,(callFunc f args).run P w= .ok (.enter f args) w)
  (i: ∀(s:ByteArray),s.size<=9223372036854775806-> ∀(v:Int),Lib.atoiAll s.data.toList= .ok v-> ∀(w:World),Calls P f #[.string s] w fun e w'=>e= .returned (.tuple #[.int .i64 v,.nilIface])/\Q w w')
  (j: ∀(s:ByteArray),s.size<=281474976710656->Lib.atoiAll s.data.toList= .range-> ∀(ev:Value) (w:World),w.cell? ⟨g16,0,none⟩=some ev->(ev= .nilIface\/ ∃te pe,ev= .iface te pe)->
   Calls P f #[.string s] w fun e w'=> ∃N,e= .returned (.tuple #[.int .i64 (Lib.atoiSat s.data.toList),.iface m (.pointer (some ⟨N,0,none⟩))])/\Below w.heap.size w w')
  (c:G g16=some [.opq true]):fm P T G f (.lib (gl m)):=by
 refine oO b fun args v a A g st w xs hG p hi=> ?_;unfold gl at a;split at a
 .rename_i s;split at a
  .rename_i k;have k:=N4 k;have d:(ByteArray.mk s.toArray).size=s.length:=by simp [ByteArray.size]
   obtain ⟨x,rfl,h1⟩:=L5 p;rw [tM h1];split at a
   .rename_i v' l;cases a;refine (i ⟨s.toArray⟩ (by rw [d];omega) v' l w).mono ?_;rintro e w' ⟨rfl,q⟩;refine ⟨⟨_,rfl, ?_⟩,o _ _ q⟩;simp only [R];exact ⟨_,rfl,bJ (uu _ _) (bJ (by simp only [R]) dF)⟩
   .rename_i l;cases a;have n:=(hG _ _ c).2.1;simp only [ig,R] at n;obtain ⟨⟨ev,r,_,h⟩,_⟩:=n;refine (j ⟨s.toArray⟩ (by rw [d];exact k) l ev w (hi.F _ _ _ r) ?_).mono ?_
    .rcases h with ⟨_,h⟩ | ⟨h,_⟩
     .exact h
     .cases h
    .rintro e w' ⟨N,rfl,hB⟩;refine ⟨⟨_,rfl, ?_⟩,hB⟩;simp only [R];exact ⟨_,rfl,bJ (uu _ _) (bJ (by simp [R]) dF)⟩
   .cases a
  .cases a
 .cases a
def fb:List AV->cl AV
 | [.str s,.str c]=>match c.length.blt 4294967281&&c.all (fun b=>b.toNat.blt 128) with
  | true=> .ok (.str (Lib.trimLeftS s c))
  | false=> .error "TrimLeft: no ASCII"
 | _=> .error "TrimLeft"
theorem tX {f:FuncId} (a: ∀args w,(callFunc f args).run P w= .ok (.enter f args) w)
  (h: ∀(s c:ByteArray) (w:World),c.size < 4294967281->(∀(j:Nat) b,c.data.toList[j]? =some b->b.toNat < 128)->Calls P f #[.string s,.string c] w fun e w'=>e= .returned (.string ⟨(Lib.trimLeftS s.data.toList c.data.toList).toArray⟩)/\Below w.heap.size w w'):fm P T G f (.lib fb):=by
 refine oO a fun args v d A g st w xs _ k _=> ?_;unfold fb at d;split at d
 .rename_i s c;split at d
  .rename_i i;cases d;simp only [N0] at i;obtain ⟨x,y,rfl,h1,l⟩:=MM k;rw [tM h1,tM l];refine (h ⟨s.toArray⟩ ⟨c.toArray⟩ w (by simpa [ByteArray.size] using dM.1 i.1) fun j b m=> ?_).mono ?_
   .exact dM.1 (Ox.1 i.2 b (Ob (by simpa using m)))
   .rintro e w' ⟨rfl,hB⟩;exact ⟨⟨_,rfl,Km _⟩,hB⟩
  .cases d
 .cases d
end
theorem BV {P:Program} {w:World} {name nm:String} {d:DataW Unit} {k t:Nat} {ms} (g:P.globalNamed name=some k) (c:(P.globals[k]?).map (·.type)=some t) (i:P.underlying t=some (.interface ms))
  (h:Lib.VarReads P w name (.iface nm d)): ∃t y,w.cell? ⟨k,0,none⟩=some (.iface t y):=by
 obtain ⟨g',t',cs,fuel,p,f,a,b,hd⟩:=h;obtain rfl:=OS (g.symm.trans f);obtain rfl:=OS (c.symm.trans a);have key: ∃t y,cs.toList=[.iface t y]:=by
  cases fuel with
  | zero=>simp [DataW.trod] at hd
  | succ n=>
   simp only [DataW.trod,i] at hd;split at hd
   all_goals first
    | (rename_i q;cases q;done)
    | (rename_i q _;cases q;done)
    | (simp at hd;done)
    | (rename_i q;exact ⟨_,_,q⟩)
    | exact ⟨_,_,by assumption⟩
 obtain ⟨t,y,e⟩:=key;refine ⟨t,y, ?_⟩;rw [World.var?_cell g b 0, <- OE,e];rfl
end Go.VM
