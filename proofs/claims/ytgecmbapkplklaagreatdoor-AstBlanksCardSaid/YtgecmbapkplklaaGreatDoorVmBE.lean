/-
  (A part of the proof: LibA.)
-/
import Derived.Test.YtgecmbapkplklaaGreatDoorVmAA
import Derived.Test.YtgecmbapkplklaaGreatDoorVmBD
import Derived.Test.YtgecmbapkplklaaGreatDoorVmBC
import Derived.Lib.AtoiAll
import Derived.Lib.ConvBytes
import Derived.Lib.SlTrimSet
set_option linter.unusedSimpArgs false
namespace Go.VM
open Go.RowKit
section
variable {P:Program} {T:TT} {G:Nat->Option (List AV)} {A:Nat->Prop} {g:Gh} {st:St} {w:World}
def jn (a:TypeId):List AV->db AV
 | [.str s]=>match s.length.ble 281474976710656 with
  | true=>match Lib.atoiAll s with
   | .ok v=> .ok (.tup [.int .i64 v,.nili])
   | .range=> .ok (.tup [.int .i64 (Lib.atoiSat s),.iface a (.opq false)])
   | _=> .error "Atoi: no numeral"
  | false=> .error "Atoi: too long"
 | _=> .error "Atoi"
theorem Jy {f:FuncId} {k g16:Nat} {Q:World->World->Prop} (l: ∀w w',Q w w'->Below w.heap.size w w') (b: ∀args w,(callFunc f args).run P w= .ok (.enter f args) w)
  (i: ∀(s:ByteArray),s.size<=9223372036854775806-> ∀(v:Int),Lib.atoiAll s.data.toList= .ok v-> ∀(w:World),Calls P f #[.string s] w fun e w'=>e= .returned (.tuple #[.int .i64 v,.nilIface])/\Q w w')
  (j: ∀(s:ByteArray),s.size<=281474976710656->Lib.atoiAll s.data.toList= .range-> ∀(ev:Value) (w:World),w.cell? ⟨g16,0,none⟩=some ev->(ev= .nilIface\/ ∃te pe,ev= .iface te pe)->
   Calls P f #[.string s] w fun e w'=> ∃N,e= .returned (.tuple #[.int .i64 (Lib.atoiSat s.data.toList),.iface k (.pointer (some ⟨N,0,none⟩))])/\Below w.heap.size w w')
  (c:G g16=some [.opq true]):fH P T G f (.lib (jn k)):=by
 refine ud b fun args v a A g st w xs m hx hi=> ?_;unfold jn at a;split at a
 .rename_i s;split at a
  .rename_i hk;have hk:=WU hk;have d:(ByteArray.mk s.toArray).size=s.length:=by simp [ByteArray.size]
   obtain ⟨x,rfl,h1⟩:=Ti hx;rw [zh h1];split at a
   .rename_i v' ha;cases a;refine (i ⟨s.toArray⟩ (by rw [d];omega) v' ha w).mono ?_;rintro e w' ⟨rfl,n⟩;refine ⟨⟨_,rfl, ?_⟩,l _ _ n⟩;simp only [R];exact ⟨_,rfl,cH (Ba _ _) (cH (by simp only [R]) fQ)⟩
   .rename_i ha;cases a;have hr:=(m _ _ c).2;simp only [nI,R] at hr;obtain ⟨⟨ev,o,_,h⟩,_⟩:=hr;refine (j ⟨s.toArray⟩ (by rw [d];exact hk) ha ev w (hi.F _ _ _ o) ?_).mono ?_
    .rcases h with ⟨_,h⟩ | ⟨h,_⟩
     .exact h
     .cases h
    .rintro e w' ⟨N,rfl,p⟩;refine ⟨⟨_,rfl, ?_⟩,p⟩;simp only [R];exact ⟨_,rfl,cH (Ba _ _) (cH (by simp [R]) fQ)⟩
   .cases a
  .cases a
 .cases a
def gZ:List AV->db AV
 | [.str s,.str c]=>match c.length.blt 4294967281&&c.all (fun b=>b.toNat.blt 128) with
  | true=> .ok (.str (Lib.trimLeftS s c))
  | false=> .error "TrimLeft: no ASCII"
 | _=> .error "TrimLeft"
theorem zQ {f:FuncId} (a: ∀args w,(callFunc f args).run P w= .ok (.enter f args) w)
  (h: ∀(s c:ByteArray) (w:World),c.size < 4294967281->(∀(j:Nat) b,c.data.toList[j]? =some b->b.toNat < 128)->Calls P f #[.string s,.string c] w fun e w'=>e= .returned (.string ⟨(Lib.trimLeftS s.data.toList c.data.toList).toArray⟩)/\Below w.heap.size w w'):fH P T G f (.lib gZ):=by
 refine ud a fun args v d A g st w xs _ hx _=> ?_;unfold gZ at d;split at d
 .rename_i s c;split at d
  .rename_i hk;cases d;simp only [WY] at hk;obtain ⟨x,y,rfl,h1,h2⟩:=VH hx;rw [zh h1,zh h2];refine (h ⟨s.toArray⟩ ⟨c.toArray⟩ w (by simpa [ByteArray.size] using dD.1 hk.1) fun j b hb=> ?_).mono ?_
   .exact dD.1 (XH.1 hk.2 b (Xo (by simpa using hb)))
   .rintro e w' ⟨rfl,i⟩;exact ⟨⟨_,rfl,SJ _⟩,i⟩
  .cases d
 .cases d
end
theorem Ij {P:Program} {w:World} {name nm:String} {d:DataW Unit} {k t:Nat} {ms} (hg:P.globalNamed name=some k) (c:(P.globals[k]?).map (·.type)=some t) (hu:P.underlying t=some (.interface ms))
  (h:Lib.VarReads P w name (.iface nm d)): ∃t y,w.cell? ⟨k,0,none⟩=some (.iface t y):=by
 obtain ⟨g',t',cs,fuel,p,f,a,b,hd⟩:=h;obtain rfl:=X4 (hg.symm.trans f);obtain rfl:=X4 (c.symm.trans a);have key: ∃t y,cs.toList=[.iface t y]:=by
  cases fuel with
  | zero=>simp [DataW.trod] at hd
  | succ n=>
   simp only [DataW.trod,hu] at hd;split at hd
   all_goals first
    | (rename_i q;cases q;done)
    | (rename_i q _;cases q;done)
    | (simp at hd;done)
    | (rename_i q;exact ⟨_,_,q⟩)
    | exact ⟨_,_,by assumption⟩
 obtain ⟨t,y,e⟩:=key;refine ⟨t,y, ?_⟩;rw [World.var?_cell hg b 0, <- XT,e];rfl
end Go.VM
