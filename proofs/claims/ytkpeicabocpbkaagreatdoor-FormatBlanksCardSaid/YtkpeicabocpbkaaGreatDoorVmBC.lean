/-
  A part of the proof.
-/
import Derived.Test.YtkpeicabocpbkaaGreatDoorVmBB
import Derived.Lib.LaidU8
import Derived.MakeChecks
set_option linter.all false
namespace Go.VM
open Go.Lib Go.MakeChecks
theorem JA {P:Program} {w:World} {name:String} {k:IntKind} {zs:List Int} {g:Nat} {t e:Td} {n:Nat} (l:P.globalNamed name=some g) (d:(P.globals[g]?).map (·.type)=some t)
  (q:P.underlying t=some (.array n e)) (r:P.underlying e=some (.int k)) (f:P.cellsOf e=1) (i:P.cellsOf t=n) (h:VarReads P w name (tabData k zs)) {cs:LA} (a:cs=zs.map (AV.int k)):
  ∀o v,cs[o]? =some v->w.cell? ⟨g,o,none⟩=some (yc v):=by
 subst a;intro o v m;obtain ⟨g',t',cs,fuel,p,j,b,c,hd⟩:=h;obtain rfl:=abF (l.symm.trans j);obtain rfl:=abF (d.symm.trans b);have a:=cells_of_tab q r f i hd;rw [World.var?_cell l c o, <- abn,a];simp only [abc,aaF] at m ⊢;obtain ⟨z,s,rfl⟩:=m;exact ⟨z,s,rfl⟩
theorem JK {α:Type} {m:Nat}: ∀{a:List (List α)} {o:Nat} {v:α},(∀zs∈a,zs.length=m)->0 < m->a.flatten[o]? =some v-> ∃zs,a[o / m]? =some zs/\zs[o % m]? =some v
 | [],o,v,_,_,h=>by simp at h
 | zs::a,o,v,hl,hm,h=>by
  have b:zs.length=m:=hl zs aad;by_cases ho:o < m
  .refine ⟨zs,by rw [Nat.div_eq_of_lt ho];rfl, ?_⟩;rw [Nat.mod_eq_of_lt ho];rw [List.flatten_cons,abi (by omega)] at h;exact h
  .rw [List.flatten_cons,abg (by omega),b] at h;obtain ⟨ys,h1,c⟩:=JK (fun z d=>hl z (aak _ d)) hm h;have e:o / m=(o - m) / m+1:=by
    rw [Nat.div_eq o m,if_pos ⟨hm,by omega⟩]
   have f:o % m=(o - m) % m:=Nat.mod_eq_sub_mod (by omega);exact ⟨ys,by rw [e];simpa using h1,by rw [f];exact c⟩
theorem Gg {P:Program} {w:World} {name:String} {k:IntKind} {a:List (List Int)} {g:Nat} {t e:Td} {n:Nat} {fs:Array Field} (y:P.globalNamed name=some g) (s:(P.globals[g]?).map (·.type)=some t)
  (B:P.underlying t=some (.array n e)) (C:P.underlying e=some (.struct fs))
  (hf: ∀(i:Nat) (f:Field),fs[i]? =some f->P.underlying f.type=some (.int k)/\f.offset=i/\P.cellsOf f.type=1) (c:P.cellsOf e=fs.size) (hn:a.length=n) (hpos:0 < fs.size) (hlen: ∀zs∈a,zs.length=fs.size)
  (h:VarReads P w name (.agg (a.map fun zs=> .agg (zs.map fun z=> .lit (.int k z))))) {cs:LA} (b:cs=a.flatten.map (AV.int k)):
  ∀o v,cs[o]? =some v->w.cell? ⟨g,o,none⟩=some (yc v):=by
 subst b;intro o v A;obtain ⟨g',t',cs,fuel,p,u,j,l,hd⟩:=h;obtain rfl:=abF (y.symm.trans u);obtain rfl:=abF (s.symm.trans j);simp only [abc,aaF] at A;obtain ⟨z,D,rfl⟩:=A;obtain ⟨zs,h1,E⟩:=JK hlen hpos D;have hi:o / fs.size < n:=by
  rcases Nat.lt_or_ge (o / fs.size) a.length with q | q
  .omega
  .rw [aaX q] at h1;cases h1
 obtain ⟨x,d,q,m,r⟩:=array_elem B hd (o / fs.size) hi;simp only [abc,h1,Option.map_some,aav] at m;subst m;rw [c] at r;have b:=ints_of_struct C hf c r;have:=aaY (·[o % fs.size]?) b;simp only [List.getElem?_take,abG,abc,E,Option.map_some] at this;rw [if_pos (Nat.mod_lt _ hpos)] at this;rw [World.var?_cell y l o, <- abn];have e:o / fs.size * fs.size+o % fs.size=o:=by rw [Nat.mul_comm];exact Nat.div_add_mod o fs.size
 rw [e] at this;simpa [yc] using this
theorem uO {P:Program} {w:World} {l:List (String×DataW Unit)} (h:laidMetH P l w) (a:(l.all fun x=>x.2.handleName?.isNone)=true) {n:String} {d:DataW Unit} (hm:(n,d)∈l):VarReads P w n d:=by
 rw [laidMetH_plain P l w a] at h;exact Go.Lib.laidMet.reads h hm
end Go.VM
namespace Go.VM
def Gl {α:Type}:List (Nat×α)->Nat->Oq α
 | [],_=>none
 | (k,v)::l,i=>match k.beq i with
  | true=>some v
  | false=>Gl l i
def Vb {α:Type} (p:Nat->α->Prop):List (Nat×α)->Prop
 | []=>True
 | (k,v)::l=>p k v/\Vb p l
theorem C4 {α:Type} {p:Nat->α->Prop}: ∀{l:List (Nat×α)},Vb p l-> ∀k v,Gl l k=some v->p k v
 | [],_,_,_,h=>by cases h
 | (j,u)::l,a,k,v,h=>by
  unfold Gl at h;split at h
  .rename_i e;cases h;obtain rfl:=aan e;exact a.1
  .exact C4 a.2 k v h
def MF (P:Program) (l:Ln) (k:Nat):Oq Func:=match l.any fun j=>k.beq j with
 | true=>P.funcs[k]?
 | false=>none
def Ns (fn:Func):Bool:= !(fn.name== "runtime.NumGoroutine")&&(fn.body.isSome&&fn.body.all codeOk)
theorem SQ {P:Program} {l:Ln} {d:Nat} (n:(l.all fun k=>match P.funcs[k]? with
  | some fn=>Ns fn
  | none=>true)=true) (f:FuncId) (fn:Func) (h:(Tr.of d (MF P l)).get f=some fn):W6 P f fn:=by
 have h:=Tr.Dj _ _ _ _ h;unfold MF at h;split at h
 .rename_i o;obtain ⟨j,p,e⟩:=List.any_eq_true.1 o;obtain rfl:=aan e;have a:=abd.1 n f p;rw [h] at a;simp only [Ns,aaf,Bool.not_eq_true',aai,ne_eq] at a;obtain ⟨h1,g,i⟩:=a;cases m:fn.body with
  | none=>rw [m] at g;cases g
  | some c=>
   refine ⟨h,fun args w=> ?_,fun q b=> ?_⟩
   .simp [callFunc,h,h1,m]
   .rw [b] at i;exact i
 .cases h
end Go.VM
