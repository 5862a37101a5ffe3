/-
  A part of the proof.
-/
import Derived.Test.YtpinfliihpdjcaaGreatDoorVmBC
import Derived.Lib.LaidU8
import Derived.MakeChecks
set_option linter.all false
namespace Go.VM
open Go.Lib Go.MakeChecks
theorem Bb {P:Program} {w:World} {name:String} {k:IntKind} {zs:List Int} {g:Nat} {t e:TypeId} {n:Nat} (l:P.globalNamed name=some g) (d:(P.globals[g]?).map (·.type)=some t)
  (q:P.underlying t=some (.array n e)) (r:P.underlying e=some (.int k)) (f:P.cellsOf e=1) (i:P.cellsOf t=n) (h:VarReads P w name (tabData k zs)) {cs:List AV} (a:cs=zs.map (AV.int k)):
  ∀o v,cs[o]? =some v->w.cell? ⟨g,o,none⟩=some (qB v):=by
 subst a;intro o v m;obtain ⟨g',t',cs,fuel,p,j,b,c,hd⟩:=h;obtain rfl:=OS (l.symm.trans j);obtain rfl:=OS (d.symm.trans b);have a:=cells_of_tab q r f i hd;rw [World.var?_cell l c o, <- OE,a];simp only [OM,OD] at m ⊢;obtain ⟨z,s,rfl⟩:=m;exact ⟨z,s,rfl⟩
theorem Br {α:Type} {m:Nat}: ∀{a:List (List α)} {o:Nat} {v:α},(∀zs∈a,zs.length=m)->0 < m->a.flatten[o]? =some v-> ∃zs,a[o / m]? =some zs/\zs[o % m]? =some v
 | [],o,v,_,_,h=>by simp at h
 | zs::a,o,v,hl,c,h=>by
  have b:zs.length=m:=hl zs NV;by_cases ho:o < m
  .refine ⟨zs,by rw [Nat.div_eq_of_lt ho];rfl, ?_⟩;rw [Nat.mod_eq_of_lt ho];rw [List.flatten_cons,Oh (by omega)] at h;exact h
  .rw [List.flatten_cons,OV (by omega),b] at h;obtain ⟨ys,h1,d⟩:=Br (fun z f=>hl z (N2 _ f)) c h;have e:o / m=(o - m) / m+1:=by
    rw [Nat.div_eq o m,if_pos ⟨c,by omega⟩]
   have g:o % m=(o - m) % m:=Nat.mod_eq_sub_mod (by omega);exact ⟨ys,by rw [e];simpa using h1,by rw [g];exact d⟩
theorem xu {P:Program} {w:World} {name:String} {k:IntKind} {a:List (List Int)} {g:Nat} {t e:TypeId} {n:Nat} {fs:Array Field} (A:P.globalNamed name=some g) (u:(P.globals[g]?).map (·.type)=some t)
  (C:P.underlying t=some (.array n e)) (D:P.underlying e=some (.struct fs))
  (hf: ∀(i:Nat) (f:Field),fs[i]? =some f->P.underlying f.type=some (.int k)/\f.offset=i/\P.cellsOf f.type=1) (j:P.cellsOf e=fs.size) (G:a.length=n) (b:0 < fs.size) (hlen: ∀zs∈a,zs.length=fs.size)
  (h:VarReads P w name (.agg (a.map fun zs=> .agg (zs.map fun z=> .lit (.int k z))))) {cs:List AV} (c:cs=a.flatten.map (AV.int k)):
  ∀o v,cs[o]? =some v->w.cell? ⟨g,o,none⟩=some (qB v):=by
 subst c;intro o v B;obtain ⟨g',t',cs,fuel,p,x,l,m,hd⟩:=h;obtain rfl:=OS (A.symm.trans x);obtain rfl:=OS (u.symm.trans l);simp only [OM,OD] at B;obtain ⟨z,E,rfl⟩:=B;obtain ⟨zs,h1,F⟩:=Br hlen b E;have hi:o / fs.size < n:=by
  rcases Nat.lt_or_ge (o / fs.size) a.length with q | q
  .omega
  .rw [Og q] at h1;cases h1
 obtain ⟨y,d,q,r,s⟩:=array_elem C hd (o / fs.size) hi;simp only [OM,h1,Option.map_some,N1] at r;subst r;rw [j] at s;have c:=ints_of_struct D hf j s;have:=OC (·[o % fs.size]?) c;simp only [List.getElem?_take,Po,OM,F,Option.map_some] at this;rw [if_pos (Nat.mod_lt _ b)] at this;rw [World.var?_cell A m o, <- OE];have e:o / fs.size * fs.size+o % fs.size=o:=by rw [Nat.mul_comm];exact Nat.div_add_mod o fs.size
 rw [e] at this;simpa [qB] using this
theorem oN {P:Program} {w:World} {l:List (String×DataW Unit)} (h:laidMetH P l w) (a:(l.all fun x=>x.2.handleName?.isNone)=true) {n:String} {d:DataW Unit} (b:(n,d)∈l):VarReads P w n d:=by
 rw [laidMetH_plain P l w a] at h;exact Go.Lib.laidMet.reads h b
end Go.VM
namespace Go.VM
def yf {α:Type}:List (Nat×α)->Nat->Option α
 | [],_=>none
 | (k,v)::l,i=>match k.beq i with
  | true=>some v
  | false=>yf l i
def Ix {α:Type} (p:Nat->α->Prop):List (Nat×α)->Prop
 | []=>True
 | (k,v)::l=>p k v/\Ix p l
theorem uZ {α:Type} {p:Nat->α->Prop}: ∀{l:List (Nat×α)},Ix p l-> ∀k v,yf l k=some v->p k v
 | [],_,_,_,h=>by cases h
 | (j,u)::l,a,k,v,h=>by
  unfold yf at h;split at h
  .rename_i e;cases h;obtain rfl:=NZ e;exact a.1
  .exact uZ a.2 k v h
def Et (P:Program) (l:List Nat) (k:Nat):Option Func:=match l.any fun j=>k.beq j with
 | true=>P.funcs[k]?
 | false=>none
def D5 (fn:Func):Bool:= !(fn.name== "runtime.NumGoroutine")&&(fn.body.isSome&&fn.body.all codeOk)
theorem IP {P:Program} {l:List Nat} {d:Nat} (n:(l.all fun k=>match P.funcs[k]? with
  | some fn=>D5 fn
  | none=>true)=true) (f:FuncId) (fn:Func) (h:(Tr.of d (Et P l)).get f=some fn):Lx P f fn:=by
 have h:=Tr.vS _ _ _ _ h;unfold Et at h;split at h
 .rename_i o;obtain ⟨j,p,e⟩:=List.any_eq_true.1 o;obtain rfl:=NZ e;have a:=Ox.1 n f p;rw [h] at a;simp only [D5,N0,Bool.not_eq_true',NY,ne_eq] at a;obtain ⟨h1,g,i⟩:=a;cases m:fn.body with
  | none=>rw [m] at g;cases g
  | some c=>
   refine ⟨h,fun args w=> ?_,fun q b=> ?_⟩
   .simp [callFunc,h,h1,m]
   .rw [b] at i;exact i
 .cases h
end Go.VM
