/-
  (A part of the proof: Laid, TabL.)
-/
import Derived.Test.YtgecmbapkplklaaGreatDoorVmAA
import Derived.Test.YtgecmbapkplklaaGreatDoorVmBB
import Derived.Lib.LaidU8
import Derived.MakeChecks
set_option linter.unusedSimpArgs false
namespace Go.VM
open Go.Lib Go.MakeChecks
theorem HI {P:Program} {w:World} {name:String} {k:IntKind} {zs:List Int} {g:Nat} {t e:TypeId} {n:Nat} (hg:P.globalNamed name=some g) (d:(P.globals[g]?).map (·.type)=some t)
  (ht:P.underlying t=some (.array n e)) (he:P.underlying e=some (.int k)) (f:P.cellsOf e=1) (i:P.cellsOf t=n) (h:VarReads P w name (tabData k zs)) {cs:List AV} (a:cs=zs.map (AV.int k)):
  ∀o v,cs[o]? =some v->w.cell? ⟨g,o,none⟩=some (wo v):=by
 subst a;intro o v hv;obtain ⟨g',t',cs,fuel,p,j,b,c,hd⟩:=h;obtain rfl:=X4 (hg.symm.trans j);obtain rfl:=X4 (d.symm.trans b);have a:=cells_of_tab ht he f i hd;rw [World.var?_cell hg c o, <- XT,a];simp only [XG,Xq] at hv ⊢;obtain ⟨z,hz,rfl⟩:=hv;exact ⟨z,hz,rfl⟩
theorem G5 {α:Type} {m:Nat}: ∀{a:List (List α)} {o:Nat} {v:α},(∀zs∈a,zs.length=m)->0 < m->a.flatten[o]? =some v-> ∃zs,a[o / m]? =some zs/\zs[o % m]? =some v
 | [],o,v,_,_,h=>by simp at h
 | zs::a,o,v,hl,hm,h=>by
  have b:zs.length=m:=hl zs WS;by_cases ho:o < m
  .refine ⟨zs,by rw [Nat.div_eq_of_lt ho];rfl, ?_⟩;rw [Nat.mod_eq_of_lt ho];rw [List.flatten_cons,Xr (by omega)] at h;exact h
  .rw [List.flatten_cons,XB (by omega),b] at h;obtain ⟨ys,h1,h2⟩:=G5 (fun z hz=>hl z (WZ _ hz)) hm h;have e:o / m=(o - m) / m+1:=by
    rw [Nat.div_eq o m,if_pos ⟨hm,by omega⟩]
   have c:o % m=(o - m) % m:=Nat.mod_eq_sub_mod (by omega);exact ⟨ys,by rw [e];simpa using h1,by rw [c];exact h2⟩
theorem DN {P:Program} {w:World} {name:String} {k:IntKind} {a:List (List Int)} {g:Nat} {t e:TypeId} {n:Nat} {fs:Array Field} (hg:P.globalNamed name=some g) (s:(P.globals[g]?).map (·.type)=some t)
  (ht:P.underlying t=some (.array n e)) (he:P.underlying e=some (.struct fs))
  (hf: ∀(i:Nat) (f:Field),fs[i]? =some f->P.underlying f.type=some (.int k)/\f.offset=i/\P.cellsOf f.type=1) (c:P.cellsOf e=fs.size) (hn:a.length=n) (hpos:0 < fs.size) (hlen: ∀zs∈a,zs.length=fs.size)
  (h:VarReads P w name (.agg (a.map fun zs=> .agg (zs.map fun z=> .lit (.int k z))))) {cs:List AV} (b:cs=a.flatten.map (AV.int k)):
  ∀o v,cs[o]? =some v->w.cell? ⟨g,o,none⟩=some (wo v):=by
 subst b;intro o v hv;obtain ⟨g',t',cs,fuel,p,u,j,l,hd⟩:=h;obtain rfl:=X4 (hg.symm.trans u);obtain rfl:=X4 (s.symm.trans j);simp only [XG,Xq] at hv;obtain ⟨z,hz,rfl⟩:=hv;obtain ⟨zs,h1,h2⟩:=G5 hlen hpos hz;have hi:o / fs.size < n:=by
  rcases Nat.lt_or_ge (o / fs.size) a.length with q | q
  .omega
  .rw [Xu q] at h1;cases h1
 obtain ⟨x,d,q,m,r⟩:=array_elem ht hd (o / fs.size) hi;simp only [XG,h1,Option.map_some,W7] at m;subst m;rw [c] at r;have b:=ints_of_struct he hf c r;have:=Xy (·[o % fs.size]?) b;simp only [List.getElem?_take,X6,XG,h2,Option.map_some] at this;rw [if_pos (Nat.mod_lt _ hpos)] at this;rw [World.var?_cell hg l o, <- XT];have e:o / fs.size * fs.size+o % fs.size=o:=by rw [Nat.mul_comm];exact Nat.div_add_mod o fs.size
 rw [e] at this;simpa [wo] using this
theorem tG {P:Program} {w:World} {l:List (String×DataW Unit)} (h:laidMetH P l w) (hp:(l.all fun x=>x.2.handleName?.isNone)=true) {n:String} {d:DataW Unit} (hm:(n,d)∈l):VarReads P w n d:=by
 rw [laidMetH_plain P l w hp] at h;exact Go.Lib.laidMet.reads h hm
end Go.VM
namespace Go.VM
def C3 {α:Type}:List (Nat×α)->Nat->Option α
 | [],_=>none
 | (k,v)::l,i=>match k.beq i with
  | true=>some v
  | false=>C3 l i
def PC {α:Type} (p:Nat->α->Prop):List (Nat×α)->Prop
 | []=>True
 | (k,v)::l=>p k v/\PC p l
theorem A9 {α:Type} {p:Nat->α->Prop}: ∀{l:List (Nat×α)},PC p l-> ∀k v,C3 l k=some v->p k v
 | [],_,_,_,h=>by cases h
 | (j,u)::l,ha,k,v,h=>by
  unfold C3 at h;split at h
  .rename_i e;cases h;obtain rfl:=W2 e;exact ha.1
  .exact A9 ha.2 k v h
def J7 (P:Program) (l:List Nat) (k:Nat):Option Func:=match l.any fun j=>k.beq j with
 | true=>P.funcs[k]?
 | false=>none
def K6 (fn:Func):Bool:= !(fn.name== "runtime.NumGoroutine")&&(fn.body.isSome&&fn.body.all codeOk)
theorem Pl {P:Program} {l:List Nat} {d:Nat} (hc:(l.all fun k=>match P.funcs[k]? with
  | some fn=>K6 fn
  | none=>true)=true) (f:FuncId) (fn:Func) (h:(Tr.of d (J7 P l)).get f=some fn):Ug P f fn:=by
 have h:=Tr.Cn _ _ _ _ h;unfold J7 at h;split at h
 .rename_i ha;obtain ⟨j,hj,e⟩:=List.any_eq_true.1 ha;obtain rfl:=W2 e;have hg:=XH.1 hc f hj;rw [h] at hg;simp only [K6,WY,Bool.not_eq_true',WX,ne_eq] at hg;obtain ⟨h1,h2,h3⟩:=hg;cases hb:fn.body with
  | none=>rw [hb] at h2;cases h2
  | some c=>
   refine ⟨h,fun args w=> ?_,fun b a=> ?_⟩
   .simp [callFunc,h,h1,hb]
   .rw [a] at h3;exact h3
 .cases h
end Go.VM
