/-
  A part of the proof.
-/
import Derived.Test.YtkpeicabocpbkaaGreatDoorVmBA
import Derived.Below
import Derived.ChangeSame
set_option linter.all false
namespace Go.VM
open Go.RowKit Go.ChangeShapes
def isInt:AV->Bool
 | .int _ _=>true
 | _=>false
def yc:AV->Value
 | .int k z=> .int k z
 | _=> .nilIface
def tables (G:Nat->Oq LA):Gh:=⟨fun b o=>(G b).bind fun cs=>(cs[o]?).map yc,fun _=>none,fun _=>none⟩
theorem D9 {g:Gh} {v:AV} (h:isInt v=true):R g v (yc v)/\(yc v).oneCell'=true/\bare v=true:=by
 cases v <;> simp [isInt] at h
 simp [yc,R,Value.oneCell',bare]
theorem yM: ∀{cs:LA},cs.all isInt=true->bN cs=true
 | [],_=>rfl
 | v::cs,h=>by
  simp only [abU,aaf] at h;show (bare v&&bN cs)=true;simp [(D9 (g:=⟨fun _ _=>none,fun _=>none,fun _=>none⟩) h.1).2.2,yM h.2]
theorem BG {H:Type} {enc:Td×Value->H} {P:Program} {f:Func} {s:ChangeSpec} {apart fresh handsOn again:Bool} {W W':World} {args:Array Value} {v:Value} {ds gs:List (DataW H)} {before pa pv:List MemPlace}
  (hW:DataW.Whole enc P f.params.toList s.vars apart W args.toList ds gs before)
  (g: ∀(b:Nat) (sp:Nat->Bool) (hd:Bool),DataW.TrodAll enc P W' b sp hd f.resultTypes.toList (v.resultList f.resultTypes.size) (s.fn H (ds++gs)).results [])
  (a: ∀sp:Nat->Bool,(∀p∈before,sp p.block=true)->DataW.TrodAll enc P W' 0 sp true f.params.toList args.toList (s.fn H (ds++gs)).args pa)
  (c: ∀sp:Nat->Bool,(∀p∈before,sp p.block=true)->DataW.TrodVars enc P W' sp s.vars (s.fn H (ds++gs)).vars pv)
  (d:before=pa++pv) (k:Below W.heap.size W W')
  (h: ∀(j:Nat) (t:Td) (r:Value),f.resultTypes[j]? =some t->(v.resultList f.resultTypes.size)[j]? =some r->Value.okWide P W' .any 0 t r):
  s.post enc P f apart fresh handsOn again W args v W':=by
 have hold: ∀p∈before,(fun b=>decide (b < W.heap.size)) p.block=true:=fun p e=>by simpa using hW.lt p e
 refine ⟨ds,gs,before,[],pa,pv,hW,g _ _ _,a _ hold,c _ hold,World.keptBut_mono (fun p e=>⟨e, ?_⟩) (k.frame (· ∈before)),fun _=> ?_⟩
 .rw [d,aaA] at e;exact Or.inr e
 .have i:=hW.lt;obtain ⟨_,_,_,_,_,l,hn⟩:=hW;refine ⟨h,_,_,([]++pa)++pv,⟨[]++pa,pv,trodAll_append (a _ (fun _ _=>rfl)) (g _ _ _),c _ (fun _ _=>rfl),rfl, ?_, ?_⟩, ?_⟩
  .intro b off e;have hm:MemPlace.cell b off∈before:=by rw [d];simpa using e
   rw [k.frozen (p:=⟨b,off,none⟩) (i _ hm)];exact l b off hm
  .intro m;have:=hn m;rw [d] at this;simpa using this
  .intro p e _;rw [d];simpa using e
structure uM (G:Nat->Oq LA) (w:World):Prop where
 bare: ∀b cs,G b=some cs->bN cs=true
 cell: ∀b cs o v,G b=some cs->cs[o]? =some v-> ∃x,w.cell? ⟨b,o,none⟩=some x/\x.oneCell'=true/\ ∀g,R g v x
def QI (w:World) (b:Nat) (cs:LA):Prop:=bN cs=true/\ ∀o v,cs[o]? =some v-> ∃x,w.cell? ⟨b,o,none⟩=some x/\x.oneCell'=true/\ ∀g,R g v x
theorem HY {w:World} {b:Nat} {cs:LA} (h1:cs.all isInt=true) (c: ∀o v,cs[o]? =some v->w.cell? ⟨b,o,none⟩=some (yc v)): ∀x,some cs=some x->QI w b x:=fun x hx=>by
 cases hx;refine ⟨yM h1,fun o v a=> ?_⟩;have hi:isInt v=true:=abd.1 h1 v (aaJ a);exact ⟨yc v,c o v a,(D9 (g:=⟨fun _ _=>none,fun _=>none,fun _=>none⟩) hi).2.1,fun g=>(D9 hi).1⟩
theorem Xo {w:World} {b:Nat} (h: ∃t y,w.cell? ⟨b,0,none⟩=some (.iface t y)): ∀x,some [AV.opq true]=some x->QI w b x:=fun x hx=>by
 cases hx;refine ⟨rfl,fun o v a=> ?_⟩;obtain ⟨t,y,h⟩:=h
 match o,a with
 | 0,a=>
  simp at a;subst a;exact ⟨_,h,rfl,fun g=>by simp [R]⟩
theorem tL {w:World} {b:Nat}: ∀x,none=some x->QI w b x:=fun _ h=>by cases h
theorem Pt {t:Tr LA} {w:World} (h:Tr.xN (QI w) t):uM (fun b=>t.get b) w:=⟨fun b cs a=>(Tr.se t _ h b cs a).1,fun b cs o v a c=>(Tr.se t _ h b cs a).2 o v c⟩
def lf (w:World):Gh where
 F b o:=w.cell? ⟨b,o,none⟩
 M b:=match w.heap[b]? with
  | some (.map ents clk)=>some (ents.toList,clk)
  | _=>none
 E:=fun _=>none
theorem Ro {T:TT} (w:World):Inv T (fun b=>w.heap.size<=b) (lf w) St.empty w where
 F b o v a:=a
 M b ents clk hm:=by
  simp only [lf] at hm;split at hm
  .rename_i e c d;simp only [aav,aag] at hm;obtain ⟨rfl,rfl⟩:=hm;simpa using d
  .cases hm
 E:=fun _ _=>rfl
 H id o ho:=absurd ho St.mq
 D id id' o o' b h1:=absurd h1 St.mq
 own id o b h1:=absurd h1 St.mq
 up b f:=f
theorem U0 {G:Nat->Oq LA} {w:World} (h:uM G w):GR (lf w) G:=by
 intro k cs a;refine ⟨h.bare k cs a, ?_⟩;have all: ∀(l:LA) (o:Nat),(∀i v,l[i]? =some v-> ∃x,w.cell? ⟨k,o+i,none⟩=some x/\x.oneCell'=true/\ ∀g,R g v x)->oH (lf w) l k o:=by
  intro l
  induction l with
  | nil=>intro o _;simp only [oH]
  | cons v l ih=>
   intro o b;simp only [oH];obtain ⟨x,c,r2,d⟩:=b 0 v rfl;refine ⟨⟨x,c,r2,d _⟩,ih (o+1) fun i u e=> ?_⟩;have:=b (i+1) u (by simpa using e)
   rwa [show o+(i+1)=o+1+i by omega] at this
 exact all cs 0 fun i v f=>by
  have:=h.cell k cs i v a f
  rwa [aau]
theorem Hv {P:Program} {E:Env} (hE:Hh P E) {n:Nat} {f:FuncId} {args:LA} {v:AV} (hrun:(caller E n).bare f args= .ok v)
  (a: ∀args w,(callFunc f args).run P w= .ok (.enter f args) w) {w:World} (d:uM E.G w) {xs:Array Value} (c:bN args=true) (i:RL (lf w) args xs.toList):
  Calls P f xs w fun e w'=> ∃x g,e= .returned x/\R g v x/\Below w.heap.size w w':=by
 have h:=(Cr hE n).1.bare f args v hrun (fun b=>w.heap.size<=b) (lf w) St.empty w xs.toList (U0 d) c i (Ro w);rcases h with ⟨x,w',h1,_⟩ | ⟨_,j⟩
 .rw [a] at h1;cases h1
 .refine j.mono ?_;rintro e w' ⟨x,rfl,g',r,_,k⟩;exact ⟨x,g',rfl,r,⟨k.rest.1,k.rest.2.1,k.rest.2.2,k.size,fun b c=>k.heap b (by omega)⟩⟩
end Go.VM
