/-
  A part of the proof.
-/
import Derived.Test.YtkbkbndajpbcjaaGreatDoorVmBA
import Derived.Below
import Derived.ChangeSame
set_option linter.all false
namespace Go.VM
open Go.RowKit Go.ChangeShapes
def isInt:AV->Bool
 | .int _ _=>true
 | _=>false
def zd:AV->Value
 | .int k z=> .int k z
 | _=> .nilIface
def tables (G:Nat->Oq LA):Gh:=⟨fun b o=>(G b).bind fun cs=>(cs[o]?).map zd,fun _=>none,fun _=>none⟩
theorem E7 {g:Gh} {v:AV} (h:isInt v=true):R g v (zd v)/\(zd v).oneCell'=true/\bare v=true:=by
 cases v <;> simp [isInt] at h
 simp [zd,R,Value.oneCell',bare]
theorem B4: ∀{cs:LA},cs.all isInt=true->bH cs=true
 | [],_=>rfl
 | v::cs,h=>by
  simp only [abI,aak] at h;show (bare v&&bH cs)=true;simp [(E7 (g:=⟨fun _ _=>none,fun _=>none,fun _=>none⟩) h.1).2.2,B4 h.2]
theorem Cq {H:Type} {enc:Td×Value->H} {P:Program} {f:Func} {s:ChangeSpec} {apart fresh handsOn again:Bool} {W W':World} {args:Array Value} {v:Value} {ds gs:List (DataW H)} {before pa pv:List MemPlace}
  (hW:DataW.Whole enc P f.params.toList s.vars apart W args.toList ds gs before)
  (e: ∀(b:Nat) (sp:Nat->Bool) (k:Bool),DataW.TrodAll enc P W' b sp k f.resultTypes.toList (v.resultList f.resultTypes.size) (s.fn H (ds++gs)).results [])
  (a: ∀sp:Nat->Bool,(∀p∈before,sp p.block=true)->DataW.TrodAll enc P W' 0 sp true f.params.toList args.toList (s.fn H (ds++gs)).args pa)
  (c: ∀sp:Nat->Bool,(∀p∈before,sp p.block=true)->DataW.TrodVars enc P W' sp s.vars (s.fn H (ds++gs)).vars pv)
  (d:before=pa++pv) (i:Below W.heap.size W W')
  (g: ∀(j:Nat) (t:Td) (r:Value),f.resultTypes[j]? =some t->(v.resultList f.resultTypes.size)[j]? =some r->Value.okWide P W' .any 0 t r):
  s.post enc P f apart fresh handsOn again W args v W':=by
 have hold: ∀p∈before,(fun b=>decide (b < W.heap.size)) p.block=true:=fun p hp=>by simpa using hW.lt p hp
 refine ⟨ds,gs,before,[],pa,pv,hW,e _ _ _,a _ hold,c _ hold,World.keptBut_mono (fun p hp=>⟨hp, ?_⟩) (i.frame (· ∈before)),fun _=> ?_⟩
 .rw [d,aaC] at hp;exact Or.inr hp
 .have h:=hW.lt;obtain ⟨_,_,_,_,_,l,hn⟩:=hW;refine ⟨g,_,_,([]++pa)++pv,⟨[]++pa,pv,trodAll_append (a _ (fun _ _=>rfl)) (e _ _ _),c _ (fun _ _=>rfl),rfl, ?_, ?_⟩, ?_⟩
  .intro b off hp;have hm:MemPlace.cell b off∈before:=by rw [d];simpa using hp
   rw [i.frozen (p:=⟨b,off,none⟩) (h _ hm)];exact l b off hm
  .intro m;have:=hn m;rw [d] at this;simpa using this
  .intro p hp _;rw [d];simpa using hp
structure vR (G:Nat->Oq LA) (w:World):Prop where
 bare: ∀b cs,G b=some cs->bH cs=true
 cell: ∀b cs o v,G b=some cs->cs[o]? =some v-> ∃x,w.cell? ⟨b,o,none⟩=some x/\x.oneCell'=true/\ ∀g,R g v x
def RH (w:World) (b:Nat) (cs:LA):Prop:=bH cs=true/\ ∀o v,cs[o]? =some v-> ∃x,w.cell? ⟨b,o,none⟩=some x/\x.oneCell'=true/\ ∀g,R g v x
theorem Ir {w:World} {b:Nat} {cs:LA} (h1:cs.all isInt=true) (c: ∀o v,cs[o]? =some v->w.cell? ⟨b,o,none⟩=some (zd v)): ∀x,some cs=some x->RH w b x:=fun x hx=>by
 cases hx;refine ⟨B4 h1,fun o v a=> ?_⟩;have hi:isInt v=true:=aa7.1 h1 v (aaK a);exact ⟨zd v,c o v a,(E7 (g:=⟨fun _ _=>none,fun _=>none,fun _=>none⟩) hi).2.1,fun g=>(E7 hi).1⟩
theorem YB {w:World} {b:Nat} (h: ∃t y,w.cell? ⟨b,0,none⟩=some (.iface t y)): ∀x,some [AV.opq true]=some x->RH w b x:=fun x hx=>by
 cases hx;refine ⟨rfl,fun o v a=> ?_⟩;obtain ⟨t,y,h⟩:=h
 match o,a with
 | 0,a=>
  simp at a;subst a;exact ⟨_,h,rfl,fun g=>by simp [R]⟩
theorem u4 {w:World} {b:Nat}: ∀x,none=some x->RH w b x:=fun _ h=>by cases h
theorem Qd {t:Tr LA} {w:World} (h:Tr.yw (RH w) t):vR (fun b=>t.get b) w:=⟨fun b cs a=>(Tr.tz t _ h b cs a).1,fun b cs o v a c=>(Tr.tz t _ h b cs a).2 o v c⟩
def mX (w:World):Gh where
 F b o:=w.cell? ⟨b,o,none⟩
 M b:=match w.heap[b]? with
  | some (.map ents clk)=>some (ents.toList,clk)
  | _=>none
 E:=fun _=>none
theorem So {T:TT} (w:World):Inv T (fun b=>w.heap.size<=b) (mX w) St.empty w where
 F b o v a:=a
 M b ents clk hm:=by
  simp only [mX] at hm;split at hm
  .rename_i e c d;simp only [aas,aaj] at hm;obtain ⟨rfl,rfl⟩:=hm;simpa using d
  .cases hm
 E:=fun _ _=>rfl
 H id o ho:=absurd ho St.nK
 D id id' o o' b h1:=absurd h1 St.nK
 own id o b h1:=absurd h1 St.nK
 up b f:=f
theorem UR {G:Nat->Oq LA} {w:World} (h:vR G w):GR (mX w) G:=by
 intro k cs a;refine ⟨h.bare k cs a, ?_⟩;have all: ∀(l:LA) (o:Nat),(∀i v,l[i]? =some v-> ∃x,w.cell? ⟨k,o+i,none⟩=some x/\x.oneCell'=true/\ ∀g,R g v x)->pt (mX w) l k o:=by
  intro l
  induction l with
  | nil=>intro o _;simp only [pt]
  | cons v l ih=>
   intro o b;simp only [pt];obtain ⟨x,c,r2,d⟩:=b 0 v rfl;refine ⟨⟨x,c,r2,d _⟩,ih (o+1) fun i u e=> ?_⟩;have:=b (i+1) u (by simpa using e)
   rwa [show o+(i+1)=o+1+i by omega] at this
 exact all cs 0 fun i v f=>by
  have:=h.cell k cs i v a f
  rwa [aax]
theorem JC {P:Program} {E:Env} (hE:Gw P E) {n:Nat} {f:FuncId} {args:LA} {v:AV} (hrun:(caller E n).bare f args= .ok v)
  (a: ∀args w,(callFunc f args).run P w= .ok (.enter f args) w) {w:World} (d:vR E.G w) {xs:Array Value} (c:bH args=true) (i:RL (mX w) args xs.toList):
  Calls P f xs w fun e w'=> ∃x g,e= .returned x/\R g v x/\Below w.heap.size w w':=by
 have h:=(Du hE n).1.bare f args v hrun (fun b=>w.heap.size<=b) (mX w) St.empty w xs.toList (UR d) c i (So w);rcases h with ⟨x,w',h1,_⟩ | ⟨_,j⟩
 .rw [a] at h1;cases h1
 .refine j.mono ?_;rintro e w' ⟨x,rfl,g',r,_,k⟩;exact ⟨x,g',rfl,r,⟨k.rest.1,k.rest.2.1,k.rest.2.2,k.size,fun b c=>k.heap b (by omega)⟩⟩
end Go.VM
