/-
  (A part of the proof: Close, CloseA.)
-/
import Derived.Test.YtgecmbapkplklaaGreatDoorVmAA
import Derived.Test.YtgecmbapkplklaaGreatDoorVmBA
import Derived.Test.YtgecmbapkplklaaGreatDoorVmAJ
import Derived.Below
import Derived.ChangeSame
set_option linter.unusedSimpArgs false
namespace Go.VM
open Go.RowKit Go.ChangeShapes
def isInt:AV->Bool
 | .int _ _=>true
 | _=>false
def wo:AV->Value
 | .int k z=> .int k z
 | _=> .nilIface
def tables (G:Nat->Option (List AV)):Gh:=⟨fun b o=>(G b).bind fun cs=>(cs[o]?).map wo,fun _=>none,fun _=>none⟩
theorem BP {g:Gh} {v:AV} (h:isInt v=true):R g v (wo v)/\(wo v).oneCell'=true/\bare v=true:=by
 cases v <;> simp [isInt] at h
 simp [wo,R,Value.oneCell',bare]
theorem xz: ∀{cs:List AV},cs.all isInt=true->bL cs=true
 | [],_=>rfl
 | v::cs,h=>by
  simp only [Yq,WY] at h;show (bare v&&bL cs)=true;simp [(BP (g:=⟨fun _ _=>none,fun _=>none,fun _=>none⟩) h.1).2.2,xz h.2]
theorem zU {H:Type} {enc:TypeId×Value->H} {P:Program} {f:Func} {s:ChangeSpec} {apart fresh handsOn again:Bool} {W W':World} {args:Array Value} {v:Value} {ds gs:List (DataW H)} {before pa pv:List MemPlace}
  (hW:DataW.Whole enc P f.params.toList s.vars apart W args.toList ds gs before)
  (d: ∀(b:Nat) (sp:Nat->Bool) (hd:Bool),DataW.TrodAll enc P W' b sp hd f.resultTypes.toList (v.resultList f.resultTypes.size) (s.fn H (ds++gs)).results [])
  (a: ∀sp:Nat->Bool,(∀p∈before,sp p.block=true)->DataW.TrodAll enc P W' 0 sp true f.params.toList args.toList (s.fn H (ds++gs)).args pa)
  (c: ∀sp:Nat->Bool,(∀p∈before,sp p.block=true)->DataW.TrodVars enc P W' sp s.vars (s.fn H (ds++gs)).vars pv)
  (hps:before=pa++pv) (h:Below W.heap.size W W')
  (e: ∀(j:Nat) (t:TypeId) (r:Value),f.resultTypes[j]? =some t->(v.resultList f.resultTypes.size)[j]? =some r->Value.okWide P W' .any 0 t r):
  s.post enc P f apart fresh handsOn again W args v W':=by
 have hold: ∀p∈before,(fun b=>decide (b < W.heap.size)) p.block=true:=fun p hp=>by simpa using hW.lt p hp
 refine ⟨ds,gs,before,[],pa,pv,hW,d _ _ _,a _ hold,c _ hold,World.keptBut_mono (fun p hp=>⟨hp, ?_⟩) (h.frame (· ∈before)),fun _=> ?_⟩
 .rw [hps,Xj] at hp;exact Or.inr hp
 .have g:=hW.lt;obtain ⟨_,_,_,_,_,hz,hn⟩:=hW;refine ⟨e,_,_,([]++pa)++pv,⟨[]++pa,pv,trodAll_append (a _ (fun _ _=>rfl)) (d _ _ _),c _ (fun _ _=>rfl),rfl, ?_, ?_⟩, ?_⟩
  .intro b off hp;have hm:MemPlace.cell b off∈before:=by rw [hps];simpa using hp
   rw [h.frozen (p:=⟨b,off,none⟩) (g _ hm)];exact hz b off hm
  .intro ha;have:=hn ha;rw [hps] at this;simpa using this
  .intro p hp _;rw [hps];simpa using hp
structure tL (G:Nat->Option (List AV)) (w:World):Prop where
 bare: ∀b cs,G b=some cs->bL cs=true
 cell: ∀b cs o v,G b=some cs->cs[o]? =some v-> ∃x,w.cell? ⟨b,o,none⟩=some x/\x.oneCell'=true/\ ∀g,R g v x
def M4 (w:World) (b:Nat) (cs:List AV):Prop:=bL cs=true/\ ∀o v,cs[o]? =some v-> ∃x,w.cell? ⟨b,o,none⟩=some x/\x.oneCell'=true/\ ∀g,R g v x
theorem GQ {w:World} {b:Nat} {cs:List AV} (h1:cs.all isInt=true) (h2: ∀o v,cs[o]? =some v->w.cell? ⟨b,o,none⟩=some (wo v)): ∀x,some cs=some x->M4 w b x:=fun x hx=>by
 cases hx;refine ⟨xz h1,fun o v hv=> ?_⟩;have hi:isInt v=true:=XH.1 h1 v (Xo hv);exact ⟨wo v,h2 o v hv,(BP (g:=⟨fun _ _=>none,fun _=>none,fun _=>none⟩) hi).2.1,fun g=>(BP hi).1⟩
theorem Te {w:World} {b:Nat} (h: ∃t y,w.cell? ⟨b,0,none⟩=some (.iface t y)): ∀x,some [AV.opq true]=some x->M4 w b x:=fun x hx=>by
 cases hx;refine ⟨rfl,fun o v hv=> ?_⟩;obtain ⟨t,y,h⟩:=h
 match o,hv with
 | 0,hv=>
  simp at hv;subst hv;exact ⟨_,h,rfl,fun g=>by simp [R]⟩
theorem r8 {w:World} {b:Nat}: ∀x,none=some x->M4 w b x:=fun _ h=>by cases h
theorem MJ {t:Tr (List AV)} {w:World} (h:Tr.vR (M4 w) t):tL (fun b=>t.get b) w:=⟨fun b cs hb=>(Tr.qV t _ h b cs hb).1,fun b cs o v hb hv=>(Tr.qV t _ h b cs hb).2 o v hv⟩
def lj (w:World):Gh where
 F b o:=w.cell? ⟨b,o,none⟩
 M b:=match w.heap[b]? with
  | some (.map ents clk)=>some (ents.toList,clk)
  | _=>none
 E:=fun _=>none
theorem NR {T:TT} (w:World):Inv T (fun b=>w.heap.size<=b) (lj w) St.empty w where
 F b o v hv:=hv
 M b ents clk hm:=by
  simp only [lj] at hm;split at hm
  .rename_i e c a;simp only [W7,WV] at hm;obtain ⟨rfl,rfl⟩:=hm;simpa using a
  .cases hm
 E:=fun _ _=>rfl
 H id o ho:=absurd ho St.lL
 D id id' o o' b h1:=absurd h1 St.lL
 own id o b h1:=absurd h1 St.lL
 up b hb:=hb
theorem RD {G:Nat->Option (List AV)} {w:World} (h:tL G w):GR (lj w) G:=by
 intro k cs hk;refine ⟨h.bare k cs hk, ?_⟩;have all: ∀(l:List AV) (o:Nat),(∀i v,l[i]? =some v-> ∃x,w.cell? ⟨k,o+i,none⟩=some x/\x.oneCell'=true/\ ∀g,R g v x)->nI (lj w) l k o:=by
  intro l
  induction l with
  | nil=>intro o _;simp only [nI]
  | cons v l ih=>
   intro o h2;simp only [nI];obtain ⟨x,a,r2,b⟩:=h2 0 v rfl;refine ⟨⟨x,a,r2,b _⟩,ih (o+1) fun i u hu=> ?_⟩;have:=h2 (i+1) u (by simpa using hu)
   rwa [show o+(i+1)=o+1+i by omega] at this
 exact all cs 0 fun i v hv=>by
  have:=h.cell k cs i v hk hv
  rwa [Xd]
theorem Fb {P:Program} {E:Env} (hE:El P E) {n:Nat} {f:FuncId} {args:List AV} {v:AV} (hrun:(caller E n).bare f args= .ok v)
  (a: ∀args w,(callFunc f args).run P w= .ok (.enter f args) w) {w:World} (c:tL E.G w) {xs:Array Value} (hb:bL args=true) (hr:RL (lj w) args xs.toList):
  Calls P f xs w fun e w'=> ∃x g,e= .returned x/\R g v x/\Below w.heap.size w w':=by
 have h:=(AB hE n).1.bare f args v hrun (fun b=>w.heap.size<=b) (lj w) St.empty w xs.toList (RD c) hb hr (NR w);rcases h with ⟨x,w',h1,_⟩ | ⟨_,h2⟩
 .rw [a] at h1;cases h1
 .refine h2.mono ?_;rintro e w' ⟨x,rfl,g',r,_,k⟩;exact ⟨x,g',rfl,r,⟨k.rest.1,k.rest.2.1,k.rest.2.2,k.size,fun b hb=>k.heap b (by omega)⟩⟩
end Go.VM
