/-
  (A part of the proof: Close, CloseA.)
-/
import Derived.Test.YtmhofncehlaamaaGreatDoorVmAA
import Derived.Test.YtmhofncehlaamaaGreatDoorVmBA
import Derived.Test.YtmhofncehlaamaaGreatDoorVmAJ
import Derived.Below
import Derived.ChangeSame
set_option linter.unusedSimpArgs false
namespace Go.VM
open Go.RowKit Go.ChangeShapes
def isInt:AV→Bool
 | .int _ _=>true
 | _=>false
def rY:AV→Value
 | .int k z=> .int k z
 | _=> .nilIface
def tables (G:Nat→Option (List AV)):Gh:=⟨fun b o=>(G b).bind fun cs=>(cs[o]?).map rY,fun _=>none,fun _=>none⟩
structure EP (G:Nat→Option (List AV)) (w:World):Prop where
 ints: ∀b cs,G b=some cs→cs.all isInt=true
 cell: ∀b cs o v,G b=some cs→cs[o]? =some v→w.cell? ⟨b,o,none⟩=some (rY v)
theorem wg {g:Gh} {v:AV} (h:isInt v=true):R g v (rY v)∧(rY v).oneCell'=true∧bare v=true:=by
 cases v <;> simp [isInt] at h
 simp [rY,R,Value.oneCell',bare]
theorem rL: ∀{cs:List AV},cs.all isInt=true→bx cs=true
 | [],_=>rfl
 | v::cs,h=>by
  simp only [WO,Vl] at h;show (bare v&&bx cs)=true;simp [(wg (g:=⟨fun _ _=>none,fun _=>none,fun _=>none⟩) h.1).2.2,rL h.2]
theorem FP {G:Nat→Option (List AV)} {T:TT} {w:World} (h:EP G w):Inv T (fun b=>w.heap.size≤b) (tables G) St.empty w where
 F b o v hv:=by
  simp only [tables] at hv;obtain ⟨cs,h1,h2⟩:=Ws.1 hv;obtain ⟨u,h3,rfl⟩:=VO.1 h2;exact h.cell b cs o u h1 h3
 M b ents clk hm:=by cases hm
 E:=fun _ _=>rfl
 H id o ho:=absurd ho St.gY
 D id id' o o' b h1:=absurd h1 St.gY
 own id o b h1:=absurd h1 St.gY
 up b hb:=hb
theorem HG {G:Nat→Option (List AV)} {w:World} (h:EP G w):GR (tables G) G:=by
 intro k cs hk;refine ⟨rL (h.ints k cs hk), ?_⟩;have all: ∀(l:List AV) (o:Nat),l.all isInt=true→(∀i v,l[i]? =some v→(tables G).F k (o+i)=some (rY v))→mi (tables G) l k o:=by
  intro l
  induction l with
  | nil=>intro o _ _;simp only [mi]
  | cons v l ih=>
   intro o h1 h2;simp only [WO,Vl] at h1;simp only [mi];have r:=wg (g:=tables G) h1.1;refine ⟨⟨rY v,by have:=h2 0 v rfl;simpa using this,r.2.1,r.1⟩,ih (o+1) h1.2 fun i u hu=> ?_⟩;have:=h2 (i+1) u (by simpa using hu)
   rwa [show o+(i+1)=o+1+i by omega] at this
 refine all cs 0 (h.ints k cs hk) fun i v hv=> ?_;simp only [tables,hk,Option.bind_some,VC,hv,Option.map_some]
theorem closed {P:Program} {E:Env} (hE:zI P E) {n:Nat} {f:FuncId} {v:AV} (hrun:(caller E n).bare f []= .ok v)
  (hcall: ∀args w,(callFunc f args).run P w= .ok (.enter f args) w) {w:World} (hG:EP E.G w):
  Calls P f #[] w fun e w'=> ∃x g,e= .returned x∧R g v x∧Below w.heap.size w w':=by
 have h:=(tZ hE n).1.bare f [] v hrun (fun b=>w.heap.size≤b) (tables E.G) St.empty w [] (HG hG) rfl (by simp only [RL]) (FP hG);rcases h with ⟨x,w',h1,_⟩ | ⟨_,h2⟩
 ·rw [hcall] at h1;cases h1
 ·refine h2.mono ?_;rintro e w' ⟨x,rfl,g',r,_,k⟩;exact ⟨x,g',rfl,r,⟨k.rest.1,k.rest.2.1,k.rest.2.2,k.size,fun b hb=>k.heap b (by omega)⟩⟩
theorem zz {H:Type} {enc:TypeId×Value→H} {P:Program} {f:Func} {s:ChangeSpec} {apart fresh handsOn again:Bool} {W W':World} {args:Array Value} {v:Value} {ds gs:List (DataW H)} {before pa pv:List MemPlace}
  (hW:DataW.Whole enc P f.params.toList s.vars apart W args.toList ds gs before)
  (hres: ∀(b:Nat) (sp:Nat→Bool) (hd:Bool),DataW.TrodAll enc P W' b sp hd f.resultTypes.toList (v.resultList f.resultTypes.size) (s.fn H (ds++gs)).results [])
  (hargs: ∀sp:Nat→Bool,(∀p∈before,sp p.block=true)→DataW.TrodAll enc P W' 0 sp true f.params.toList args.toList (s.fn H (ds++gs)).args pa)
  (hvars: ∀sp:Nat→Bool,(∀p∈before,sp p.block=true)→DataW.TrodVars enc P W' sp s.vars (s.fn H (ds++gs)).vars pv)
  (hps:before=pa++pv) (hB:Below W.heap.size W W')
  (hok: ∀(j:Nat) (t:TypeId) (r:Value),f.resultTypes[j]? =some t→(v.resultList f.resultTypes.size)[j]? =some r→Value.okWide P W' .any 0 t r):
  s.post enc P f apart fresh handsOn again W args v W':=by
 have hold: ∀p∈before,(fun b=>decide (b < W.heap.size)) p.block=true:=fun p hp=>by simpa using hW.lt p hp
 refine ⟨ds,gs,before,[],pa,pv,hW,hres _ _ _,hargs _ hold,hvars _ hold,World.keptBut_mono (fun p hp=>⟨hp, ?_⟩) (hB.frame (· ∈before)),fun _=> ?_⟩
 ·rw [hps,VE] at hp;exact Or.inr hp
 ·have hlt:=hW.lt;obtain ⟨_,_,_,_,_,hz,hn⟩:=hW;refine ⟨hok,_,_,([]++pa)++pv,⟨[]++pa,pv,trodAll_append (hargs _ (fun _ _=>rfl)) (hres _ _ _),hvars _ (fun _ _=>rfl),rfl, ?_, ?_⟩, ?_⟩
  ·intro b off hp;have hm:MemPlace.cell b off∈before:=by rw [hps];simpa using hp
   rw [hB.frozen (p:=⟨b,off,none⟩) (hlt _ hm)];exact hz b off hm
  ·intro ha;have:=hn ha;rw [hps] at this;simpa using this
  ·intro p hp _;rw [hps];simpa using hp
structure sI (G:Nat→Option (List AV)) (w:World):Prop where
 bare: ∀b cs,G b=some cs→bx cs=true
 cell: ∀b cs o v,G b=some cs→cs[o]? =some v→ ∃x,w.cell? ⟨b,o,none⟩=some x∧x.oneCell'=true∧ ∀g,R g v x
def Oq (w:World) (b:Nat) (cs:List AV):Prop:=bx cs=true∧ ∀o v,cs[o]? =some v→ ∃x,w.cell? ⟨b,o,none⟩=some x∧x.oneCell'=true∧ ∀g,R g v x
theorem E4 {w:World} {b:Nat} {cs:List AV} (h1:cs.all isInt=true) (h2: ∀o v,cs[o]? =some v→w.cell? ⟨b,o,none⟩=some (rY v)): ∀x,some cs=some x→Oq w b x:=fun x hx=>by
 cases hx;refine ⟨rL h1,fun o v hv=> ?_⟩;have hi:isInt v=true:=Wf.1 h1 v (VQ hv);exact ⟨rY v,h2 o v hv,(wg (g:=⟨fun _ _=>none,fun _=>none,fun _=>none⟩) hi).2.1,fun g=>(wg hi).1⟩
theorem Sz {w:World} {b:Nat} (h: ∃t y,w.cell? ⟨b,0,none⟩=some (.iface t y)): ∀x,some [AV.opq true]=some x→Oq w b x:=fun x hx=>by
 cases hx;refine ⟨rfl,fun o v hv=> ?_⟩;obtain ⟨t,y,h⟩:=h
 match o,hv with
 | 0,hv=>
  simp at hv;subst hv;exact ⟨_,h,rfl,fun g=>by simp [R]⟩
theorem rP {w:World} {b:Nat}: ∀x,none=some x→Oq w b x:=fun _ h=>by cases h
theorem Mm {t:Tr (List AV)} {w:World} (h:Tr.ri (Oq w) t):sI (fun b=>t.get b) w:=⟨fun b cs hb=>(Tr.ly t _ h b cs hb).1,fun b cs o v hb hv=>(Tr.ly t _ h b cs hb).2 o v hv⟩
def kY (w:World):Gh where
 F b o:=w.cell? ⟨b,o,none⟩
 M b:=match w.heap[b]? with
  | some (.map ents clk)=>some (ents.toList,clk)
  | _=>none
 E:=fun _=>none
theorem MG {T:TT} (w:World):Inv T (fun b=>w.heap.size≤b) (kY w) St.empty w where
 F b o v hv:=hv
 M b ents clk hm:=by
  simp only [kY] at hm;split at hm
  ·rename_i e c hh;simp only [Vt,Vk] at hm;obtain ⟨rfl,rfl⟩:=hm;simpa using hh
  ·cases hm
 E:=fun _ _=>rfl
 H id o ho:=absurd ho St.gY
 D id id' o o' b h1:=absurd h1 St.gY
 own id o b h1:=absurd h1 St.gY
 up b hb:=hb
theorem Q3 {G:Nat→Option (List AV)} {w:World} (h:sI G w):GR (kY w) G:=by
 intro k cs hk;refine ⟨h.bare k cs hk, ?_⟩;have all: ∀(l:List AV) (o:Nat),(∀i v,l[i]? =some v→ ∃x,w.cell? ⟨k,o+i,none⟩=some x∧x.oneCell'=true∧ ∀g,R g v x)→mi (kY w) l k o:=by
  intro l
  induction l with
  | nil=>intro o _;simp only [mi]
  | cons v l ih=>
   intro o h2;simp only [mi];obtain ⟨x,r1,r2,r3⟩:=h2 0 v rfl;refine ⟨⟨x,r1,r2,r3 _⟩,ih (o+1) fun i u hu=> ?_⟩;have:=h2 (i+1) u (by simpa using hu)
   rwa [show o+(i+1)=o+1+i by omega] at this
 exact all cs 0 fun i v hv=>by
  have:=h.cell k cs i v hk hv
  rwa [VC]
theorem F0 {P:Program} {E:Env} (hE:zI P E) {n:Nat} {f:FuncId} {args:List AV} {v:AV} (hrun:(caller E n).bare f args= .ok v)
  (hcall: ∀args w,(callFunc f args).run P w= .ok (.enter f args) w) {w:World} (hG:sI E.G w) {xs:Array Value} (hb:bx args=true) (hr:RL (kY w) args xs.toList):
  Calls P f xs w fun e w'=> ∃x g,e= .returned x∧R g v x∧Below w.heap.size w w':=by
 have h:=(tZ hE n).1.bare f args v hrun (fun b=>w.heap.size≤b) (kY w) St.empty w xs.toList (Q3 hG) hb hr (MG w);rcases h with ⟨x,w',h1,_⟩ | ⟨_,h2⟩
 ·rw [hcall] at h1;cases h1
 ·refine h2.mono ?_;rintro e w' ⟨x,rfl,g',r,_,k⟩;exact ⟨x,g',rfl,r,⟨k.rest.1,k.rest.2.1,k.rest.2.2,k.size,fun b hb=>k.heap b (by omega)⟩⟩
end Go.VM
