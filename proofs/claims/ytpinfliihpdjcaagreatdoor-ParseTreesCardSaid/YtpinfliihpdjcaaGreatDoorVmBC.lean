/-
  A part of the proof.
-/
import Derived.Test.YtpinfliihpdjcaaGreatDoorVmBB
import Derived.Below
import Derived.ChangeSame
set_option linter.all false
namespace Go.VM
open Go.RowKit Go.ChangeShapes
def isInt:AV->Bool
 | .int _ _=>true
 | _=>false
def qB:AV->Value
 | .int k z=> .int k z
 | _=> .nilIface
def tables (G:Nat->Option (List AV)):Gh:=⟨fun b o=>(G b).bind fun cs=>(cs[o]?).map qB,fun _=>none,fun _=>none,False⟩
theorem vX {g:Gh} {v:AV} (h:isInt v=true):R g v (qB v)/\(qB v).oneCell'=true/\bare v=true:=by
 cases v <;> simp [isInt] at h
 simp [qB,R,Value.oneCell',bare]
theorem sM: ∀{cs:List AV},cs.all isInt=true->bx cs=true
 | [],_=>rfl
 | v::cs,h=>by
  simp only [Pm,N0] at h;show (bare v&&bx cs)=true;simp [(vX (g:=⟨fun _ _=>none,fun _=>none,fun _=>none,False⟩) h.1).2.2,sM h.2]
theorem tP {H:Type} {enc:TypeId×Value->H} {P:Program} {f:Func} {s:ChangeSpec} {apart fresh handsOn again:Bool} {W W':World} {args:Array Value} {v:Value} {ds gs:List (DataW H)} {before pa pv:List MemPlace}
  (hW:DataW.Whole enc P f.params.toList s.vars apart W args.toList ds gs before)
  (g: ∀(b:Nat) (sp:Nat->Bool) (hd:Bool),DataW.TrodAll enc P W' b sp hd f.resultTypes.toList (v.resultList f.resultTypes.size) (s.fn H (ds++gs)).results [])
  (a: ∀sp:Nat->Bool,(∀p∈before,sp p.block=true)->DataW.TrodAll enc P W' 0 sp true f.params.toList args.toList (s.fn H (ds++gs)).args pa)
  (c: ∀sp:Nat->Bool,(∀p∈before,sp p.block=true)->DataW.TrodVars enc P W' sp s.vars (s.fn H (ds++gs)).vars pv)
  (d:before=pa++pv) (hB:Below W.heap.size W W')
  (h: ∀(j:Nat) (t:TypeId) (r:Value),f.resultTypes[j]? =some t->(v.resultList f.resultTypes.size)[j]? =some r->Value.okWide P W' .any 0 t r):
  s.post enc P f apart fresh handsOn again W args v W':=by
 have hold: ∀p∈before,(fun b=>decide (b < W.heap.size)) p.block=true:=fun p e=>by simpa using hW.lt p e
 refine ⟨ds,gs,before,[],pa,pv,hW,g _ _ _,a _ hold,c _ hold,World.keptBut_mono (fun p e=>⟨e, ?_⟩) (hB.frame (· ∈before)),fun _=> ?_⟩
 .rw [d,N9] at e;exact Or.inr e
 .have i:=hW.lt;obtain ⟨_,_,_,_,_,l,m⟩:=hW;refine ⟨h,_,_,([]++pa)++pv,⟨[]++pa,pv,trodAll_append (a _ (fun _ _=>rfl)) (g _ _ _),c _ (fun _ _=>rfl),rfl, ?_, ?_⟩, ?_⟩
  .intro b off e;have k:MemPlace.cell b off∈before:=by rw [d];simpa using e
   rw [hB.frozen (p:=⟨b,off,none⟩) (i _ k)];exact l b off k
  .intro n;have:=m n;rw [d] at this;simpa using this
  .intro p e _;rw [d];simpa using e
structure ca (G:Nat->Option (List AV)) (w:World):Prop where
 bare: ∀b cs,G b=some cs->bx cs=true
 cell: ∀b cs o v,G b=some cs->cs[o]? =some v-> ∃x,w.cell? ⟨b,o,none⟩=some x/\x.oneCell'=true/\ ∀g,R g v x
def FO (w:World) (b:Nat) (cs:List AV):Prop:=bx cs=true/\ ∀o v,cs[o]? =some v-> ∃x,w.cell? ⟨b,o,none⟩=some x/\x.oneCell'=true/\ ∀g,R g v x
theorem Al {w:World} {b:Nat} {cs:List AV} (h1:cs.all isInt=true) (c: ∀o v,cs[o]? =some v->w.cell? ⟨b,o,none⟩=some (qB v)): ∀x,some cs=some x->FO w b x:=fun x d=>by
 cases d;refine ⟨sM h1,fun o v a=> ?_⟩;have hi:isInt v=true:=Ox.1 h1 v (Ob a);exact ⟨qB v,c o v a,(vX (g:=⟨fun _ _=>none,fun _=>none,fun _=>none,False⟩) hi).2.1,fun g=>(vX hi).1⟩
theorem KJ {w:World} {b:Nat} (h: ∃t y,w.cell? ⟨b,0,none⟩=some (.iface t y)): ∀x,some [AV.opq true]=some x->FO w b x:=fun x c=>by
 cases c;refine ⟨rfl,fun o v a=> ?_⟩;obtain ⟨t,y,h⟩:=h
 match o,a with
 | 0,a=>
  simp at a;subst a;exact ⟨_,h,rfl,fun g=>by simp [R]⟩
theorem nz {w:World} {b:Nat}: ∀x,none=some x->FO w b x:=fun _ h=>by cases h
theorem GX {t:Tr (List AV)} {w:World} (h:Tr.qb (FO w) t):ca (fun b=>t.get b) w:=⟨fun b cs a=>(Tr.mj t _ h b cs a).1,fun b cs o v a c=>(Tr.mj t _ h b cs a).2 o v c⟩
def eB (w:World):Gh where
 F b o:=w.cell? ⟨b,o,none⟩
 M b:=match w.heap[b]? with
  | some (.map ents clk)=>some (ents.toList,clk)
  | _=>none
 E:=fun _=>none
 C:=False
theorem FX {T:TT} (w:World):Inv T (fun b=>w.heap.size<=b) (eB w) St.empty w where
 F b o v d:=d
 M b ents clk a:=by
  simp only [eB] at a;split at a
  .rename_i e c f;simp only [N1,NU] at a;obtain ⟨rfl,rfl⟩:=a;simpa using f
  .cases a
 E:=fun _ _=>rfl
 H id o ho:=absurd ho St.eE
 D id id' o o' b h1:=absurd h1 St.eE
 own id o b h1:=absurd h1 St.eE
 up b g:=g
 C c:=c.elim
theorem I0 {G:Nat->Option (List AV)} {w:World} (h:ca G w):GR (eB w) G:=by
 intro k cs a;refine ⟨h.bare k cs a, ?_,fun _ c=>c⟩;have all: ∀(l:List AV) (o:Nat),(∀i v,l[i]? =some v-> ∃x,w.cell? ⟨k,o+i,none⟩=some x/\x.oneCell'=true/\ ∀g,R g v x)->ig (eB w) l k o:=by
  intro l
  induction l with
  | nil=>intro o _;simp only [ig]
  | cons v l ih=>
   intro o b;simp only [ig];obtain ⟨x,d,e,f⟩:=b 0 v rfl;refine ⟨⟨x,d,e,f _⟩,ih (o+1) fun i u j=> ?_⟩;have:=b (i+1) u (by simpa using j)
   rwa [show o+(i+1)=o+1+i by omega] at this
 exact all cs 0 fun i v m=>by
  have:=h.cell k cs i v a m
  rwa [N5]
theorem rD {P:Program} {E:Env} (i:uF P E) {n:Nat} {f:FuncId} {args:List AV} {v:AV} (c:(caller E n).bare f args= .ok v)
  (a: ∀args w,(callFunc f args).run P w= .ok (.enter f args) w) {w:World} (hG:ca E.G w) {xs:Array Value} (d:bx args=true) (j:RL (eB w) args xs.toList):
  Calls P f xs w fun e w'=> ∃x g,e= .returned x/\R g v x/\Below w.heap.size w w':=by
 have h:=(pA i n).1.bare f args v c (fun b=>w.heap.size<=b) (eB w) St.empty w xs.toList (I0 hG) d j (FX w);rcases h with ⟨x,w',h1,_⟩ | ⟨_,l⟩
 .rw [a] at h1;cases h1
 .refine l.mono ?_;rintro e w' ⟨x,rfl,g',r,_,k⟩;exact ⟨x,g',rfl,r,⟨k.rest.1,k.rest.2.1,k.rest.2.2,k.size,fun b d=>k.heap b (by omega)⟩⟩
def qm (G:Nat->Option (List AV)) (w:World):Gh where
 F b o:=(G b).bind fun cs=>if o < cs.length then w.cell? ⟨b,o,none⟩ else none
 M _:=none
 E _:=none
 C:=True
theorem Gt {G:Nat->Option (List AV)} {T:TT} {w:World}:Inv T (fun b=>w.heap.size<=b) (qm G w) St.empty w where
 F b o v c:=by
  simp only [qm] at c;obtain ⟨cs,_,a⟩:=OB.1 c;split at a
  .exact a
  .cases a
 M b ents clk e:=by cases e
 E:=fun _ _=>rfl
 H id o ho:=absurd ho St.eE
 D id id' o o' b h1:=absurd h1 St.eE
 own id o b h1:=absurd h1 St.eE
 up b f:=f
 C _:=by
  refine ⟨fun b o v d c=> ?_,fun _ _ _ h1=>absurd h1 St.eE⟩;simp only [qm] at c;obtain ⟨cs,_,a⟩:=OB.1 c;split at a
  .obtain ⟨vs,ty,fz,g,_⟩:=cQ a;have:=lt_of_heap g;have d:w.heap.size<=b:=d;omega
  .cases a
theorem HB {G:Nat->Option (List AV)} {w:World} (h:ca G w) (c:G Ea=none):GR (qm G w) G:=by
 intro k cs a;refine ⟨h.bare k cs a, ?_,fun e=>by subst e;rw [c] at a;cases a⟩;have all: ∀(l:List AV) (o:Nat),o+l.length<=cs.length->(∀i v,l[i]? =some v-> ∃x,w.cell? ⟨k,o+i,none⟩=some x/\x.oneCell'=true/\ ∀g,R g v x)->ig (qm G w) l k o:=by
  intro l
  induction l with
  | nil=>intro o _ _;simp only [ig]
  | cons v l ih=>
   intro o hl b;simp only [ig];simp only [Om] at hl;obtain ⟨x,d,f,j⟩:=b 0 v rfl;refine ⟨⟨x, ?_,f,j _⟩,ih (o+1) (by omega) fun i u m=> ?_⟩
   .simp only [qm,a,Option.bind_some];rw [if_pos (by omega)];exact d
   have:=b (i+1) u (by simpa using m)
   rwa [show o+(i+1)=o+1+i by omega] at this
 exact all cs 0 (by omega) fun i v n=>by
  have:=h.cell k cs i v a n
  rwa [N5]
structure yG (G:Nat->Option (List AV)) (n:Nat) (g:Gh) (w:World):Prop where
 le:wW g (eB w)
 soft: ∀b o v,n<=b->g.F b o=some v->w.frozen? ⟨b,o,none⟩=false
 tab: ∀b o v,b < n->g.F b o=some v-> ∃cs,G b=some cs/\o < cs.length
theorem xA {P:Program} {E:Env} (n:uF P E) (p:E.G Ea=none) {f:FuncId} {args:List AV} {v:AV} (c:(bc E).bare f args=some v)
  (a: ∀args w,(callFunc f args).run P w= .ok (.enter f args) w) {w:World} (hG:ca E.G w) {xs:Array Value} (d:bx args=true) (q: ∀g,RL g args xs.toList):
  Calls P f xs w fun e w'=> ∃x g,e= .returned x/\R g v x/\Below w.heap.size w w'/\yG E.G w.heap.size g w':=by
 obtain ⟨m,l⟩:=(tm E).bare _ _ _ c;have h:=(pA n m).1.bare f args v (l m (NX _)) (fun b=>w.heap.size<=b) (qm E.G w) St.empty w xs.toList (HB hG p) d (q _) Gt;rcases h with ⟨x,w',h1,_⟩ | ⟨_,j⟩
 .rw [a] at h1;cases h1
 .refine j.mono ?_;rintro e w' ⟨x,rfl,g',r,hi,k⟩;refine ⟨x,g',rfl,r,⟨k.rest.1,k.rest.2.1,k.rest.2.2,k.size,fun b d=>k.heap b (by omega)⟩,⟨hi.F,fun b e s=> ?_⟩,fun b o v d i=> ?_,fun b o v d i=> ?_⟩
  .have:=hi.M b e.1 e.2 s;simp only [eB,this]
  .exact (hi.C (k.le.C.2 trivial)).1 b o v d i
  .rw [k.F b (by omega) o] at i;simp only [qm] at i;obtain ⟨cs,h1,j⟩:=OB.1 i;split at j
   .exact ⟨cs,h1,by assumption⟩
   .cases j
end Go.VM
namespace Go.VM
open Go.RowKit
structure ly (lo hi:Nat) (w w':World):Prop where
 size:w.heap.size<=w'.heap.size
 heap: ∀(b:Nat),b < w.heap.size->b < lo\/hi<=b->w'.heap[b]? =w.heap[b]?
 map: ∀(b:Nat) es c,w.heap[b]? =some (.map es c)->w'.heap[b]? =some (.map es c)
 rest:w'.os=w.os/\w'.tape=w.tape/\w'.output=w.output
theorem ly.trans {lo hi:Nat} {w w1 a:World} (h:ly lo hi w w1) (k:ly lo hi w1 a):ly lo hi w a:=
 ⟨Oe h.size k.size,fun b hl d=>(k.heap b (PA hl h.size) d).trans (h.heap b hl d),fun b es c e=>k.map b es c (h.map b es c e),k.rest.1.trans h.rest.1,k.rest.2.1.trans h.rest.2.1,k.rest.2.2.trans h.rest.2.2⟩
theorem il (w:World) (b o:Nat) (v:Value) (k:Nat) (h:k≠b):(w.setCell ⟨b,o,none⟩ v).heap[k]? =w.heap[k]? :=by
 simp only [World.setCell,Array.getElem?_modify];rw [if_neg (fun e=>h e.symm)]
theorem tj (w:World) (b o:Nat) (v:Value) {vs:Array Value} {ty:TypeId} {fz:Nat×Nat} (h:w.heap[b]? =some (.cells vs ty fz)):(w.setCell ⟨b,o,none⟩ v).heap[b]? =some (.cells (vs.setIfInBounds o v) ty fz):=by
 simp only [World.setCell,Array.getElem?_modify,if_true,h,Option.map_some];rfl
theorem ly.set {lo hi:Nat} (w:World) {b o:Nat} (v:Value) {u:Value} (d:w.cell? ⟨b,o,none⟩=some u) (hl:lo<=b) (g:b < hi):ly lo hi w (w.setCell ⟨b,o,none⟩ v):=by
 obtain ⟨vs,ty,fz,f,_⟩:=cQ d;refine ⟨by simp [World.setCell],fun k _ h=>il _ _ _ _ _ (by omega),fun k es c a=> ?_,rfl,rfl,rfl⟩;by_cases e:k=b
 .subst e;rw [f] at a;cases a
 .rw [il _ _ _ _ _ e];exact a
theorem jO (w:World) {b o:Nat} (v:Value) {u:Value} (f:w.cell? ⟨b,o,none⟩=some u) (k j:Nat):
  (w.setCell ⟨b,o,none⟩ v).cell? ⟨k,j,none⟩=if k=b/\j=o then some v else w.cell? ⟨k,j,none⟩:=by
 obtain ⟨vs,ty,fz,c,d⟩:=cQ f;by_cases e:k=b
 .subst e;rw [cell_of (tj w k o v c),cell_of c,Array.getElem?_setIfInBounds];by_cases a:j=o
  .subst a;have:j < vs.size:=by
    rcases Nat.lt_or_ge j vs.size with q | q
    .exact q
    .rw [Array.getElem?_eq_none q] at d;cases d
   rw [if_pos rfl,if_pos this,if_pos ⟨rfl,rfl⟩]
  .rw [if_neg (fun e=>a e.symm),if_neg (fun e=>a e.2)]
 .rw [if_neg (fun x=>e x.1)];exact ct (il _ _ _ _ _ e) j
theorem oc (w:World) {b o:Nat} (v:Value) {u:Value} (c:w.cell? ⟨b,o,none⟩=some u) (k j:Nat):
  (w.setCell ⟨b,o,none⟩ v).frozen? ⟨k,j,none⟩=w.frozen? ⟨k,j,none⟩:=by
 obtain ⟨vs,ty,fz,a,d⟩:=cQ c;by_cases e:k=b
 .subst e;simp [World.frozen?,tj w k o v a,a]
 .exact fR (il _ _ _ _ _ e) j
def Fs (u x:Value):Prop:=x=u\/(∃s s',u= .string s/\x= .string s')\/ ∃k n n',u= .int k n/\x= .int k n'
structure qs (g:Gh) (lo hi:Nat) (w:World):Prop where
 cell: ∀b o u,lo<=b->g.F b o=some u->b < hi/\(∃x,w.cell? ⟨b,o,none⟩=some x/\Fs u x)/\w.frozen? ⟨b,o,none⟩=false
 tZ: ∀b o a l c,g.F b o=some (.slice a l c)->w.cell? ⟨b,o,none⟩=some (.slice a l c)
theorem yG.left {G:Nat->Option (List AV)} {n:Nat} {g:Gh} {w:World} (h:yG G n g w):qs g n w.heap.size w:=
 ⟨fun b o u f d=>by
  have e:w.cell? ⟨b,o,none⟩=some u:=h.le.F b o u d;obtain ⟨vs,ty,fz,i,_⟩:=cQ e;exact ⟨lt_of_heap i,⟨u,e,.inl rfl⟩,h.soft b o u f d⟩,fun b o a l c d=>h.le.F b o _ d⟩
theorem qs.set {g:Gh} {lo hi:Nat} {w:World} (h:qs g lo hi w) {b o:Nat} {u:Value} (v:Value) (i:lo<=b) (f:g.F b o=some u) (hs: ∀a l c,u≠ .slice a l c) (m:Fs u v):qs g lo hi (w.setCell ⟨b,o,none⟩ v)/\ly lo hi w (w.setCell ⟨b,o,none⟩ v):=by
 obtain ⟨h1,⟨x,d,_⟩,t⟩:=h.cell b o u i f;refine ⟨⟨fun k j y n hy=> ?_,fun k j a l c hy=> ?_⟩,ly.set w v d i h1⟩
 .obtain ⟨p,⟨z,q,r⟩,s⟩:=h.cell k j y n hy;refine ⟨p, ?_,by rw [oc w v d];exact s⟩;rw [jO w v d];split
  .rename_i e;obtain ⟨rfl,rfl⟩:=e;rw [f] at hy;cases hy;exact ⟨_,rfl,m⟩
  .exact ⟨z,q,r⟩
 .rw [jO w v d];rw [if_neg ?_]
  .exact h.tZ k j a l c hy
  .rintro ⟨rfl,rfl⟩;rw [f] at hy;cases hy;exact hs _ _ _ rfl
theorem wW.Dk {g:Gh} {lo hi:Nat} {w w':World} (h:wW g (eB w)) (k:ly lo hi w w') (f: ∀b o u,g.F b o=some u->b < lo\/hi<=b):wW g (eB w'):=by
 refine ⟨fun b o v c=> ?_,fun b e i=> ?_⟩
 .have d:w.cell? ⟨b,o,none⟩=some v:=h.F b o v c;show w'.cell? ⟨b,o,none⟩=some v;obtain ⟨vs,ty,fz,j,_⟩:=cQ d;rw [ct (k.heap b (lt_of_heap j) (f b o v c))];exact d
 .have a:=h.M b e i;simp only [eB] at a ⊢;split at a
  .rename_i ents clk l;rw [k.map b _ _ l];exact a
  .cases a
theorem ca.below {G:Nat->Option (List AV)} {w w':World} (h:ca G w) (k:Below w.heap.size w w'):ca G w':=
 ⟨h.bare,fun b cs o v a c=>by
  obtain ⟨x,h1,d⟩:=h.cell b cs o v a c;obtain ⟨vs,ty,fz,e,_⟩:=cQ h1;exact ⟨x,by rw [ct (k.block b (lt_of_heap e))];exact h1,d⟩⟩
theorem ca.Dk {G:Nat->Option (List AV)} {lo hi:Nat} {w w':World} (h:ca G w) (k:ly lo hi w w') (d: ∀b cs,G b=some cs->cs≠[]->b < lo):ca G w':=
 ⟨h.bare,fun b cs o v a c=>by
  obtain ⟨x,h1,f⟩:=h.cell b cs o v a c;obtain ⟨vs,ty,fz,g,_⟩:=cQ h1;exact ⟨x,by rw [ct (k.heap b (lt_of_heap g) (.inl (d b cs a fun e=>by subst e;simp at c)))];exact h1,f⟩⟩
theorem ca.lt {G:Nat->Option (List AV)} {w:World} (h:ca G w) {b:Nat} {cs:List AV} (c:G b=some cs) (a:cs≠[]):b < w.heap.size:=by
 cases cs with
 | nil=>exact absurd rfl a
 | cons v l=>
  obtain ⟨x,h1,_⟩:=h.cell b _ 0 v c rfl;obtain ⟨vs,ty,fz,d,_⟩:=cQ h1;exact lt_of_heap d
theorem wW.below {g:Gh} {w w':World} (h:wW g (eB w)) (k:Below w.heap.size w w'):wW g (eB w'):=by
 refine ⟨fun b o v f=> ?_,fun b e i=> ?_⟩
 .have c:w.cell? ⟨b,o,none⟩=some v:=h.F b o v f;obtain ⟨vs,ty,fz,j,_⟩:=cQ c;show w'.cell? ⟨b,o,none⟩=some v;rw [ct (k.block b (lt_of_heap j))];exact c
 .have a:=h.M b e i;simp only [eB] at a ⊢;split at a
  .rename_i ents clk d;rw [k.block b (lt_of_heap d),d];exact a
  .cases a
theorem LM {g:Gh} {z:Nat} {v:AV} {es:List AV} {x:Value} (h:cb z v es) (c:R g v x): ∃a cap,x= .slice a es.length cap/\es.length<=cap/\(es≠[]-> ∃b o,a=some ⟨b,o,none⟩/\eR g z es b o):=by
 rcases h.2 with ⟨h | h,d⟩ | h | h
 .subst h;subst d;simp only [R] at c;subst c;exact ⟨none,0,rfl,NX _,fun e=>absurd rfl e⟩
 .subst h;subst d;simp only [R] at c;obtain ⟨a,rfl⟩:=c;exact ⟨some a,0,rfl,NX _,fun e=>absurd rfl e⟩
 .subst h;simp only [R] at c;obtain ⟨_,b,o,cap,rfl,d,_,f,_⟩:=c;exact ⟨_,cap,rfl,d,fun _=>⟨b,o,rfl,f⟩⟩
 .subst h;simp only [R] at c;obtain ⟨_,b,o,cap,rfl,d,_,f,_⟩:=c;exact ⟨_,cap,rfl,d,fun _=>⟨b,o,rfl,f⟩⟩
theorem Bm {g:Gh} {z:Nat}: ∀{es:List AV} {b o k:Nat} {v:AV},eR g z es b o->es[k]? =some v->v.cells.length=z/\ig g v.cells b (o+k * z)
 | [],_,_,k,_,_,a=>by simp at a
 | e::es,b,o,0,v,h,a=>by
  simp at a;subst a;obtain ⟨h1,c,_⟩:=(fS g z e es b o).1 h;exact ⟨h1,by simpa using c⟩
 | e::es,b,o,k+1,v,h,a=>by
  obtain ⟨_,_,d⟩:=(fS g z e es b o).1 h;have:=Bm d (by simpa using a);rw [show o+z+k * z=o+(k+1) * z by rw [Nat.add_mul];omega] at this;exact this
theorem sI {g:Gh}: ∀{cs:List AV} {b o k:Nat} {v:AV},ig g cs b o->cs[k]? =some v-> ∃x,g.F b (o+k)=some x/\R g v x
 | [],_,_,k,_,_,a=>by simp at a
 | c::cs,b,o,0,v,h,a=>by
  simp at a;subst a;simp only [ig] at h;obtain ⟨⟨x,h1,_,d⟩,_⟩:=h;exact ⟨x,by simpa using h1,d⟩
 | c::cs,b,o,k+1,v,h,a=>by
  simp only [ig] at h;obtain ⟨x,h1,e⟩:=sI h.2 (by simpa using a);exact ⟨x,by rw [show o+(k+1)=o+1+k by omega];exact h1,e⟩
def wJ:AV->Bool
 | .str _=>false
 | .sl .. =>false
 | .aG=>false
 | .es=>false
 | .ms .. =>false
 | .gs .. =>false
 | _=>true
def Tr.DL {α:Type} (p:α->Bool):Tr α->Bool
 | .leaf=>true
 | .node v l r=>(match v with | some x=>p x | none=>true)&&(DL p l&&DL p r)
theorem Tr.sR {α:Type} {p:α->Bool}: ∀(t:Tr α),t.DL p=true-> ∀(n:Nat) (x:α),t.get n=some x->p x=true
 | .leaf,_,n,x,a=>by rw [Tr.lG] at a;cases a
 | .node v l r,h,n,x,a=>by
  simp only [Tr.DL,N0] at h;obtain ⟨h1,b,c⟩:=h;unfold Tr.get at a;split at a
  .subst a;exact h1
  .split at a
   .exact Tr.sR l b _ x a
   .exact Tr.sR r c _ x a
def AW (G:Nat->Option (List AV)):Prop:= ∀b cs v,G b=some cs->v∈cs->wJ v=true
theorem Dr {t:Tr (List AV)} (h:t.DL (fun cs=>cs.all wJ)=true):AW fun b=>t.get b:=fun b cs v a c=>
 Ox.1 (Tr.sR t h b cs a) v c
theorem qs.below {g:Gh} {lo hi:Nat} {w w':World} (h:qs g lo hi w) (i:wW g (eB w)) (k:Below w.heap.size w w'):qs g lo hi w':=by
 have key: ∀b o u,g.F b o=some u->w'.heap[b]? =w.heap[b]? :=fun b o u d=>by
  have j:w.cell? ⟨b,o,none⟩=some u:=i.F b o u d;obtain ⟨vs,ty,fz,f,_⟩:=cQ j;exact k.block b (lt_of_heap f)
 refine ⟨fun b o u m d=> ?_,fun b o a l c d=> ?_⟩
 .obtain ⟨h1,⟨x,n,h4⟩,f⟩:=h.cell b o u m d;have e:=key b o u d;exact ⟨h1,⟨x,by rw [ct e];exact n,h4⟩,by rw [fR e];exact f⟩
 .rw [ct (key b o _ d)];exact h.tZ b o a l c d
theorem ly.below {lo hi B:Nat} {w w':World} (h:ly lo hi w w') (hB:B<=lo) (a:B<=w.heap.size):Below B w w':=
 ⟨h.rest.1,h.rest.2.1,h.rest.2.2,h.size,fun b c=>h.heap b (by omega) (.inl (by omega))⟩
theorem ly.EV {lo hi:Nat} {w w':World} (h:Below w.heap.size w w'):ly lo hi w w':=
 ⟨h.size,fun b d _=>h.block b d,fun b es c a=>by rw [h.block b (lt_of_heap a)];exact a,h.os,h.tape,h.output⟩
theorem wk {w:World} {b o:Nat} {v:Value} (h:w.cell? ⟨b,o,none⟩=some v):b < w.heap.size:=by
 obtain ⟨vs,ty,fz,a,_⟩:=cQ h;exact lt_of_heap a
end Go.VM
