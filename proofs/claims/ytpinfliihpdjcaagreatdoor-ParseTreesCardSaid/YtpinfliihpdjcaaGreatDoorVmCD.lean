/-
  A part of the proof.
-/
import Derived.Test.YtpinfliihpdjcaaGreatDoorVmCC
import Derived.Test.YtpinfliihpdjcaaGreatDoorVmBJ
import Derived.WalkKit
import Derived.Handy
set_option maxRecDepth 1000000
set_option linter.all false
namespace Go.Proofs.YtpinfliihpdjcaaGreatDoor.Vm
open Go Go.VM Go.Proofs Go.Lex Go.Parse Go.RowKit
theorem KE {g:Gh} {a b:AV} {y:Value} (h:VM.R g (.tup [a,b]) y): ∃u v,y= .tuple #[u,v]/\VM.R g a u/\VM.R g b v:=by
 simp only [VM.R,RL] at h;obtain ⟨ys,rfl,u,l1,h1,c,v,l2,rfl,d,rfl⟩:=h;refine ⟨u,v, ?_,c,d⟩;cases ys;simp only at h1;subst h1;rfl
theorem K2 {g:Gh} {a b c d:AV} {y:Value} (h:VM.R g (.agg [a,b,c,d]) y): ∃u v z t,y= .agg #[u,v,z,t]/\VM.R g a u/\VM.R g b v/\VM.R g c z/\VM.R g d t:=by
 simp only [VM.R,RL] at h;obtain ⟨ys,rfl,u,l1,h1,e,v,l2,rfl,f,z,j,rfl,h4,t,k,rfl,i,rfl⟩:=h;refine ⟨u,v,z,t, ?_,e,f,h4,i⟩;cases ys;simp only at h1;subst h1;rfl
theorem IE (w:World) (hG:ca vE.G w):Calls Tryz.prog 4 #[] w fun e w'=>e= .returned (.bool true)/\Below w.heap.size w w':=
 yY yB (tJ B5) Tryz.call4 hG rfl dF
theorem Gr:AW vE.G:=Dr (t:=vG) (by kernel_rfl)
def yw (t:T) (n:Nat) (w:World) (x:Value):Prop:= ∃g v,fI t v/\VM.R g v x/\yG vE.G n g w
def Std (t:T) (w:World) (x:Value):Prop:= ∃g v,fI t v/\VM.R g v x/\wW g (eB w)
theorem yw.GZ {t:T} {n:Nat} {w w':World} {x:Value} (h:yw t n w x) (k:Below w.heap.size w w'):Std t w' x:=by
 obtain ⟨g,v,a,b,c⟩:=h;exact ⟨g,v,a,b,c.le.below k⟩
theorem Std.below {t:T} {w w':World} {x:Value} (h:Std t w x) (k:Below w.heap.size w w'):Std t w' x:=by
 obtain ⟨g,v,a,b,c⟩:=h;exact ⟨g,v,a,b,c.below k⟩
abbrev sV (s:List UInt8):Value:= .string ⟨s.toArray⟩
theorem xw {t:T} {v:AV} {g:Gh} {x:Value} (h:fI t v) (e:VM.R g v x): ∃(a b:Int) (s:ByteArray) (yo:Option Addr) (yl yc:Nat),x= .agg #[.int .u8 a,.int .u8 b,.string s,.slice yo yl yc]:=by
 obtain ⟨k,tk,tx,l,z,es,rfl,rfl,f,hs⟩:=jR h;obtain ⟨u,v,q,y,rfl,h1,c,d,h4⟩:=K2 e;obtain ⟨yo,yc,rfl,_,_⟩:=LM f h4;simp only [VM.R] at h1 c d;subst h1;subst c;subst d;exact ⟨_,_,_,_,_,_,rfl⟩
theorem Ks (s:List UInt8) (w:World) (hG:ca vE.G w):Calls Tryz.prog 5 #[sV s] w fun e w'=> ∃a b z yo yl yc,e= .returned (.tuple #[.agg #[.int .u8 a,.int .u8 b,.string z,.slice yo yl yc],.int .i64 (qj s)])/\Below w.heap.size w w'/\yw (dT s) w.heap.size w' (.agg #[.int .u8 a,.int .u8 b,.string z,.slice yo yl yc]):=by
 obtain ⟨v,c,_,f⟩:=EX s;refine (xA yB (by kernel_rfl) f Tryz.call5 hG rfl fun g=>bJ (by simp only [VM.R]) dF).mono ?_;rintro e w' ⟨y,g,rfl,hy,hB,h⟩;obtain ⟨u,q,rfl,h1,d⟩:=KE hy;simp only [VM.R] at d;subst d;obtain ⟨a,b,z,yo,yl,yc,rfl⟩:=xw c h1;exact ⟨a,b,z,yo,yl,yc,rfl,hB,g,v,c,h1,h⟩
theorem Mq (s:List UInt8) (w:World) (hG:ca vE.G w):Calls Tryz.prog 6 #[sV s] w fun e w'=> ∃a b z yo yl yc,e= .returned (.tuple #[.agg #[.int .u8 a,.int .u8 b,.string z,.slice yo yl yc],.int .i64 (qj s)])/\Below w.heap.size w w'/\yw (dT s) w.heap.size w' (.agg #[.int .u8 a,.int .u8 b,.string z,.slice yo yl yc]):=by
 obtain ⟨v,c,f⟩:=Cj s;refine (xA yB (by kernel_rfl) f Tryz.call6 hG rfl fun g=>bJ (by simp only [VM.R]) dF).mono ?_;rintro e w' ⟨y,g,rfl,hy,hB,h⟩;obtain ⟨u,q,rfl,h1,d⟩:=KE hy;simp only [VM.R] at d;subst d;obtain ⟨a,b,z,yo,yl,yc,rfl⟩:=xw c h1;exact ⟨a,b,z,yo,yl,yc,rfl,hB,g,v,c,h1,h⟩
theorem Lm {t:T} {x y:Value} (w:World) (hG:ca vE.G w) (h1:Std t w x) (c:Std t w y):Calls Tryz.prog 7 #[x,y] w fun e w'=>e= .returned (.bool true)/\Below w.heap.size w w':=by
 obtain ⟨f,v1,a,b1,c1⟩:=h1;obtain ⟨g,h,b,d,c2⟩:=c;exact yY yB (DF t _ _ a b) Tryz.call7 hG (by simp only [bw,(eW a).1,(eW b).1];rfl) (bJ (jB c1 _ _ (eW a).1 b1) (bJ (jB c2 _ _ (eW b).1 d) dF))
theorem xG {f:FuncId} {v:AV} {b:Bool} {x:Value} {g:Gh} {w:World} (hG:ca vE.G w) (a:VM.bare v=true) (c:VM.R g v x) (hl:wW g (eB w)) (h:(bc vE).bare f [v]=some (.bool b)) (d: ∀args w,(callFunc f args).run Tryz.prog w= .ok (.enter f args) w):
  Calls Tryz.prog f #[x] w fun e w'=>e= .returned (.bool b)/\Below w.heap.size w w':=by
 obtain ⟨m,i⟩:=(tm vE).bare _ _ _ h;refine (rD yB (i m (NX _)) d hG (by simp only [bw,a];rfl) (bJ (jB hl _ _ a c) dF)).mono ?_;rintro e w' ⟨y,g,rfl,hy,hB⟩;simp only [VM.R] at hy;subst hy;exact ⟨rfl,hB⟩
theorem Mm {t:T} {x:Value} (w:World) (hG:ca vE.G w) (h:Std t w x):Calls Tryz.prog 8 #[x] w fun e w'=>e= .returned (.bool (Parse.cH t))/\Below w.heap.size w w':=by
 obtain ⟨g,v,a,b,c⟩:=h;exact xG hG (eW a).1 b c (FW t v a) Tryz.call8
theorem Mo {t:T} {x:Value} (w:World) (hG:ca vE.G w) (h:Std t w x):Calls Tryz.prog 9 #[x] w fun e w'=>e= .returned (.bool (Parse.cH t))/\Below w.heap.size w w':=by
 obtain ⟨g,v,a,b,c⟩:=h;exact xG hG (eW a).1 b c (Eo t v a) Tryz.call9
structure tN (g:Gh) (lo hi:Nat) (w:World):Prop where
 left:qs g lo hi w
 own: ∀b o u,g.F b o=some u->((∃s,u= .string s)\/ ∃a l c,u= .slice a l c)->lo<=b
structure Nr (blk o:Nat) (y:Value) (w:World):Prop where
 c0: ∃n,w.cell? ⟨blk,o,none⟩=some (.int .u8 n)
 c1: ∃n,w.cell? ⟨blk,o+1,none⟩=some (.int .u8 n)
 c2: ∃s,w.cell? ⟨blk,o+2,none⟩=some (.string s)
 c3:w.cell? ⟨blk,o+3,none⟩=some y
 z0:w.frozen? ⟨blk,o,none⟩=false
 z2:w.frozen? ⟨blk,o+2,none⟩=false
theorem xy {k:IntKind} {n:Int} {x:Value} (h:Fs (.int k n) x): ∃m,x= .int k m:=by
 rcases h with rfl | ⟨_,_,e,_⟩ | ⟨_,_,m,e,rfl⟩
 .exact ⟨_,rfl⟩
 .cases e
 .cases e;exact ⟨m,rfl⟩
theorem Fa {s:ByteArray} {x:Value} (h:Fs (.string s) x): ∃m,x= .string m:=by
 rcases h with rfl | ⟨_,m,e,rfl⟩ | ⟨_,_,_,e,_⟩
 .exact ⟨_,rfl⟩
 .exact ⟨m,rfl⟩
 .cases e
theorem EE {l:List T} {x:AV} {es:List AV} {g:Gh} {y:Value} (H:cb 4 x es) (hs:bp l es) (I:VM.R g x y) {i:Nat} (hi:i < l.length):
  ∃(blk o cap:Nat) (f:AV) (b:List AV) (m:List T) (y':Value),y= .slice (some ⟨blk,o,none⟩) l.length cap/\(∃k tk tx,l[i]? =some (.mk k tk tx m))/\cb 4 f b/\bp m b/\VM.R g f y'/\
   ∀{lo hi:Nat},(∀w,tN g lo hi w->Nr blk (o+i * 4) y' w)/\
    (∀w s,tN g lo hi w->tN g lo hi (w.setCell ⟨blk,o+i * 4+2,none⟩ (.string s))/\ly lo hi w (w.setCell ⟨blk,o+i * 4+2,none⟩ (.string s)))/\
    (∀w n,tN g lo hi w->tN g lo hi (w.setCell ⟨blk,o+i * 4,none⟩ (.int .u8 n))/\ly lo hi w (w.setCell ⟨blk,o+i * 4,none⟩ (.int .u8 n))):=by
 obtain ⟨a,cap,rfl,_,J⟩:=LM H I;have hlen:es.length=l.length:=hs.len;have p:es≠[]:=by intro e;rw [e] at hlen;simp at hlen;omega
 obtain ⟨blk,o,rfl,K⟩:=J p;obtain ⟨e,L,M⟩:=hs.at (Oj hi);obtain ⟨k,tk,tx,m,f,b,q,rfl,j,r⟩:=jR M;obtain ⟨_,d⟩:=Bm K L;have d:ig g [.int .u8 (k:Int),.int .u8 (tk:Int),.str tx,f] blk (o+i * 4):=d;obtain ⟨v0,A,r0⟩:=sI (k:=0) d rfl;obtain ⟨v1,N,B⟩:=sI (k:=1) d rfl;obtain ⟨Z,t,C⟩:=sI (k:=2) d rfl;obtain ⟨D,E,F⟩:=sI (k:=3) d rfl;simp only [VM.R] at r0 B C;subst r0;subst B;subst C;obtain ⟨a3,G,O,_,_⟩:=LM j F;rw [hlen];refine ⟨blk,o,cap,f,b,m,D,rfl,⟨k,tk,tx,by rw [Oj hi,q]⟩,j,r,F,fun {lo hi}=> ?_⟩;have c: ∀w,tN g lo hi w->lo<=blk:=fun w h=>h.own blk _ _ t (.inl ⟨_,rfl⟩);refine ⟨fun w h=> ?_,fun w s h=> ?_,fun w n h=> ?_⟩
 .have u:=c w h;obtain ⟨_,⟨u0,q0,p0⟩,z0⟩:=h.left.cell _ _ _ u A;obtain ⟨_,⟨u1,P,Q⟩,_⟩:=h.left.cell _ _ _ u N;obtain ⟨_,⟨u2,S,U⟩,z2⟩:=h.left.cell _ _ _ u t;obtain ⟨V,rfl⟩:=xy p0;obtain ⟨W,rfl⟩:=xy Q;obtain ⟨X,rfl⟩:=Fa U;have Y:w.cell? ⟨blk,o+i * 4+3,none⟩=some D:=by rw [O] at E ⊢;exact h.left.tZ _ _ _ _ _ E
  exact ⟨⟨V,q0⟩,⟨W,P⟩,⟨X,S⟩,Y,z0,z2⟩
 .obtain ⟨v,z⟩:=h.left.set (.string s) (c w h) t (fun _ _ _ e=>by cases e) (.inr (.inl ⟨_,_,rfl,rfl⟩));exact ⟨⟨v,h.own⟩,z⟩
 .obtain ⟨v,z⟩:=h.left.set (.int .u8 n) (c w h) A (fun _ _ _ e=>by cases e) (.inr (.inr ⟨_,_,_,rfl,rfl⟩));exact ⟨⟨v,h.own⟩,z⟩
theorem tN.below {g:Gh} {lo hi:Nat} {w w':World} (h:tN g lo hi w) (f: ∀b o u,g.F b o=some u->b < w.heap.size) (k:Below w.heap.size w w'):tN g lo hi w':=by
 have key: ∀b o u,g.F b o=some u->w'.heap[b]? =w.heap[b]? :=fun b o u d=>k.block b (f b o u d);refine ⟨⟨fun b o u i d=> ?_,fun b o a l c d=> ?_⟩,h.own⟩
 .obtain ⟨h1,⟨x,j,h4⟩,m⟩:=h.left.cell b o u i d;have e:=key b o u d;exact ⟨h1,⟨x,by rw [ct e];exact j,h4⟩,by rw [fR e];exact m⟩
 .rw [ct (key b o _ d)];exact h.left.tZ b o a l c d
theorem rY {lo hi:Nat} {w w':World} (k:ly lo hi w w') {b o:Nat} {v:Value} (a:hi<=b) (h:w.cell? ⟨b,o,none⟩=some v):w'.cell? ⟨b,o,none⟩=some v:=by
 rw [ct (k.heap b (wk h) (.inr a))];exact h
set_option maxHeartbeats 16000000 in
theorem Fk: ∀(t:T) (k tk:Nat) (tx:List UInt8) (l:List T),t= .mk k tk tx l-> ∀(x:AV) (es:List AV) (a b:Int) (s:ByteArray) (y:Value) (g:Gh) (lo hi:Nat) (w:World),cb 4 x es->bp l es->VM.R g x y->tN g lo hi w->hi<=w.heap.size->
  (∀b o u,g.F b o=some u->b < w.heap.size)->Calls Tryz.prog 10 #[.agg #[.int .u8 a,.int .u8 b,.string s,y]] w fun e w'=>e= .returned (.tuple #[])/\tN g lo hi w'/\ly lo hi w w':=by
 refine T.ind fun P tk0 tx0 l0 ih=> ?_;intro k tk tx l hl;cases hl;intro x es a b s y g lo hi w p hs q hS c hgF;obtain ⟨ao,cap,rfl,hcap,_⟩:=LM p q;have hlen:es.length=l0.length:=hs.len;rw [hlen] at q hcap ⊢;have hmax:l0.length<=9223372036854775807:=Bv p hs;have IH:Hid (∀t∈l0,∀(k tk:Nat) (tx:List UInt8) (l:List T),t= .mk k tk tx l-> ∀(x:AV) (es:List AV) (a b:Int) (s:ByteArray) (y:Value) (g:Gh) (lo hi:Nat) (w:World),cb 4 x es->bp l es->VM.R g x y->tN g lo hi w->hi<=w.heap.size->
  (∀b o u,g.F b o=some u->b < w.heap.size)->Calls Tryz.prog 10 #[.agg #[.int .u8 a,.int .u8 b,.string s,y]] w fun e w'=>e= .returned (.tuple #[])/\tN g lo hi w'/\ly lo hi w w'):=ih
 clear ih;have HG:Hid (∀b o u,g.F b o=some u->b < w.heap.size):=hgF;have HK:Hid (∀{i:Nat},i < l0.length-> ∃(blk o cap':Nat) (r:AV) (d:List AV) (f:List T) (y':Value),Value.slice ao l0.length cap= .slice (some ⟨blk,o,none⟩) l0.length cap'/\(∃k tk tx,l0[i]? =some (.mk k tk tx f))/\cb 4 r d/\bp f d/\VM.R g r y'/\
   ∀{lo hi:Nat},(∀w,tN g lo hi w->Nr blk (o+i * 4) y' w)/\
    (∀w s,tN g lo hi w->tN g lo hi (w.setCell ⟨blk,o+i * 4+2,none⟩ (.string s))/\ly lo hi w (w.setCell ⟨blk,o+i * 4+2,none⟩ (.string s)))/\
    (∀w n,tN g lo hi w->tN g lo hi (w.setCell ⟨blk,o+i * 4,none⟩ (.int .u8 n))/\ly lo hi w (w.setCell ⟨blk,o+i * 4,none⟩ (.int .u8 n)))):=fun hi=>EE p hs q hi
 clear hgF p hs q;have al:Below w.heap.size w (w.alloc (.cells #[.int .u8 a,.int .u8 b,.string s,.slice ao l0.length cap] 27)):=by go_grown
 have S0:=hS.below HG.out al;have C0:ly lo hi w (w.alloc (.cells #[.int .u8 a,.int .u8 b,.string s,.slice ao l0.length cap] 27)):=ly.EV al;have b0:(w.alloc (.cells #[.int .u8 a,.int .u8 b,.string s,.slice ao l0.length cap] 27)).cell? ⟨w.heap.size,3,none⟩=some (.slice ao l0.length cap):=by
  have e:(w.alloc (.cells #[.int .u8 a,.int .u8 b,.string s,.slice ao l0.length cap] 27)).heap[w.heap.size]? =some (.cells #[.int .u8 a,.int .u8 b,.string s,.slice ao l0.length cap] 27):=World.heap_alloc_new;rw [cell_of e];rfl
 clear hS
 go_enter Tryz.func10,Tryz.ntmps10
 go_wp2_with fail
 generalize w.alloc (.cells #[.int .u8 a,.int .u8 b,.string s,.slice ao l0.length cap] 27)=W0 at *
 go_loopw [2] (fun i wr=> ∃j:Nat,j<=l0.length/\i= .int .i64 j/\tN g lo hi wr/\ly lo hi w wr/\wr.cell? ⟨w.heap.size,3,none⟩=some (.slice ao l0.length cap)) (fun i _=>l0.length - (intOf i).toNat)
 case atStart=>exact ⟨0,O4 _,rfl,S0,C0,b0⟩
 case round=>
  obtain ⟨j,Q,rfl,hS,hC,H⟩:=hrel;clear S0 C0 b0 al;by_cases v:j < l0.length
  .obtain ⟨blk,o,cap',r,d,f,y',J,⟨I,h,m,z⟩,A,B,C,hK⟩:=HK.out v;cases J;obtain ⟨N,P2,P0⟩:=hK (lo:=lo) (hi:=hi);obtain ⟨⟨K,c0⟩,⟨L,c1⟩,⟨M,c2⟩,c3,z0,z2⟩:=N wr hS
   go_wp2_with fail
   refine (IH.out (.mk I h m f) (Ob z) I h m f rfl r d K L M y' g lo hi wr A B C hS (Oe c hC.size) (fun b o u O=>PA (HG.out b o u O) hC.size)).mono ?_;rintro e w1 ⟨rfl,S1,C1⟩;have D:=rY C1 c H;obtain ⟨_,_,⟨S,U⟩,_,_,V⟩:=N w1 S1;obtain ⟨S4,C2⟩:=P2 w1 ⟨#[115,112,111,105,108,116]⟩ S1;have E:=rY C2 c D;obtain ⟨⟨W,X⟩,_,_,_,Y,_⟩:=N _ S4;obtain ⟨S5,C3⟩:=P0 _ 77 S4;have G:=rY C3 c E;have CC:=(hC.trans C1).trans (C2.trans C3);clear c0 c1 c2 c3 z0 z2 H hS hC C1 C2 C3 S1 S4;go_wp2
   go_roundw
   case rel=>exact ⟨j+1,by omega,by go_num,S5,CC,G⟩
   case measure=>simp [intOf];omega
  .go_wp2
   go_end0
   exact ⟨rfl,hS,hC⟩
theorem CN {n:Nat} {g:Gh} {w:World} (h:yG vE.G n g w) (hG:ca vE.G w) (b o:Nat) (u:Value) (i:g.F b o=some u) (m:(∃s,u= .string s)\/ ∃a l c,u= .slice a l c):n<=b:=by
 refine Nat.le_of_not_lt fun f=> ?_;obtain ⟨cs,h1,j⟩:=h.tab b o _ f i;obtain ⟨y,p,_,h4⟩:=hG.cell b cs o cs[o] h1 (Oj j);have k:w.cell? ⟨b,o,none⟩=some u:=h.le.F b o _ i;rw [p] at k;cases k;have d:=h4 g;have e:=Gr b cs cs[o] h1 (List.getElem_mem j);revert d e;generalize cs[o]=v;intro d e;rcases m with ⟨s,rfl⟩ | ⟨a,l,c,rfl⟩
 .cases v <;> simp [wJ] at e <;> simp [VM.R] at d
 .cases v <;> simp [wJ] at e <;> simp [VM.R] at d
abbrev nV (a b:Int) (z:ByteArray) (y:Value):Value:= .agg #[.int .u8 a,.int .u8 b,.string z,y]
theorem D4 {g:Gh} {w:World} (h:wW g (eB w)) (b o:Nat) (u:Value) (a:g.F b o=some u):b < w.heap.size:=wk (w:=w) (h.F b o u a)
theorem MA {t:T} {lo:Nat} {w1 wq:World} {a b:Int} {z:ByteArray} {y:Value} (O:yw t lo w1 (nV a b z y)) (hG:ca vE.G w1) (B:Below w1.heap.size w1 wq):
  Calls Tryz.prog 10 #[nV a b z y] wq fun e w'=>e= .returned (.tuple #[])/\ly lo w1.heap.size wq w':=by
 obtain ⟨g,v,h1,f,c⟩:=O;obtain ⟨k,tk,tx,l,x,es,rfl,rfl,h,hs⟩:=jR h1;obtain ⟨p,q,r,y',i,r0,s,w,j⟩:=K2 f;cases i;have S:tN g lo w1.heap.size wq:=tN.below ⟨c.left,fun b o u m d=>CN c hG b o u m d⟩ (D4 c.le) B;refine (Fk (.mk k tk tx l) k tk tx l rfl x es a b z y g lo w1.heap.size wq h hs j S B.size (fun b o u d=>PA (D4 c.le b o u d) B.size)).mono ?_;rintro e w' ⟨h4,_,n⟩;exact ⟨h4,n⟩
def uc (t:T) (lo mid:Nat) (w:World) (x:Value):Prop:= ∃g v,fI t v/\VM.R g v x/\wW g (eB w)/\ ∀b o u,g.F b o=some u->b < lo\/mid<=b
def E1 (lo:Nat):Prop:= ∀b cs,vE.G b=some cs->cs≠[]->b < lo
theorem Hp {w:World} (h:ca vE.G w):E1 w.heap.size:=fun _ _ h1 a=>h.lt h1 a
theorem yw.Ku {t:T} {n lo:Nat} {w:World} {x:Value} (h:yw t n w x) (hl:E1 lo):uc t lo n w x:=by
 obtain ⟨g,v,a,b,c⟩:=h;refine ⟨g,v,a,b,c.le,fun k o u d=> ?_⟩;rcases Nat.lt_or_ge k n with q | q
 .obtain ⟨cs,h1,f⟩:=c.tab k o u q d;exact .inl (hl k cs h1 (fun e=>by subst e;simp at f))
 .exact .inr q
theorem uc.GZ {t:T} {lo mid:Nat} {w:World} {x:Value} (h:uc t lo mid w x):Std t w x:=by
 obtain ⟨g,v,a,b,c,_⟩:=h;exact ⟨g,v,a,b,c⟩
theorem uc.below {t:T} {lo mid:Nat} {w w':World} {x:Value} (h:uc t lo mid w x) (k:Below w.heap.size w w'):uc t lo mid w' x:=by
 obtain ⟨g,v,a,b,c,d⟩:=h;exact ⟨g,v,a,b,c.below k,d⟩
theorem uc.Dk {t:T} {lo mid l h:Nat} {w w':World} {x:Value} (s:uc t lo mid w x) (k:ly l h w w') (h1:lo<=l) (f:h<=mid):uc t lo mid w' x:=by
 obtain ⟨g,v,a,b,c,d⟩:=s;exact ⟨g,v,a,b,c.Dk k fun b o u e=>by have:=d b o u e;omega,d⟩
structure Vc (n:Nat) (a b:Int) (z:ByteArray) (y:Value) (w:World):Prop where
 c0:w.cell? ⟨n,0,none⟩=some (.int .u8 a)
 c1:w.cell? ⟨n,1,none⟩=some (.int .u8 b)
 c2:w.cell? ⟨n,2,none⟩=some (.string z)
 c3:w.cell? ⟨n,3,none⟩=some y
 f: ∀o,w.frozen? ⟨n,o,none⟩=false
theorem Vc.lt {n:Nat} {a b:Int} {z:ByteArray} {y:Value} {w:World} (h:Vc n a b z y w):n < w.heap.size:=wk h.c0
theorem Vc.congr {n:Nat} {a b:Int} {z:ByteArray} {y:Value} {w w':World} (h:Vc n a b z y w) (e:w'.heap[n]? =w.heap[n]?):Vc n a b z y w':=
 ⟨by rw [ct e];exact h.c0,by rw [ct e];exact h.c1,by rw [ct e];exact h.c2,by rw [ct e];exact h.c3,fun o=>by rw [fR e];exact h.f o⟩
theorem Vc.below {n:Nat} {a b:Int} {z:ByteArray} {y:Value} {w w':World} (h:Vc n a b z y w) (k:Below w.heap.size w w'):Vc n a b z y w':=h.congr (k.block n h.lt)
theorem Vc.Dk {n:Nat} {a b:Int} {z:ByteArray} {y:Value} {l hi:Nat} {w w':World} (h:Vc n a b z y w) (k:ly l hi w w') (c:n < l\/hi<=n):Vc n a b z y w':=h.congr (k.heap n h.lt c)
theorem Vc.new (a b:Int) (z:ByteArray) (y:Value) (w:World):Vc w.heap.size a b z y (w.alloc (.cells #[.int .u8 a,.int .u8 b,.string z,y] 27)):=by
 have e:(w.alloc (.cells #[.int .u8 a,.int .u8 b,.string z,y] 27)).heap[w.heap.size]? =some (.cells #[.int .u8 a,.int .u8 b,.string z,y] 27):=World.heap_alloc_new;refine ⟨by rw [cell_of e];rfl,by rw [cell_of e];rfl,by rw [cell_of e];rfl,by rw [cell_of e];rfl,fun o=> ?_⟩;simp only [World.frozen?,e,Bool.and_eq_false_iff,decide_eq_false_iff_not];omega
theorem Vc.put {n:Nat} {a b:Int} {z:ByteArray} {y:Value} {w:World} (h:Vc n a b z y w) (a' b':Int) (z':ByteArray) (y':Value):
  Vc n a' b' z' y' ((((w.setCell ⟨n,0,none⟩ (.int .u8 a')).setCell ⟨n,1,none⟩ (.int .u8 b')).setCell ⟨n,2,none⟩ (.string z')).setCell ⟨n,3,none⟩ y')/\
  ly n (n+1) w ((((w.setCell ⟨n,0,none⟩ (.int .u8 a')).setCell ⟨n,1,none⟩ (.int .u8 b')).setCell ⟨n,2,none⟩ (.string z')).setCell ⟨n,3,none⟩ y'):=by
 have d:=fun k j=>jO w (.int .u8 a') h.c0 k j;have q:=fun k j=>oc w (.int .u8 a') h.c0 k j;have r:ly n (n+1) w _:=ly.set w (.int .u8 a') h.c0 (NX n) (Pj n);generalize w.setCell ⟨n,0,none⟩ (.int .u8 a')=w0 at *;have l:w0.cell? ⟨n,1,none⟩=some (.int .u8 b):=by rw [d];simpa using h.c1
 have e:=fun k j=>jO w0 (.int .u8 b') l k j;have s:=fun k j=>oc w0 (.int .u8 b') l k j;have t:ly n (n+1) w0 _:=ly.set w0 (.int .u8 b') l (NX n) (Pj n);generalize w0.setCell ⟨n,1,none⟩ (.int .u8 b')=w1 at *;have m:w1.cell? ⟨n,2,none⟩=some (.string z):=by rw [e,d];simpa using h.c2
 have g:=fun k j=>jO w1 (.string z') m k j;have u:=fun k j=>oc w1 (.string z') m k j;have v:ly n (n+1) w1 _:=ly.set w1 (.string z') m (NX n) (Pj n);generalize w1.setCell ⟨n,2,none⟩ (.string z')=c at *;have p:c.cell? ⟨n,3,none⟩=some y:=by rw [g,e,d];simpa using h.c3
 have i:=fun k j=>jO c y' p k j;have x:=fun k j=>oc c y' p k j;have A:ly n (n+1) c _:=ly.set c y' p (NX n) (Pj n);generalize c.setCell ⟨n,3,none⟩ y'=B at *;refine ⟨⟨by rw [i,g,e,d];simp,by rw [i,g,e];simp,by rw [i,g];simp,by rw [i];simp,fun o=>by rw [x,u,s,q];exact h.f o⟩,((r.trans t).trans v).trans A⟩
end Go.Proofs.YtpinfliihpdjcaaGreatDoor.Vm
