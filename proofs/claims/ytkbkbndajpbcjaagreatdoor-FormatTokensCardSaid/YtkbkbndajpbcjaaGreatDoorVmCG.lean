/-
  A part of the proof.
-/
import Derived.Test.YtkbkbndajpbcjaaGreatDoorVmCF
import Derived.Test.YtkbkbndajpbcjaaGreatDoorVmCB
set_option maxRecDepth 1000000
set_option linter.all false
namespace Go.Proofs.YtkbkbndajpbcjaaGreatDoor.Vm
open Go Go.VM Go.Proofs Go.Lex Go.Parse Go.Scope Go.Ast
abbrev pTI:TI:=TI.mk (U.struct [(0,5),(1,5),(2,55),(4,9),(5,56)]) 6 64 z6 true true
abbrev eTI:TI:=TI.mk (U.struct [(0,5),(1,55),(3,4),(4,9),(5,56),(6,57)]) 7 96 z7 true true
theorem TK {n:Nat} (h:n<=1000000000):dn n pTI=true:=by
 simp only [dn,jX (show n * 64<=70368744177664 by omega),jX (show n<=70368744177664 by omega)];rfl
theorem Wp {n:Nat} (h:n<=1000000000):dn n eTI=true:=by
 simp only [dn,jX (show n * 96<=70368744177664 by omega),jX (show n<=70368744177664 by omega)];rfl
structure Vg (st:St) (l:wS) (X:AV) (ws:LA) (Y:AV) (fs:LA):Prop where
 w:Vw st l
 p:rK st 6 ve X ws
 a:rK st 7 uM Y fs
section
variable {β:Type} {Q:β->Prop} {st:St} {l:wS} {X Y:AV} {ws fs:LA}
theorem aa.Uw (w:Vg st l X ws Y fs) {ty:Td} {cs:LA} {K:St->Oq β} (g: ∀s,s.h=st.h+1->Vg s ((st.h,ty,cs)::l) X ws Y fs->aa (K s) Q):aa (bM (st.add (.cells ty cs)) K) Q:=
 g _ rfl ⟨w.w.alloc ty cs,w.p.keeps (aZ.add _ _ _),w.a.keeps (aZ.add _ _ _)⟩
theorem aa.Ys {O:tf} (l1:wS) {l2:wS} {a:Nat} {ty:Td} {old:LA} (w:Vg st (l1++(a,ty,old)::l2) X ws Y fs) {off y:Nat} {u:AV} {cs:LA} {K:Kv β} (hl:off+cs.length<=old.length)
  (g: ∀s o,s.h=st.h->Vg s (l1++(a,ty,cO old off cs)::l2) X ws Y fs->aa (K VM.undef s ⟨[a],.wrote a o⟩) Q) (c:cs.length=y:=by rfl):aa (aK O y (.mp a off) u cs st K) Q:=by
 have hm:(a,ty,old)∈l1++(a,ty,old)::l2:=List.mem_append_right _ aag;have b:=w.w.get hm;exact aa.step (dp b c hl (w.w.v _ hm).2 K) (g _ _ rfl ⟨w.w.putAt _,w.p.put b,w.a.put b⟩)
theorem BW {s:St} {k n z n' z':Nat} {e:Td} {es es':LA} (h:ya st s e) (c:s.get k= .ok (.grow n e z es)):ya st (s.put k (.grow n' e z' es')) e:=
 ⟨h.ro,h.h,fun j o h1 b d=>by
  have a:=h.old j o h1 b d;have:k≠j:=by rintro rfl;rw [c] at a;cases a;exact b _ _ _ rfl
  rw [St.aT this];exact a⟩
theorem Pb {z:Nat} {e:Td} {x:AV} (h:rK st z e x ws) (hl:ws.length<=9223372036854775807) (h0: ∃t cs,st.get 0= .ok (.cells t cs)) (h1: ∃t cs,st.get 1= .ok (.cells t cs)):SQ st z x ws:=by
 refine ⟨h.one,fun st' b=> ?_⟩;rcases h with ⟨rfl,rfl⟩ | rfl | ⟨k,rfl,_⟩ | ⟨k,rfl,a,_⟩
 .exact ⟨.ax,aO.ax,fun _=>rfl⟩
 .exact ⟨.sl z ws .shut,aO.shut hl,fun _=>rfl⟩
 .exact ⟨.sl z ws .wide,aO.wide hl,fun _=>rfl⟩
 .have d:2<=k:=by
   obtain ⟨t,cs,h0⟩:=h0;obtain ⟨t',cs',h1⟩:=h1;have g:k≠0:=by rintro rfl;rw [h0] at a;cases a
   have i:k≠1:=by rintro rfl;rw [h1] at a;cases a
   omega
  have c:=b k _ d a;refine ⟨.sl z ws .wide,aO.wide hl,fun n=> ?_⟩;have f:((ws.length).beq ws.length&&(ws.length).beq ws.length&&z.beq z)=true:=by simp
  have h0:k.blt 0=false:=da.2 (aaO _);show (match k.blt 0 with
   | true=>Except.ok (AV.gs k z ws.length)
   | false=>do
    match <- st'.get k with
    | .grow m _ z' es=>match ((ws.length).beq m&&(ws.length).beq es.length)&&z'.beq z with
     | true=> .ok (.sl z es .wide)
     | false=> .error "freeze: an elder slice"
    | _=> .error "freeze: what?")= _
  rw [h0,c];simp only [aA,f]
end
theorem PZ {a b:Nat} (h:a≠b):a.beq b=false:=by
 cases e:a.beq b with
 | true=>exact absurd (aap e) h
 | false=>rfl
theorem QA {k lit:Nat} {sp:Sp} {nm:LB} {x:AV} {es:LA} (h:aO 6 x es):VM.fit (.agg (tZ k lit sp nm x))= .ok (.agg (tZ k lit sp nm x))/\gh (tZ k lit sp nm x)=true:=by
 refine ⟨?_,by simp only [tZ,gh,h.one];rfl⟩;show (match VM.bare (.agg [.int .u8 (k:Int),.int .u8 (lit:Int),.int .i64 sp.1,.int .i64 sp.2,.str nm,strip x]) with
  | true=>Except.ok (AV.agg [.int .u8 (k:Int),.int .u8 (lit:Int),.int .i64 sp.1,.int .i64 sp.2,.str nm,strip x])
  | false=> .error "a name within what never changes")= _
 rw [h.strip,mf];simp only [aJ,h.bare];rfl
theorem Oe {k:Nat} {sp:Sp} {rc:Bool} {nm:LB} {x y:AV} {es fs:LA} (h:aO 6 x es) (a:aO 7 y fs):VM.fit (.agg (fw k sp rc nm x y))= .ok (.agg (fw k sp rc nm x y))/\gh (fw k sp rc nm x y)=true:=by
 refine ⟨?_,by simp only [fw,gh,h.one,a.one];rfl⟩;show (match VM.bare (.agg [.int .u8 (k:Int),.int .i64 sp.1,.int .i64 sp.2,.bool rc,.str nm,strip x,strip y]) with
  | true=>Except.ok (AV.agg [.int .u8 (k:Int),.int .i64 sp.1,.int .i64 sp.2,.bool rc,.str nm,strip x,strip y])
  | false=> .error "a name within what never changes")= _
 rw [h.strip,a.strip,mf];simp only [aJ,h.bare,a.bare];rfl
def Oc (p:Nat×T):Prop:= ∀tk tx l,p.2= .mk 10 tk tx l->l.length < 1000000000/\p.1+(bg l).length<=1000000000000/\ ∃q0 b a,bY p.1 l=[q0,b,a]/\pG q0/\gl a
def pH (p:Nat×T):List (jQ×lg):=EK p.1 p.2
theorem Qu {p:Nat×T} {k tk:Nat} {tx:LB} {l:List T} (h:p.2= .mk k tk tx l) (a:k≠10):pH p=[]:=by
 unfold pH;rw [h,EK,if_neg a]
theorem On {p q0 b a:Nat×T} {tk:Nat} {tx:LB} {l:List T} (h:p.2= .mk 10 tk tx l) (c:bY p.1 l=[q0,b,a]):pH p=[(jv q0.1 q0.2,cQ a.1 a.2)]:=by
 unfold pH;rw [h,EK,if_pos rfl,nX,ib,c];rfl
theorem DE: ∀(l:List T) (a:Nat),vf a l=(bY a l).flatMap pH
 | [],_=>rfl
 | t::l,a=>by rw [vf,bY,aa4,DE l];rfl
section
variable {st:St} {S:Sp} {x:AV} {es:LA} (w0:Vw st (wm 0 S false [] .ax .ax)) (hx:aO 5 x es)
include w0 hx
theorem ZJ {ps:List (Nat×T)} {p1:Nat×T} (hs:ij nt ps es) (hn:ps.length < 100000000) (h1:ps[1]? =some p1) (hE:gl p1) (hA: ∀p∈ps,Oc p):
  aa ((aQ vE).wide 120 [.mp 1 0,x] st) (Cg S 13 false [] ((ps.flatMap pH).map (·.1)) (cQ p1.1 p1.2::(ps.flatMap pH).map (·.2))):=by
 have hlen:=hs.len;have dx:=hx.1;obtain ⟨a1,b1,s1,y1,b5,_,⟨g1,W⟩,e1⟩:=gR hx hs (i:=1) h1;have e1: ∀{β:Type} (st:St) (K:AV->Ln->Oq β),bL 5 x 1 st K= _:=e1;refine aa.wide (aa.step (SJ _ _ _) ?_);simp only [X1,e1,bj,iy,ai,al,ab,af,ah,ae,W.ad,W.aD];refine aa.gu (mB (aO.shut (aah rfl)) (KT b5) (aah rfl) (fun p hp=>by
  rcases aao.1 hp with rfl | hp
  .exact hE
  .cases hp) st w0.ro) rfl (jc _) ?_
 rintro v s ⟨C,w,hw⟩;have b6:C.length=1:=by have:=hw.len;simpa using this
 have b8:rK s 7 uM v C:=by
  rcases w.o.2.2 with ⟨_,rfl⟩ | h | ⟨k,h1,h2,h3⟩
  .cases b6
  .exact .inr (.inl h)
  .exact .inr (.inr (.inl ⟨k,h1,h2,h3⟩))
 have H:Vg s (wm 0 S false [] .ax .ax) .ax [] v C:=⟨w0.keeps w.k fun _ _ f=>f,.inl ⟨rfl,rfl⟩,b8⟩;simp only [dP,aG,bw,aax];refine aa.Ys [] H (aah rfl) fun s3 o3 _ H=>aa.one H.a.one (aa.one H.a.one (aa.Ys [] H (aah rfl) fun s4 o4 _ H=> ?_));have H:Vg s4 (wm 13 S false [] .ax v) .ax [] v C:=H;refine aa.step (hx.len _) ?_;refine aa.bind (R:=fun c=> ∃s X ws Y fs,c=(0,[],s)/\Vg s (wm 13 S false [] X Y) X ws Y fs/\di ((ps.flatMap pH).map (·.1)) ws/\fA (cQ p1.1 p1.2::(ps.flatMap pH).map (·.2)) fs/\ws.length<=ps.length/\fs.length<=ps.length+1) ?_ ?_
 .refine aa.upto (n:=es.length) (I:=fun i c=> ∃s X ws Y fs,c=([.int .i64 (i:Int)],s)/\Vg s (wm 13 S false [] X Y) X ws Y fs/\di (((ps.take i).flatMap pH).map (·.1)) ws/\fA (cQ p1.1 p1.2::((ps.take i).flatMap pH).map (·.2)) fs/\ws.length<=i/\fs.length<=i+1) ?_ ?_ es.length 0 _ (by omega) ⟨s4,.ax,[],v,C,rfl,H,by simpa using di.nil,by simpa using hw,aal _,by omega⟩
  .rintro i c hi ⟨s,X,ws,Y,fs,rfl,w,g,m,lw,lf⟩;have M:i < ps.length:=by omega
   obtain ⟨U,N,r,y2,P,_,⟨g2,cc⟩,e2⟩:=gR hx hs (i:=i) (aav M);have q: ∃l2,ps[i].2= .mk U N r l2:=by
    obtain ⟨a,b,s,y,e,hN⟩:=P;obtain ⟨l,gs,ht,_,_⟩:=na hN;injection e with e
    have q1:=(List.cons.inj e).1;have Z:=(List.cons.inj e).2;have q3:=(List.cons.inj Z).1;have q4:=(List.cons.inj (List.cons.inj Z).2).1;simp only [AV.int.injEq,abM,AV.str.injEq] at q1 q3 q4;obtain rfl:U=a:=by omega
    obtain rfl:N=b:=by omega
    subst q4;exact ⟨l,ht⟩
   obtain ⟨l2,q⟩:=q;have hh:2<=s.h:=by
    have:=(St.ca.1 (w.w.get (aag))).1;omega
   simp only [Er,ab,af,ae,ak,if_pos (show (i:Int) < (es.length:Int) by omega),e2,bj,iy,ai,al,ah];refine aa.Uw w fun s5 _ w=>aa.one cc.one (aa.Ys [] w (aah rfl) fun s6 o6 _ w=>aa.ff aag w.w rfl (aa.step (af _ _ _) ?_));rw [show ((U:Int)==10)=(U==10) from cY U 10];refine aa.bind (R:=fun c=> ∃s X ws Y fs,c=([],s)/\Vg s (wm 13 S false [] X Y) X ws Y fs/\di (((ps.take (i+1)).flatMap pH).map (·.1)) ws/\fA (cQ p1.1 p1.2::((ps.take (i+1)).flatMap pH).map (·.2)) fs/\ws.length<=i+1/\fs.length<=i+2) ?_ ?_
   .rw [eU M,List.flatMap_append,aaG,aaG];by_cases hk:U=10
    .subst hk;obtain ⟨h5,h6,q0,q1,Z,hq,cd,cg⟩:=hA _ (aaV M) _ _ _ q;have D:[ps[i]].flatMap pH=[(jv q0.1 q0.2,cQ Z.1 Z.2)]:=by rw [aa4,List.flatMap_nil,aay,On q hq]
     rw [D];obtain ⟨z,zs,cl,hz,Q⟩:=sP (a:=ps[i].1) (k:=10) (tk:=N) (tx:=r) (l:=l2) (by rw [<- q];exact P) h6 h5;rw [hq] at Q;obtain ⟨a7,b7,s7,y7,ar,_,⟨g7,ea⟩,e7⟩:=gR hz Q (i:=0) rfl;obtain ⟨a9,b9,s9,y9,av,_,⟨g9,eb⟩,e9⟩:=gR hz Q (i:=2) rfl;have e7: ∀{β:Type} (st:St) (K:AV->Ln->Oq β),bL 5 z 0 st K= _:=e7;have e9: ∀{β:Type} (st:St) (K:AV->Ln->Oq β),bL 5 z 2 st K= _:=e9;obtain ⟨u,eu,hu⟩:=cd _ ar;obtain ⟨u2,cn,aw⟩:=cg _ av;obtain ⟨V,d,A,B,ec,y3,ed,ee,rfl,a6,ef⟩:=ji hu;obtain ⟨k4,E,F,G,eg,ei,x4,ek,y4,eo,er,rfl,a8,et,bb,ey,ez⟩:=iG aw;have bt:nt (ps[i].1,.mk 10 N r l2) (.agg [.int .u8 ((10:Nat):Int),.int .u8 (N:Int),.str r,y2,.int .i64 (ps[i].1:Int)]):=by rw [<- q];exact P
     refine aa.step (ay _ _) (aa.fo aag w.w rfl ?_);show aa (uz (.agg [_,_,_,_,_]) _) _;simp only [al,ab,af,ah,ae];refine aa.step (jw bt rfl cl s6 _) ?_;simp only [dP,aG,bw,aax];refine aa.ff (aam _ aag) w.w rfl ?_;simp only [e7,bj,iy,ai,al,ab,af,ah,ae,jw ar rfl eu,cI,cA,aaI,aG,w.p.len];obtain ⟨k,t1,x1,ep,gk,rk,kk,nk⟩:=FR (O:=aQ vE) (i:=pTI) (u:= .agg z6) w.p w.w.ro rfl rfl rfl rfl (TK (by omega));obtain ⟨fp,op⟩:=QA (k:=V) (lit:=d) (sp:=A) (nm:=B) a6;refine aa.step (ep _) (aa.step (Po gk rfl _) (aa.one a6.one (aa.step (He (v:= .agg (tZ V d A B y3)) gk rfl rk rfl op fp _) ?_)));have kp:=BW (n':=ws.length+1) (z':=6) (es':=ws++[.agg (tZ V d A B y3)]) kk gk;have w9:Vg (t1.put k (.grow (ws.length+1) ve 6 (ws++[.agg (tZ V d A B y3)]))) ((s.h,52,[.int .u8 ((10:Nat):Int),.int .u8 (N:Int),.str r,y2,.int .i64 (ps[i].1:Int)])::wm 13 S false [] X Y) (.gs k 6 (ws.length+1)) (ws++[.agg (tZ V d A B y3)]) Y fs:=
      ⟨kp.vw w.w,.inr (.inr (.inr ⟨k,by rw [aad];rfl,by rw [aad];exact St.aN (St.ca.1 gk).1,rk⟩)),w.a.BI kp (by decide)⟩
     have J:k≠1:=(nk 1 _ _ (w.w.get (aam _ aag))).symm;have cp: ∀o o',apart ⟨[k],.wrote k o⟩ ⟨[1],.wrote 1 o'⟩=true:=fun o o'=>by
      show (!k.beq 1&& ![1].contains k&& ![k].contains 1)=true;have:k.beq 1=false:=PZ J;simp [this,J,J.symm]
     have cv: ∀o',apart ⟨[k],.kept⟩ ⟨[1],.wrote 1 o'⟩=true:=fun o'=>rN J;have cy: ∀o,apart ⟨[k],.wrote k o⟩ ⟨[],.kept⟩=true:=fun o=>rfl;simp only [cy,aaI,aG];refine aa.one rfl (aa.one rfl (aa.Ys [_] w9 (aah rfl) fun s9 o9 _ w=> ?_));simp only [cp,cv,aaI,aG];refine aa.ff (aam _ aag) w.w rfl ?_;simp only [e9,bj,iy,ai,al,ab,af,au,ah,ae,jw av rfl cn,cI,cA,aaI,aG,w.a.len];obtain ⟨j,t2,x2,cz,gj,rj,kj,nj⟩:=FR (O:=aQ vE) (i:=eTI) (u:= .agg z7) w.a w.w.ro rfl rfl rfl rfl (Wp (by omega));obtain ⟨cF,c6⟩:=Oe (k:=k4) (sp:=E) (rc:=F) (nm:=G) a8 bb;refine aa.step (cz _) (aa.step (Po gj rfl _) (aa.one a8.one (aa.one bb.one (aa.step (He (v:= .agg (fw k4 E F G x4 y4)) gj rfl rj rfl c6 cF _) ?_))));have b4:=BW (n':=fs.length+1) (z':=7) (es':=fs++[.agg (fw k4 E F G x4 y4)]) kj gj;have c7:Vg (t2.put j (.grow (fs.length+1) uM 7 (fs++[.agg (fw k4 E F G x4 y4)]))) ((s.h,52,[.int .u8 ((10:Nat):Int),.int .u8 (N:Int),.str r,y2,.int .i64 (ps[i].1:Int)])::wm 13 S false [] (.gs k 6 (ws.length+1)) Y) (.gs k 6 (ws.length+1)) (ws++[.agg (tZ V d A B y3)]) (.gs j 7 (fs.length+1)) (fs++[.agg (fw k4 E F G x4 y4)]):=
      ⟨b4.vw w.w,w.p.BI b4 (by decide),.inr (.inr (.inr ⟨j,by rw [aad];rfl,by rw [aad];exact St.aN (St.ca.1 gj).1,rj⟩))⟩
     have L:j≠1:=(nj 1 _ _ (w.w.get (aam _ aag))).symm;have c8: ∀o o',apart ⟨[j],.wrote j o⟩ ⟨[1],.wrote 1 o'⟩=true:=fun o o'=>by
      show (!j.beq 1&& ![1].contains j&& ![j].contains 1)=true;have:j.beq 1=false:=PZ L;simp [this,L,L.symm]
     have de: ∀o',apart ⟨[j],.kept⟩ ⟨[1],.wrote 1 o'⟩=true:=fun o'=>rN L;have dk: ∀o,apart ⟨[j],.wrote j o⟩ ⟨[],.kept⟩=true:=fun o=>rfl;simp only [dk,aaI,aG];refine aa.one rfl (aa.one rfl (aa.Ys [_] c7 (aah rfl) fun dv e0 _ w=> ?_));simp only [c8,de,aaI,aG];refine aa.some ⟨dv,_,_,_,_,rfl,⟨w.w.sub (abr _ _),w.p,w.a⟩,xn g hu, ?_,by rw [aad];simp;omega,by rw [aad];simp;omega⟩;exact xL (l:=cQ p1.1 p1.2:: _) m aw
    .have D:[ps[i]].flatMap pH=[]:=by rw [aa4,List.flatMap_nil,aay,Qu q hk]
     rw [D,aaH,aaH,aay,aay,aaB.2 hk];exact aa.step (aq _ _) (aa.some ⟨s6,X,ws,Y,fs,rfl,⟨w.w.sub (abr _ _),w.p,w.a⟩,g,m,by omega,by omega⟩)
   .rintro c ⟨s,X,ws,Y,fs,rfl,w,g,m,lw,lf⟩;simp only [ae,aF,ck (show i+1<=9223372036854775807 by omega)];exact aa.inl ⟨s,X,ws,Y,fs,rfl,w,g,m,by omega,by omega⟩
  .rintro c ⟨s,X,ws,Y,fs,rfl,w,g,m,lw,lf⟩;simp only [Er,ab,af,ae,ak,if_neg (show ¬ ((es.length:Nat):Int) < (es.length:Int) by omega)];rw [hlen,aaJ] at g m;exact aa.inr ⟨s,X,ws,Y,fs,rfl,w,g,m,by omega,by omega⟩
 .rintro c ⟨s,X,ws,Y,fs,rfl,w,g,m,lw,lf⟩;have c1: ∃t cs,s.get 1= .ok (.cells t cs):=⟨_,_,w.w.get aag⟩;have c0: ∃t cs,s.get 0= .ok (.cells t cs):=⟨_,_,w.w.get (aam _ aag)⟩;exact aa.step (ae _) (aa.some ⟨rfl,X,ws,Y,fs,w.w,Pb w.p (by omega) c0 c1,Pb w.a (by omega) c0 c1,g,m,fun e=>by cases e⟩)
end
abbrev J2:AV:=AV.im [(AV.int .u8 14,AV.fn (Fn.func 111) [] []),(AV.int .u8 15,AV.fn (Fn.func 113) [] []),(AV.int .u8 13,AV.fn (Fn.func 114) [] []),(AV.int .u8 11,AV.fn (Fn.func 115) [] []),(AV.int .u8 12,AV.fn (Fn.func 116) [] []),(AV.int .u8 8,AV.fn (Fn.func 117) [] []),(AV.int .u8 7,AV.fn (Fn.func 118) [] []),(AV.int .u8 6,AV.fn (Fn.func 119) [] []),(AV.int .u8 9,AV.fn (Fn.func 120) [] [])]
theorem R0:(aQ vE).bare 71 []=some J2:=aU rfl TW
theorem MA {γ:Type} (st:St) (K:Kv γ):bf (aQ vE) 71 [] st K=K J2 st q0:=aI st K rfl rfl rfl R0
def qS (k F:Nat):Prop:=iT (Env.T vE) 137 J2 (.int .u8 (k:Int)) false= .ok (.val (.fn (.func F) [] []))
theorem OD:qS 14 111:=by unfold qS;kernel_rfl
theorem OY:qS 15 113:=by unfold qS;kernel_rfl
theorem Ux:qS 13 114:=by unfold qS;kernel_rfl
theorem Uv:qS 11 115:=by unfold qS;kernel_rfl
theorem TX:qS 12 116:=by unfold qS;kernel_rfl
theorem YC:qS 8 117:=by unfold qS;kernel_rfl
theorem Xz:qS 7 118:=by unfold qS;kernel_rfl
theorem Yp:qS 6 119:=by unfold qS;kernel_rfl
theorem Xn:qS 9 120:=by unfold qS;kernel_rfl
theorem Kg {st:St} {x y x' y':AV} {b c:LA} (hx:aO 6 x' b) (hy:aO 7 y' c) (d: ∀n,VM.freeze st 0 (n+1) x= .ok x') (e: ∀n,VM.freeze st 0 (n+1) y= .ok y') (k:Nat) (sp:Sp) (a:Bool) (nm:LB) {β:Type} (K:AV->Oq β):
  eF st 0 (.agg (fw k sp a nm x y)) K=K (.agg (fw k sp a nm x' y')):=by
 refine zB (bF (fC _ _ st 0 99 (by omega)) (bF (fC _ _ st 0 99 (by omega)) (bF (fC _ _ st 0 99 (by omega)) (bF (zy _ st 0 99 (by omega)) (bF (uO _ st 0 99 (by omega)) (bF (d 98) (bF (e 98) nV))))))) ?_ K;simp only [aJ,hx.bare,hy.bare];rfl
theorem KC {S:Sp} {Q:AV->Prop} {K:St->Oq AV} {st:St} (a:st=St.mk 2 0 (Tr.node (some (VM.Obj.cells uM z7)) (Tr.node (some (VM.Obj.cells uM z7)) Tr.leaf Tr.leaf) Tr.leaf)) (g: ∀s,Vw s (wm 0 S false [] .ax .ax)->aa (K s) Q):
  aa (aK (aQ vE) 2 (.mp 1 1) (.agg [.int .i64 S.1,.int .i64 S.2]) [.int .i64 S.1,.int .i64 S.2] st fun _ s _=>K s) Q:=by
 have w0:Vo st [(1,uM,z7),(0,uM,z7)] 7 uM .ax []:=by
  rw [a];refine ⟨⟨fun q b=> ?_,by show ([1,0]:Ln).Nodup;decide,aaO _⟩,iX.ax (aaO _) _ _⟩;simp only [aao,aaF,or_false] at b;rcases b with rfl | rfl <;> (refine ⟨?_,Nat.zero_le _⟩;dsimp only;rfl)
 exact aa.nM [] w0 (aah rfl) fun c o1 _ w=>g c w.w
theorem Pc {st:St} {k:Nat} {S:Sp} {rc:Bool} {nm:LB} {x y:AV} {ws fs:LA} {P:List jQ} {E:List lg} (w:Vw st (wm k S rc nm x y)) (hx:SQ st 6 x ws) (hy:SQ st 7 y fs) (hp:di P ws) (he:fA E fs) (hn:P.length<=100000000) {k2:Nat} {f:Sp} {a:Bool} {b:LB} {g h:AV} (m:fw k2 f a b g h=fw k S rc nm x y):
  aa (aK (aQ vE) 7 (.mp 0 0) (.agg (fw k2 f a b g h)) (fw k2 f a b g h) st fun _ s _=>ao 7 true (.mp 0 0) s fun v _=>uz v fun l=>bo l fun v1 l=>bK .u8 v1 fun n=>bo l fun p l=>bK .i64 p fun q=>bo l fun r l=>bK .i64 r fun t=>bo l fun u l=>ct u fun A=>bo l fun B l=>fG B fun C=>bo l fun D l=>bo l fun F l=>bQ l (eF s 0 (.agg [.int .u8 n,.int .i64 q,.int .i64 t,.bool A,.str C,D,F]) fun v=>some v)) (yE (.mk k S rc nm P E)):=by
 rw [m];have hm:=w.v _ (aam _ aag);refine aa.step (dp (z:=7) (cs:=fw k S rc nm x y) (off:=0) (old:=z7) hm.1 rfl (aah rfl) hm.2 _) (aa.step (bq (St.aN (St.ca.1 hm.1).1) _ _ _ _) ?_);have i:cO z7 0 (fw k S rc nm x y)=fw k S rc nm x y:=rfl;rw [i];simp only [fw,aaw,tL,ai,al,ab,af,au,ah,ae];have c: ∀j o,2<=j->st.get j= .ok o->(st.put 0 (.cells uM (fw k S rc nm x y))).get j= .ok o:=fun j o J G=>by
  rw [St.aT (by omega)];exact G
 obtain ⟨x',d,H⟩:=hx.fr _ c;obtain ⟨y',e,I⟩:=hy.fr _ c;exact aa.step (Kg d e H I k S rc nm _) (aa.some (x9 d hp e he hn))
theorem G8:apart q0 q0=true:=rfl
def pick (r:lg):List lg->lg
 | [e]=>e
 | _=>r
theorem gY {a k F k2:Nat} {l:List T} {S:Sp} {rc:Bool} {nm:LB} {P:List jQ} {E:List lg} (hf:Fit (a,node k l)) (h1:k≠1) (h2:k≠2) (hS:oz a (node k l)=S) (look:qS k F) (m:vE.isLook F=false)
  (o: ∀(y:AV) (st:St) (K:Kv AV),iZ (aQ vE) (Sx.prim (sx vE 39)) (.fn (.func F) [] []) [.mp 1 0,y] st K=bf (aQ vE) F [.mp 1 0,y] st K)
  (say: ∀(st:St) (x:AV) (es:LA),Vw st (wm 0 S false [] .ax .ax)->aO 5 x es->ij nt (bY a l) es->aa ((aQ vE).wide F [.mp 1 0,x] st) (Cg S k2 rc nm P E)) (Z:P.length<=100000000) (C:k=14->k2=6)
  (b:cQ a (node k l)=if k=14 then pick (.mk k2 S rc nm P E) E else .mk k2 S rc nm P E):gl (a,node k l):=by
 rintro v p;obtain ⟨g1,g2,g3⟩:=hf.kids h1 h2;have D:=zk p (by have:=hf.t;omega);obtain ⟨x,es,G,hx,hs⟩:=sP (a:=a) (k:=k) (tk:=0) (tx:=[]) (l:=l) p (by omega) (by omega);have q:=fun {γ:Type} (st:St) (K:Kv γ)=>jw p rfl D st K;have H:=fun {γ:Type} (st:St) (K:Kv γ)=>jw p rfl G st K;obtain ⟨a1,b1,s1,y,rfl,hN⟩:=p;obtain ⟨l',es',I,hy,ar⟩:=na hN;cases I;simp only [hS] at q;refine aa.bare rfl (aa.step (NS _) ?_);simp only [Zd,al,ab,af,ah,ae,hy.ad,hy.aD];refine aa.step (q _ _) ?_;simp only [br,aP,ba,al,ab,af,ae,au];refine KC rfl fun s w=> ?_;rw [show ((k:Int)==1)=(k==1) from cY k 1,aaB.2 h1,show ((k:Int)==14)=(k==14) from cY k 14];refine aa.step (aq _ _) (aa.step (MA _ _) ?_);have look:iT (Env.T vE) 137 J2 (.int .u8 (k:Int)) false= _:=look;simp only [cI,cA,G8,aaI,aG,look,Db];refine aa.step (H _ _) ?_;simp only [cI,cA,G8,aaI,aG];refine aa.step (o _ _ _) ?_;refine aa.gu (say s x es w hx hs) m rfl ?_;rintro v2 s2 ⟨_,X,ws,Y,fs,w,sx,A,hp,he,ho⟩;by_cases J:k=14
 .subst J;obtain rfl:=C rfl;rw [if_pos rfl] at b;have ho:=ho rfl;have L:=he.len;refine aa.bind (R:=fun c=>c=([.bool ((fs.length:Int)==1)],s2)) (aa.step (ay _ _) (aa.ff aag w rfl (aa.step (EW ho _) (aa.some rfl)))) ?_;rintro c rfl;simp only [ab,au,ae];by_cases r:fs.length=1
  .obtain ⟨e,rfl⟩:=List.length_eq_one_iff.1 (show E.length=1 by omega);simp only [fA] at he;obtain ⟨u,us,rfl,hu,rfl⟩:=he;obtain ⟨B,d,f,g,av,aw,M,a6,N,a7,O,rfl,i,Q,j,U,V⟩:=iG hu;refine aa.step (ay _ _) (aa.ff aag w rfl (aa.step (zv ho (k:=0) rfl _ _) ?_));simp only [lu,bj,tL,ai,al,ab,af,au,ah,ae,i.ad,j.ad];have hm:=w.v _ (aam _ aag);refine aa.step (dp (z:=7) (cs:=fw B d f g M N) (off:=0) (old:=z7) hm.1 rfl (aah rfl) hm.2 _) (aa.step (bq (St.aN (St.ca.1 hm.1).1) _ _ _ _) ?_);rw [show cO z7 0 (fw B d f g M N)=fw B d f g M N from rfl];simp only [fw,aaw,tL,ai,al,ab,af,au,ah,ae];refine aa.step (Kg i j (fun n=>uc i _ 0 (n+1) (by omega)) (fun n=>uc j _ 0 (n+1) (by omega)) B d f g _) (aa.some ?_);show yE (cQ a (node 14 l)) _;rw [b];show yE e _;rw [O];exact x9 i Q j U V
  .rw [show ((fs.length:Int)==1)=false by rw [aaB];omega];refine aa.step (aq _ _) (aa.fo aag w rfl ?_);simp only [al,ab,af,au,ah,ae];refine aa.one sx.one (aa.one A.one ?_);have W:cQ a (node 14 l)= .mk 6 S rc nm P E:=by
    rw [b]
    match E,L with
    | [],_=>rfl
    | [_],h=>exact absurd (h.trans rfl) r
    | _:: _:: _,_=>rfl
   show aa _ (yE (cQ a (node 14 l)));rw [W];exact Pc w sx A hp he Z rfl
 .rw [if_neg J] at b;refine aa.bind (R:=fun c=>c=([.bool false],s2)) (by rw [aaB.2 J];exact aa.step (aq _ _) (aa.some rfl)) ?_;rintro c rfl;simp only [ab,au,ae];refine aa.step (aq _ _) (aa.fo aag w rfl ?_);simp only [al,ab,af,au,ah,ae];refine aa.one sx.one (aa.one A.one ?_);show aa _ (yE (cQ a (node k l)));rw [b];exact Pc w sx A hp he Z rfl
theorem K8 {a tk:Nat} {tx:LB} {ks:List T} (hf:Fit (a,.mk 1 tk tx ks)) (h:Tv jE ks) (i:jE (tk,tx)):gl (a,.mk 1 tk tx ks):=by
 rintro v c;obtain ⟨p,q,g3⟩:=FI hf h;have d:=zk c (by have:=hf.t;omega);have e:=fun {γ:Type} (st:St) (K:Kv γ)=>jw c rfl d st K;obtain ⟨r,u,x,y,rfl,j⟩:=c;obtain ⟨z,es',g,hy,k⟩:=na j;cases g;have l:=fun {γ:Type} (st:St) (K:Kv γ)=>aI (f:=70) st K rfl rfl rfl (tG i g3);have b:cQ a (.mk 1 tk tx ks)= .mk (gX tk tx).1 (oz a (.mk 1 tk tx ks)) false (gX tk tx).2 [] []:=by rw [cQ,pT,if_pos rfl]
 generalize m:oz a (.mk 1 tk tx ks)=S at *;refine aa.bare rfl (aa.step (NS _) ?_);simp only [Zd,al,ab,af,ah,ae,hy.ad,hy.aD];refine aa.step (e _ _) ?_;simp only [br,aP,ba,al,ab,af,ae,au,m];refine KC rfl fun s w=> ?_;refine aa.step (ay _ _) (aa.step (l _ _) ?_);simp only [br,aP,ba,af,ah];have w:Vo s (wm 0 S false [] .ax .ax) 7 uM .ax []:=⟨w,iX.ax w.ro _ _⟩;refine aa.nM [] w (aah rfl) fun A B _ w=>aa.nM [] w (aah rfl) fun n C _ w=> ?_;have w:Vo n (wm (gX tk tx).1 S false (gX tk tx).2 .ax .ax) 7 uM .ax []:=w;refine aa.fo aag w.w rfl ?_;simp only [al,ab,af,au,ah,ae];show aa _ (yE (cQ a (.mk 1 tk tx ks)));rw [b];exact aa.one rfl (aa.one rfl (Pc w.w (gP (iX.ax w.w.ro 6 ve)) (gP w.o) di.nil fA.nil (aaO _) rfl))
theorem fY (a k:Nat) (l:List T):cQ a (node k l)=pT k 0 [] (oz a (node k l)) l (rI a l) (il a l) (vf a l):=by rw [node,cQ]
structure Fa (ps:List (Nat×T)) (m:Nat) (p1 pe:Nat×T):Prop where
 h1:ps[1]? =some p1
 hm:m=if isRec p1.2=true then 2 else 1
 hl:m+3<=ps.length
 hp: ∀p∈(ps.drop m).take (ps.length - m - 2),pG p
 he:ps[ps.length - 1]? =some pe
 hE:gl pe
theorem Fa.eq {l:List T} {a m:Nat} {p1 pe:Nat×T} (h:Fa (bY a l) m p1 pe):oJ l (rI a l) (il a l)=(isRec p1.2&&zP (zH m (bY a l)),zH m (bY a l),cQ pe.1 pe.2):=by
 have c:l.getD 1 default=p1.2:=by
  have:=aaU (fun o:Oq (Nat×T)=>o.map (·.2)) h.h1;simp only [Option.map_some] at this;rw [<- aaW,pR] at this;rw [aaE,this];rfl
 have d:(il a l).getD ((il a l).length - 1) default=cQ pe.1 pe.2:=by
  rw [ib,aaA,aaE,aaW,h.he];rfl
 have hm:=h.hm;have b:m=if isRec p1.2=true then 2 else 1:=hm
 unfold oJ;simp only [c,d, <- b];have e:((rI a l).drop m).take ((rI a l).length - m - 2)=zH m (bY a l):=by
  unfold zH;rw [nX,aaA,List.map_take,List.map_drop]
 rw [e];rfl
theorem PA {t:T} (h:PT jE t):isRec t=false:=by
 cases h with
 | leaf b a c=>
  rename_i k tx ks;show (k==3&&tx==eO)=false;rcases a with rfl | rfl | rfl | ⟨_,rfl | rfl | rfl⟩
  .rfl
  .rfl
  .rfl
  .simp [rF,eO]
  .simp [mS,eO]
  .simp [Ht,eO]
 | cons _ _ _=>rfl
 | none _ _=>rfl
 | some _ _ _ _=>rfl
theorem dU {t:T} (h:Lf jE eO t):isRec t=true:=by
 obtain ⟨k,ks,rfl,a,b,_⟩:=h;rcases a with rfl | rfl
 .rfl
 .have:=b.2.2 rfl;simp [eO] at this
theorem RZ {s:LB} {t:T} (h:Lf jE s t): ∃tk tx l,t= .mk 1 tk tx l:=by
 obtain ⟨k,ks,rfl,_⟩:=h;exact ⟨k,s,ks,rfl⟩
theorem Wo {p:Nat×T} {k tk:Nat} {tx:LB} {l:List T} (h:p.2= .mk k tk tx l) (a:k≠10):Oc p:=fun b c d e=>by
 rw [h] at e;injection e with e
 exact absurd e a
theorem QK {t:T} (h:ET jE t): ∃k tk tx l,t= .mk k tk tx l/\k≠10:=by
 cases h with
 | leaf _ _ _=>exact ⟨_,_,_,_,rfl,by decide⟩
 | letin _ _ _ _=>exact ⟨_,_,_,_,rfl,by decide⟩
 | lambda _ _ _ _ _=>exact ⟨_,_,_,_,rfl,by decide⟩
 | ife _ _ _ _ _ _=>exact ⟨_,_,_,_,rfl,by decide⟩
 | mtch _ _ _ _ _ _=>exact ⟨_,_,_,_,rfl,by decide⟩
 | bin _ _ _=>exact ⟨_,_,_,_,rfl,by decide⟩
 | un _ _=>exact ⟨_,_,_,_,rfl,by decide⟩
 | app _ _=>exact ⟨_,_,_,_,rfl,by decide⟩
 | none h1 a=>rename_i list o c;exact ⟨_,_,_,_,rfl,by cases list <;> decide⟩
 | some h1 a b d=>rename_i list o c x l;exact ⟨_,_,_,_,rfl,by cases list <;> decide⟩
theorem OB: ∀(n:Nat) (l:List T),l.length<=n->S4 jE l-> ∀t∈l,AT jE t\/ ∃s,Lf jE s t
 | _,[],_,_,t,c=>by cases c
 | 0,_:: _,h,_,_,_=>by simp at h
 | n+1,b::l,h,hl,t,c=>by
  cases hl with
  | cons d e hl=>
   rename_i a f;rcases aao.1 c with rfl | c
   .exact .inr ⟨_,d⟩
   .rcases aao.1 c with rfl | c
    .exact .inl e
    .exact OB n f (by simp at h;omega) hl t c
theorem yx {l:List T} {a i:Nat} {t:T} (h:l[i]? =some t): ∃p,(bY a l)[i]? =some p/\p.2=t:=by
 have:(bY a l).map (·.2)=l:=pR l a;rw [<- this,aaW] at h;obtain ⟨p,hp,e⟩:=aaN.1 h;exact ⟨p,hp,e⟩
structure Below (n:Nat) (ps:List (Nat×T)):Prop where
 s: ∀p∈ps,SizeOf.sizeOf p.2 < n
 f: ∀p∈ps,Fit p
theorem ag {n:Nat} (ih: ∀(t:T) (a:Nat),SizeOf.sizeOf t < n->ET jE t->Fit (a,t)->gl (a,t)) {x:T} {bs:List T} {a:Nat} (B:BT jE bs) (c:Below n (bY a (x::bs))): ∃m p1 pe,Fa (bY a (x::bs)) m p1 pe:=by
 cases B with
 | mk h hp i D he=>
  rename_i rc ps p q e;have hlen:(bY a (x::(rc++(p::ps)++[q]++[e]))).length=rc.length+ps.length+4:=by rw [dJ];simp;omega
  have d: ∀t,t=p\/t∈ps->PT jE t:=fun t j=>by
   rcases j with rfl | j
   .exact hp
   .exact i t j
  have k:rc=[]\/ ∃r,Lf jE eO r/\rc=[r]:=h;obtain ⟨l,o,hm⟩: ∃l,(x::(rc++(p::ps)++[q]++[e]))[1]? =some l/\rc.length+1=if isRec l=true then 2 else 1:=by
   rcases k with rfl | ⟨r,u,rfl⟩
   .exact ⟨p,rfl,by rw [PA hp];rfl⟩
   .exact ⟨r,rfl,by rw [dU u];rfl⟩
  obtain ⟨p1,v,rfl⟩:=yx (a:=a) o;have w:(x::(rc++(p::ps)++[q]++[e]))[rc.length+ps.length+3]? =some e:=by
   rw [show rc.length+ps.length+3=(rc.length+ps.length+2)+1 from rfl,abD,aaM (by simp;omega)];have:rc.length+ps.length+2 - (rc++(p::ps)++[q]).length=0:=by simp;omega
   rw [this];rfl
  obtain ⟨pe,g,rfl⟩:=yx (a:=a) w;refine ⟨rc.length+1,p1,pe,v,hm,by omega,fun y hy=> ?_,by rw [hlen];exact g, ?_⟩
  .have b:y∈bY a (x::(rc++(p::ps)++[q]++[pe.2])):=List.mem_of_mem_drop (List.mem_of_mem_take hy);have A:y.2∈(p::ps):=by
    have h1:=List.mem_map_of_mem (f:=fun z:Nat×T=>z.2) hy;rw [List.map_take,List.map_drop,pR,hlen] at h1;have C:rc.length+ps.length+4 - (rc.length+1) - 2=ps.length+1:=by omega
    rw [C,aaD,aar,aar,List.drop_left',List.take_left'] at h1
    .exact h1
    .rfl
    .rfl
   exact Ik _ y.2 y.1 (aa3 _) (d _ (aao.1 A)) (c.f y b)
  .have b:=aaK g;exact ih pe.2 pe.1 (c.s _ b) he (c.f _ b)
theorem jR {n a k:Nat} {l:List T} (hs:SizeOf.sizeOf (node k l) < n+1) (hf:Fit (a,node k l)) (h1:k≠1) (b:k≠2):Below n (bY a l):=
 ⟨fun p hp=>by have:=Bs (k:=k) (td hp);omega,(hf.kids h1 b).2.2⟩
theorem Below.sub {n:Nat} {ps a:List (Nat×T)} (h:Below n ps) (hs: ∀p∈a,p∈ps):Below n a:=⟨fun p hp=>h.s p (hs p hp),fun p hp=>h.f p (hs p hp)⟩
theorem P2 {l:List (Nat×T)} (h:l.length < 100000000):(l.map fun p=>jv p.1 p.2).length<=100000000:=by rw [aaA];omega
theorem Qf: ∀(n:Nat) (t:T) (a:Nat),SizeOf.sizeOf t < n->ET jE t->Fit (a,t)->gl (a,t):=by
 intro n
 induction n with
 | zero=>intro t a h;omega
 | succ n ih=>
  intro t a hn hE hf;have sub: ∀{k:Nat} {l:List T},t=node k l->k≠1->k≠2-> ∀p∈bY a l,ET jE p.2->gl p:=fun F h1 O p hp R=>by
   subst F;have j:=jR hn hf h1 O;exact ih p.2 p.1 (j.s p hp) R (j.f p hp)
  cases hE with
  | leaf Q hk F=>exact K8 hf F Q
  | bin v ho j=>
   rename_i x op y s;have hs:=sub rfl (by decide) (by decide);refine gY hf (by decide) (by decide) rfl Uv rfl (fun _ _ _=>rfl) (fun st x es w hx d=>Zf w hx d (hs _ (by simp [bY]) v) (hs _ (by simp [bY]) j)) (aaO _) (fun e=>by cases e) ?_;rw [fY];simp [pT,il,bY]
  | un ho v=>
   rename_i op x;have hs:=sub rfl (by decide) (by decide);refine gY hf (by decide) (by decide) rfl TX rfl (fun _ _ _=>rfl) (fun st x es w hx d=>Zj w hx d (hs _ (by simp [bY]) v)) (aaO _) (fun e=>by cases e) ?_;rw [fY];simp [pT,il,bY]
  | ife hi v F j hl S=>
   have hs:=sub rfl (by decide) (by decide);refine gY hf (by decide) (by decide) rfl YC rfl (fun _ _ _=>rfl) (fun st x es w hx d=>ZE w hx d (hs _ (by simp [bY]) v) (hs _ (by simp [bY]) j) (hs _ (by simp [bY]) S)) (aaO _) (fun e=>by cases e) ?_;rw [fY];simp [pT,il,bY]
  | app v j=>
   rename_i x y;have hs:=sub rfl (by decide) (by decide);obtain ⟨I,u,g3⟩:=hf.kids (by decide) (by decide);refine gY hf (by decide) (by decide) rfl Ux rfl (fun _ _ _=>rfl) (fun st x es w hx d=>Zn w hx d (by rw [dJ];omega) (fun p hp=>hs p hp ?_)) (aaO _) (fun e=>by cases e) ?_
   .have:=td hp;simp only [aao,aaF,or_false] at this;rcases this with h | h <;> rw [h] <;> assumption
   .rw [fY];simp [pT,ib]
  | none ho S=>
   rename_i list o c;cases list with
   | false=>
    refine gY hf (by decide) (by decide) rfl OD rfl (fun _ _ _=>rfl) (fun st x es w hx d=>XR w hx d (by rw [dJ];exact aah rfl) (fun p hp=>by simp [bY,eX] at hp)) (aaO _) (fun _=>rfl) ?_;rw [fY];simp [pT,il,bY,eX,Hk,pick,kindOf]
   | true=>
    refine gY hf (by decide) (by decide) rfl OY rfl (fun _ _ _=>rfl) (fun st x es w hx d=>Xm w hx d (by rw [dJ];exact aah rfl) (fun p hp=>by simp [bY,eX] at hp)) (aaO _) (fun e=>by cases e) ?_;rw [fY];simp [pT,il,bY,eX,kindOf]
  | some ho v hl S=>
   rename_i list o c x l;cases list with
   | false=>
    have hs:=sub rfl (by decide) (by decide);obtain ⟨I,u,g3⟩:=hf.kids (by decide) (by decide);refine gY hf (by decide) (by decide) rfl OD rfl (fun _ _ _=>rfl) (fun st y es w hx d=>XR w hx d (by rw [dJ];exact u) (fun p hp=>hs p (zJ hp) (En _ l (aal _) hl o x c v p.2 (DW hp)))) (aaO _) (fun _=>rfl) ?_;rw [fY];show Hk _ (eX (il a _))=pick _ _;rw [ib,l4];generalize List.map (fun p:Nat×T=>cQ p.1 p.2) _=E
    match E with
    | []=>rfl
    | [_]=>rfl
    | _:: _:: _=>rfl
   | true=>
    have hs:=sub rfl (by decide) (by decide);obtain ⟨I,u,g3⟩:=hf.kids (by decide) (by decide);refine gY hf (by decide) (by decide) rfl OY rfl (fun _ _ _=>rfl) (fun st y es w hx d=>Xm w hx d (by rw [dJ];exact u) (fun p hp=>hs p (zJ hp) (En _ l (aal _) hl o x c v p.2 (DW hp)))) (aaO _) (fun e=>by cases e) ?_;rw [fY];show lg.mk 7 _ false [] [] (eX (il a _))= _;rw [ib,l4];rfl
  | lambda a1 hp U J he=>
   rename_i f p r e ps;have hs:=sub rfl (by decide) (by decide);obtain ⟨I,u,g3⟩:=hf.kids (by decide) (by decide);have j:=jR hn hf (by decide) (by decide);obtain ⟨B,hpos⟩: ∃B C g,bY a (f::p::ps++[r]++[e])=(a,f)::bY B (p::ps)++[(C,r)]++[(g,e)]:=⟨_,_,_,by rw [nI,nI];rfl⟩;obtain ⟨C,g,hpos⟩:=hpos;rw [hpos] at hs j;refine gY (k2:=11) (rc:=false) (nm:=[]) (P:=(bY B (p::ps)).map fun p=>jv p.1 p.2) (E:=[cQ g e]) hf (by decide) (by decide) rfl Xz rfl (fun _ _ _=>rfl) (fun st y es w hx d=> ?_) (P2 (by rw [dJ];simp at u ⊢;omega)) (fun e=>by cases e) ?_
   .rw [hpos] at d;refine Zl w hx d (by rw [dJ];simp at u ⊢;omega) (fun q Q=> ?_) (hs (g,e) (by simp) he);have hm:q∈(a,f)::bY B (p::ps)++[(C,r)]++[(g,e)]:=by simp [Q]
    have V:=td Q;refine Ik _ q.2 q.1 (aa3 _) ?_ (j.f q hm);rcases aao.1 V with h | h
    .rw [h];exact hp
    .exact U _ h
   .rw [fY,nX,ib,hpos];show lg.mk 11 _ false [] (List.take _ (List.drop 1 _)) [_]= _;have hlen:(bY B (p::ps)).length=ps.length+1:=dJ _ _;have W:((List.map (fun p:Nat×T=>cQ p.1 p.2) ((a,f)::bY B (p::ps)++[(C,r)]++[(g,e)])).getD ((List.map (fun p:Nat×T=>cQ p.1 p.2) ((a,f)::bY B (p::ps)++[(C,r)]++[(g,e)])).length - 1) default)=cQ g e:=by
     rw [aaG,aaE,aaM (by simp)];simp
    rw [W];have X:List.take ((List.map (fun p:Nat×T=>jv p.1 p.2) ((a,f)::bY B (p::ps)++[(C,r)]++[(g,e)])).length - 3) (List.drop 1 (List.map (fun p:Nat×T=>jv p.1 p.2) ((a,f)::bY B (p::ps)++[(C,r)]++[(g,e)])))=(bY B (p::ps)).map fun p=>jv p.1 p.2:=by
     simp only [aat,aan,aaD,aaw,aaG,aar];rw [List.take_left'];simp
    rw [X];rfl
  | letin a6 j a7 he=>
   rename_i x i e bs;have hs:=sub rfl (by decide) (by decide);obtain ⟨I,u,g3⟩:=hf.kids (by decide) (by decide);have A:=jR hn hf (by decide) (by decide);obtain ⟨C,g,hpos⟩: ∃C g,bY a (x::bs++[i]++[e])=bY a (x::bs)++[(C,i)]++[(g,e)]:=⟨_,_,by rw [nI,nI]⟩;rw [hpos] at hs A;obtain ⟨m,p1,pe,G⟩:=ag ih (x:=x) (a:=a) j (A.sub fun p hp=>by simp [hp]);have Y:=G.eq;have a8:(bY a (x::bs)).length=bs.length+1:=dJ _ _;have bb:bs.length+3 < 100000000:=by simpa using u
   refine gY (k2:=14) (nm:=[]) (P:=zH m (bY a (x::bs))) (E:=[cQ pe.1 pe.2,cQ g e]) (rc:=isRec p1.2&&zP (zH m (bY a (x::bs)))) hf (by decide) (by decide) rfl Yp rfl (fun _ _ _=>rfl) (fun st y es w hx d=> ?_) (by unfold zH;rw [aaA,aau];omega) (fun e=>by cases e) ?_
   .rw [hpos] at d;exact Y0 w hx d (by omega) G.h1 G.hm G.hl G.hp G.he G.hE (hs (g,e) (by simp) he)
   .rw [fY];have e0:(x::bs++[i]++[e]).take ((x::bs++[i]++[e]).length - 2)=x::bs:=by
     rw [aar,List.take_left'];simp
    have W:(rI a (x::bs++[i]++[e])).take ((rI a (x::bs++[i]++[e])).length - 2)=rI a (x::bs):=by
     rw [nX,nX,hpos,aaG,aaG,aar,List.take_left'];simp
    have X:(il a (x::bs++[i]++[e])).take ((il a (x::bs++[i]++[e])).length - 2)=il a (x::bs):=by
     rw [ib,ib,hpos,aaG,aaG,aar,List.take_left'];simp
    have e3:(il a (x::bs++[i]++[e])).getD ((il a (x::bs++[i]++[e])).length - 1) default=cQ g e:=by
     rw [ib,hpos,aaG,aaE,aaM (by simp)];simp
    show lg.mk 14 _ (oJ _ _ _).1 [] (oJ _ _ _).2.1 [(oJ _ _ _).2.2,_]= _;rw [e0,W,X,e3,Y];rfl
  | mtch hm he hw K v has=>
   rename_i m e w x bar l2;have hs:=sub rfl (by decide) (by decide);obtain ⟨I,u,g3⟩:=hf.kids (by decide) (by decide);have A:=jR hn hf (by decide) (by decide);have L: ∀t∈m::e::w::bar++x::l2,AT jE t\/ ∃k tk tx l,t= .mk k tk tx l/\k≠10:=fun t F=>by
    have D: ∀{s:LB} {t:T},Lf jE s t-> ∃k tk tx l,t= .mk k tk tx l/\k≠10:=fun h=>by
     obtain ⟨tk,tx,l,rfl⟩:=RZ h;exact ⟨1,tk,tx,l,rfl,by decide⟩
    simp only [aat,aao,aaC] at F;rcases F with rfl | rfl | rfl | h | rfl | h
    .exact .inr (D hm)
    .exact .inr (QK he)
    .exact .inr (D hw)
    .rcases K with rfl | ⟨b,j,rfl⟩
     .cases h
     .obtain rfl:t=b:=by simpa using h
      exact .inr (D j)
    .exact .inl v
    .rcases OB _ l2 (aal _) has t h with h | ⟨s,h⟩
     .exact .inl h
     .exact .inr (D h)
   have M: ∀p∈bY a (m::e::w::bar++x::l2),Oc p:=fun p hp=>by
    rcases L p.2 (td hp) with h | ⟨k,tk,tx,l,e,hk⟩
    .obtain ⟨q,t⟩:=p;have N:=A.f _ hp;have Z:=A.s _ hp;simp only at h;cases h with
     | mk av J aw=>
      rename_i y r z;intro tk tx l e;have e:node 10 [y,r,z]= .mk 10 tk tx l:=e;injection e with _ _ _ e
      subst e;obtain ⟨f1,f2,f3⟩:=N.kids (by decide) (by decide);have H:Below n (bY q [y,r,z]):=jR (k:=10) (Nat.lt_succ_of_lt Z) N (by decide) (by decide);refine ⟨aah rfl,(show q+(bg [y,r,z]).length<=1000000000000 by omega),_,_,_,rfl, ?_, ?_⟩
      .exact Ik _ y q (aa3 _) av (H.f (q,y) (by simp [bY]))
      .exact ih z (q+(bG y).length+(bG r).length) (H.s (q+(bG y).length+(bG r).length,z) (by simp [bY])) aw (H.f (q+(bG y).length+(bG r).length,z) (by simp [bY]))
    .exact Wo e hk
   have h1:(bY a (m::e::w::bar++x::l2))[1]? =some (a+(bG m).length,e):=rfl;refine gY (P:=((bY a (m::e::w::bar++x::l2)).flatMap pH).map (·.1)) (E:=cQ (a+(bG m).length) e::((bY a (m::e::w::bar++x::l2)).flatMap pH).map (·.2)) hf (by decide) (by decide) rfl Xn rfl (fun _ _ _=>rfl) (fun st y es w' hx d=>ZJ w' hx d (by rw [dJ];exact u) h1 (hs (a+(bG m).length,e) (aaK h1) he) M) ?_ (fun e=>by cases e) ?_
   .rw [aaA];have: ∀l:List (Nat×T),(l.flatMap pH).length<=l.length:=fun l=>by
     induction l with
     | nil=>exact aal _
     | cons p l ih=>
      rw [aa4,aad,aae];have:(pH p).length<=1:=by
       unfold pH;cases p.2 with
       | mk k tk tx l=>rw [EK];split <;> simp
      omega
    have O:=this (bY a (m::e::w::bar++x::l2));rw [dJ] at O;exact aaR O (ab3 u)
   .rw [fY,DE,ib];rfl
theorem Dt: ∀{l:List Bd} {es:LA} {p:Bd} {v:AV},jr l es->Ug p v->jr (l++[p]) (es++[v])
 | [],_,_,_,h,k=>by
  simp only [jr] at h;subst h;simp only [jr,aaq];exact ⟨_,_,rfl,k,rfl⟩
 | p::l,_,_,_,h,k=>by
  simp only [jr] at h;obtain ⟨w,ws,rfl,h1,a⟩:=h;simp only [aat,jr];exact ⟨w,_,rfl,h1,Dt a k⟩
def Jb (p:Nat×T):Prop:= ∀tk tx l,p.2= .mk 5 tk tx l->l.length < 100000000/\p.1+(bg l).length<=1000000/\ ∃m p1 pe,Fa (bY p.1 l) m p1 pe
def rB (p:Nat×T):List Bd:=wO p.1 p.2
theorem Ou {p:Nat×T} {k tk:Nat} {tx:LB} {l:List T} (h:p.2= .mk k tk tx l) (a:k≠5):rB p=[]:=by
 unfold rB;rw [h,wO,if_neg a]
theorem BK: ∀(l:List T) (a:Nat),ir a l=(bY a l).flatMap rB
 | [],_=>rfl
 | t::l,a=>by rw [ir,bY,aa4,BK l];rfl
theorem F3: ∀(l:List (Nat×T)),(l.flatMap rB).length<=l.length
 | []=>aal _
 | p::l=>by
  rw [aa4,aad,aae];have h1:=F3 l;have a:(rB p).length<=1:=by
   unfold rB;cases p.2 with
   | mk k tk tx l=>rw [wO];split <;> simp
  omega
theorem Iq {ps:List (Nat×T)} {x:AV} {es:LA} (hx:aO 5 x es) (hs:ij nt ps es) (hn:ps.length < 100000000) (W: ∀p∈ps,Jb p) (hf: ∀p∈ps,p.1+(bG p.2).length<=1000000) {st0:St} (w0:Wv S0 st0 [] 11 M9 .ax []):
  aa (bl (KY x es.length) ([.ax,.int .i64 0],st0)) fun c=> ∃s v ws,c=(0,[v],s)/\Wv S0 s [] 11 M9 v ws/\jr (ps.flatMap rB) ws:=by
 have hlen:=hs.len;refine aa.upto (n:=es.length) (I:=fun i c=> ∃s v ws,c=([v,.int .i64 (i:Int)],s)/\Wv S0 s [] 11 M9 v ws/\jr ((ps.take i).flatMap rB) ws) ?_ ?_ es.length 0 _ (by omega) ⟨st0,.ax,[],rfl,w0,by simp [jr]⟩
 .rintro i c hi ⟨s,v,ws,rfl,w,l⟩;have a:i < ps.length:=by omega
  have X:=l.len;have A:=F3 (ps.take i);rw [aau] at A;obtain ⟨t,D,b,y,B,e⟩:=qH hx hs (aav a);obtain ⟨l2,Y,d,hy,_⟩:=na B;have E:nt ps[i] (.agg [.int .u8 (t:Int),.int .u8 (D:Int),.str b,y,.int .i64 (ps[i].1:Int)]):=⟨t,D,b,y,rfl,B⟩;simp only [KY,ab,af,ae,ak,if_pos (show (i:Int) < (es.length:Int) by omega),e,bj,iy,ai,al,ah];refine aa.lx w fun s1 _ w=>aa.step (hy.ad _) ?_;refine aa.kR [] w fun Z _ _ w=>aa.ff aag w.w rfl (aa.step (af _ _ _) ?_);rw [show ((t:Int)==5)=(t==5) from cY t 5,eU a,List.flatMap_append];refine aa.bind (R:=fun c=> ∃s v f,c=([v],s)/\Wv S0 s [] 11 M9 v f/\jr ((ps.take i).flatMap rB++[ps[i]].flatMap rB) f) ?_ ?_
  .by_cases F:t=5
   .subst F;obtain ⟨h5,h6,m,p1,pe,o⟩:=W _ (aaV a) _ _ _ d;have C:nt (ps[i].1,.mk 5 D b l2) (.agg [.int .u8 ((5:Nat):Int),.int .u8 (D:Int),.str b,y,.int .i64 (ps[i].1:Int)]):=by rw [<- d];exact E
    obtain ⟨z,zs,G,O,H⟩:=sP C (by omega) (by omega);obtain ⟨u,eb,hu⟩:=AH O H (by rw [dJ];exact h5) o.h1 o.hm o.hl o.hp o.he o.hE;obtain ⟨P,a3,k,sp,rc,nm,qs,ls,Q,ar,U,av,rfl,g,J,q,h,K,j,L,M⟩:=Hs hu rfl;have N:=zk E (by have:=hf _ (aaV a);omega);have r:[ps[i]].flatMap rB=[⟨oz ps[i].1 ps[i].2,isRec p1.2&&zP (zH m (bY ps[i].1 l2)),zH m (bY ps[i].1 l2),cQ pe.1 pe.2⟩]:=by
     rw [aa4,List.flatMap_nil,aay];unfold rB;generalize V:oz ps[i].1 ps[i].2=S;rw [d] at V ⊢;rw [wO,if_pos rfl,o.eq,V]
    rw [r];generalize oz ps[i].1 ps[i].2=S at *;refine aa.step (ay _ _) (aa.fo aag w.w rfl ?_);simp only [al,ab,af,ah,ae];refine aa.step (jw C rfl G _ _) (aa.step (Pl O eb rfl _ _) ?_);simp only [al,ab,af,au,ah,ae];refine aa.lx w fun s4 aw w=>aa.step (g.ad _) (aa.step (h.ad _) (aa.step (j.ad _) ?_));refine aa.kR [] w fun s5 _ _ w=>aa.fo (aam _ aag) w.w rfl ?_;simp only [al,ab,af,ah,ae];refine aa.step (jw E rfl N _ _) ?_;simp only [br,aP,ba,al,ab,af,ae,au];refine aa.Zo [] w (aah rfl) fun s6 o6 _ w=>aa.fo aag w.w rfl ?_;show aa (uz (.agg (sE S (isRec p1.2&&zP (zH m (bY ps[i].1 l2))) P k sp rc nm Q U)) _) _;simp only [al,ab,af,au,ah,ae,g.ad,h.ad,j.ad,g.aD,h.aD,j.aD];refine aa.sj w (by omega) (by omega) (by omega) fun v2 s7 _ w=>aa.some ⟨s7,v2,_,rfl,w.none,Dt l ?_⟩;exact ⟨P,a3,fw k sp rc nm Q U,rfl,g,J,by rw [show cQ pe.1 pe.2= _ from q];exact x9 h K j L M⟩
   .rw [aaB.2 F,aa4,List.flatMap_nil,aay,Ou d F,aay];exact aa.step (aq _ _) (aa.some ⟨Z,v,ws,rfl,w.none,l⟩)
  .rintro c ⟨s,v,f,rfl,w,l⟩;simp only [ab,ae,aF,ck (show i+1<=9223372036854775807 by have:=hx.1;omega)];exact aa.inl ⟨s,v,f,rfl,w,l⟩
 .rintro c ⟨s,v,ws,rfl,w,l⟩;simp only [KY,ab,af,ae,ak,if_neg (show ¬ ((es.length:Nat):Int) < (es.length:Int) by omega)];rw [hlen,aaJ] at l;exact aa.inr ⟨s,v,ws,rfl,w,l⟩
def YQ (s:LB) (v:AV):Prop:=match C9 s with
 | .ok D=> ∃x es,v= .tup [x,.int .i64 0]/\aO 11 x es/\jr D es
 | .error e=>v= .tup [.ax,.int .i64 (e:Int)]
theorem G6 {n:Nat}: ∀(k:Nat) (l:List T) (a:Nat),l.length<=k->DT jE l->Below n (bY a l)-> ∀p∈bY a l,Jb p
 | _,[],_,_,_,_,p,hp=>by cases hp
 | 0,_:: _,_,h,_,_,_,_=>by simp at h
 | k+1,t::l,a,h,m,c,p,hp=>by
  cases m with
  | last _=>
   intro tk tx j e;obtain rfl:p=(a,_):=by simpa [bY] using hp
   injection e with e
   cases e
  | cons v d hl=>
   rename_i x bs;rcases aao.1 hp with rfl | hp
   .intro tk tx j e;have e:node 5 (x::bs)= .mk 5 tk tx j:=e;injection e with _ _ _ e
    subst e;have b:=c.f _ aag;have g:=c.s _ aag;obtain ⟨o,r,w⟩:=b.kids (by decide) (by decide);have i:Below n (bY a (x::bs)):=jR (k:=5) (Nat.lt_succ_of_lt g) b (by decide) (by decide);exact ⟨r,o,ag (Qf n) d i⟩
   .exact G6 k l _ (by simp at h;omega) hl (c.sub fun q u=>aam _ u) p hp
theorem SS: ∀(r:List bc),Wt r=100 * r.length+(dG r).length
 | []=>rfl
 | t::r=>by
  rw [Wt,SS r,Parse.yJ,aad,aae];omega
theorem LX {s:LB} (hl:s.length<=65536) (e:dS (doc (tokens s))=true): ∃l,doc (tokens s)=node 4 l/\l.length < 100000000/\(bg l).length<=1000000/\(∀p∈bY 0 l,Jb p)/\ ∀p∈bY 0 l,Fit p:=by
 obtain ⟨l,h,f⟩:=jK (tokens s);have b:=BN (tokens s) (gL s);have g:=Ty (tokens s);have m:=tM s;rw [nq] at b;rw [SS,nq] at g;rw [f] at e b g;have a:Fit (0,node 4 l):=⟨by simp only [b];omega,by simp only;omega⟩;obtain ⟨o,i,j⟩:=a.kids (by decide) (by decide);have c:du l=true:=by simpa [node,dS] using e
 have d:=mu (Q:=jE) _ _ _ h (gL s) (fun t b=>Jm _ _ t b) c;exact ⟨l,f,i,by omega,G6 _ l 0 (aal _) d (jR (k:=4) (n:=SizeOf.sizeOf (node 4 l)) (aa3 _) a (by decide) (by decide)),j⟩
theorem Xs (s:LB):aa ((aQ vE).bare 7 [.str s]) (YQ s):=by
 obtain ⟨v,b,_,n⟩:=Cc s;obtain ⟨k,tk,tx,q,x,es,i,rfl,hx,hs⟩:=iK b;refine aa.bare rfl (aa.step (X6 _) ?_);unfold g7;refine aa.step (ah _ _) (aa.step (n _ _) ?_);simp only [br,aP,ba,al,ab,af,ah,ae];refine aa.lx (Wv.start (st:=S0) (aal _) 11 M9) fun L _ w=>aa.step (hx.ad _) ?_;refine aa.kR [] w fun M _ _ w=> ?_;unfold YQ C9;rcases DD s with ⟨h0,h1,d⟩ | ⟨h0,h1⟩ | ⟨h0,h1,d⟩
 .rw [h0,if_neg (by rw [h1];exact fun f=>f),if_pos d];refine aa.step (aq _ _) (aa.fo aag w.w rfl ?_);simp only [al,ab,af,ah,ae];have a:la s=doc (tokens s):=by unfold la;rw [if_pos h0]
  have r:=fun {γ:Type} (st:St) (K:Kv γ)=>sF b rfl (KH _ _ b) st K;refine aa.step (r _ _) (aa.step (au _ _) ?_);rw [a];cases y:dS (doc (tokens s)) with
  | false=>
   rw [if_neg (by simp)];exact aa.step (ay _ _) (aa.some rfl)
  | true=>
   rw [if_pos rfl];have hlen:s.length<=65536:=(zV h0).1;obtain ⟨l,el,A,N,B,C⟩:=LX hlen y;rw [a,el] at i;injection (show T.mk 4 0 [] l= .mk k tk tx q from i) with D E F G
   subst D E F G;refine aa.step (aq _ _) (aa.fo aag w.w rfl ?_);simp only [al,ab,af,ah,ae];have j:nt (0,node 4 l) (.agg [.int .u8 ((4:Nat):Int),.int .u8 ((0:Nat):Int),.str [],x,.int .i64 ((0:Nat):Int)]):=⟨4,0,[],x,rfl,by rw [a,el] at b;exact b⟩;obtain ⟨z,zs,e,m,g⟩:=sP j (by omega) (by omega);refine aa.step (jw j rfl e _ _) (aa.step (m.len _) ?_);refine aa.bind (Iq m g (by rw [dJ];exact A) B (fun p hp=>(C p hp).t) w.none) ?_;rintro c ⟨O,v,ws,rfl,H,I⟩;simp only [ab,ae];obtain ⟨x',h,J⟩:=GO (u:= .int .i64 0) H.o (fC _ _) rfl;refine aa.step (J _) (aa.some ?_);rw [el];show ∃x es,_= _/\aO 11 x es/\jr (ir 0 l) es;rw [BK];exact ⟨x',ws,rfl,h,I⟩
 .rw [h0,if_pos h1];exact aa.step (ay _ _) (aa.some rfl)
 .rw [h0,if_neg h1,if_neg (by simp [d])];exact aa.step (ay _ _) (aa.some rfl)
theorem JW (s:LB): ∃v,YQ s v/\ ∀{γ:Type} (st:St) (K:Kv γ),bf (aQ vE) 7 [.str s] st K=K v st q0:=by
 obtain ⟨v,e,h⟩:=Xs s;exact ⟨v,h,fun st K=>aI st K rfl rfl rfl e⟩
theorem GI {p:jQ} {v:AV} (h:Ct p v):VM.bare v=true/\VM.strip v=v:=by
 obtain ⟨k,lit,sp,nm,ps,x,es,rfl,rfl,hx,_⟩:=ji h;refine ⟨?_,rfl⟩;rw [mf];simp only [aJ,hx.bare];rfl
theorem wc {p:lg} {v:AV} (h:yE p v):VM.bare v=true/\VM.strip v=v:=by
 obtain ⟨k,sp,rc,nm,ps,ls,x,es,y,fs,rfl,rfl,hx,_,hy,_⟩:=iG h;refine ⟨?_,rfl⟩;rw [mf];simp only [aJ,hx.bare,hy.bare];rfl
theorem call3 {F:FuncId} {v w r:AV} (a:VM.bare v=true/\VM.strip v=v) (b:VM.bare w=true/\VM.strip w=w) (hf:vE.full F=false) (h:(aQ vE).bare F [v,w,.bool false]=some r) {β:Type} (st:St) (K:Kv β):bf (aQ vE) F [v,w,.bool false] st K=K r st q0:=
 aI st K hf (by simp only [aan,aaH,a.2,b.2];rfl) (by simp only [aJ,a.1,b.1];rfl) h
theorem S6 {ps:List jQ} {es:LA} (h:di ps es) {i:Nat} (hi:i < ps.length): ∃v,es[i]? =some v/\Ct ps[i] v:=by
 obtain ⟨v,h1,a,_⟩:=h.get (i:=i) (List.drop_eq_getElem_cons hi);exact ⟨v,h1,a⟩
theorem Tg {ps:List lg} {es:LA} (h:fA ps es) {i:Nat} (hi:i < ps.length): ∃v,es[i]? =some v/\yE ps[i] v:=by
 obtain ⟨v,h1,a,_⟩:=h.get (i:=i) (List.drop_eq_getElem_cons hi);exact ⟨v,h1,a⟩
theorem SX {ps:List Bd} {es:LA} (h:jr ps es) {i:Nat} (hi:i < ps.length): ∃v,es[i]? =some v/\Ug ps[i] v:=by
 obtain ⟨v,h1,a,_⟩:=h.get (i:=i) (List.drop_eq_getElem_cons hi);exact ⟨v,h1,a⟩
theorem Df {ps b:List jQ} {es fs:LA} {x y:AV} (hp:di ps es) (f:di b fs) (hx:aO 6 x es) (hy:aO 6 y fs) (he:ps.map lh=b.map lh) (ih: ∀p∈ps,∀q,lh p=lh q-> ∀v w,Ct p v->Ct q w->(aQ vE).bare 42 [v,w,.bool false]=some (.bool true)):
  (aQ vE).bare 17 [x,y,.bool false]=some (.bool true):=by
 have hl:ps.length=b.length:=by simpa using aaU List.length he
 have l1:=hp.len;have l2:=f.len;have j:=hx.1;refine aU rfl (aa.eq (aa.step (Us _ _ _) ?_));unfold g17;refine aa.step (au _ _) (aa.step (hx.len _) (aa.step (hy.len _) ?_));rw [show ((es.length:Int) != (fs.length:Int))=false by rw [show es.length=fs.length by omega];simp];refine aa.step (aq _ _) (aa.bind (R:=fun c=>c=(0,[.bool false],S0)) (aa.upto (n:=es.length) (I:=fun i c=>c=([.bool false,.int .i64 (i:Int)],S0)) ?_ ?_ es.length 0 _ (by omega) rfl) ?_)
 .rintro i c hi rfl;have a:i < ps.length:=by omega
  have d:i < b.length:=by omega
  obtain ⟨v,k,hV⟩:=S6 hp a;obtain ⟨w,m,hW⟩:=S6 f d;have e:lh ps[i]=lh b[i]:=by
   have:=aaU (fun l=>l[i]?) he;simpa [a,d] using this
  have c:=fun {γ:Type} (st:St) (K:Kv γ)=>call3 (GI hV) (GI hW) rfl (ih _ (aaV a) _ e v w hV hW) st K;obtain ⟨J,g,o,r,s,L,t,u,rfl,z,A⟩:=ji hV;obtain ⟨M,h,B,C,D,N,E,F,rfl,G,H⟩:=ji hW;simp only [I1,ab,af,au,ae,hx.len,ak,if_pos (show (i:Int) < (es.length:Int) by omega),hx.idx k,hy.idx m,lu,tZ,bj,Ky,ai,al,ah];refine aa.step (c _ _) ?_;simp only [au,aa2,aq,aF,ck (show i+1<=9223372036854775807 by omega)];exact aa.inl rfl
 .rintro c rfl;simp only [I1,ab,af,au,ae,hx.len,ak,if_neg (show ¬ ((es.length:Nat):Int) < (es.length:Int) by omega)];exact aa.inr rfl
 .rintro c rfl;simp only [ab,au,ae,gU];exact aa.some rfl
theorem Oa: ∀(n:Nat) (p q:jQ),SizeOf.sizeOf p < n->lh p=lh q-> ∀v w,Ct p v->Ct q w->(aQ vE).bare 42 [v,w,.bool false]=some (.bool true):=by
 intro n
 induction n with
 | zero=>intro p q h;omega
 | succ n ih=>
  intro p q hn he v w b d;obtain ⟨k,lit,sp,nm,ps,x,es,rfl,rfl,hx,hp⟩:=ji b;obtain ⟨i,a,e,f,j,y,fs,rfl,rfl,hy,g⟩:=ji d;simp only [lh,jQ.mk.injEq,abM,fc] at he;obtain ⟨rfl,rfl,rfl,he⟩:=he;have h1:=Df hp g hx hy he fun p hp q=>ih p q (by
   have:=List.sizeOf_lt_of_mem hp;simp only [jQ.mk.sizeOf_spec] at hn;omega)
  have c:=fun {γ:Type} (st:St) (K:Kv γ)=>call3 ⟨hx.bare,hx.strip⟩ ⟨hy.bare,hy.strip⟩ rfl h1 st K;refine aU rfl ((Vb _ _ _).trans ?_);simp only [g42,tZ,al,ab,af,ah,ae,au,hx.ad,hx.aD,hy.ad,hy.aD,bne_self_eq_false,aq,aba,aa2,ai,c]
theorem Da {ps a:List jQ} {es fs:LA} {x y:AV} (hp:di ps es) (b:di a fs) (hx:aO 6 x es) (hy:aO 6 y fs) (he:ps.map lh=a.map lh) {β:Type} (st:St) (K:Kv β):bf (aQ vE) 17 [x,y,.bool false] st K=K (.bool true) st q0:=
 call3 ⟨hx.bare,hx.strip⟩ ⟨hy.bare,hy.strip⟩ rfl (Df hp b hx hy he fun p _ q=>Oa _ p q (aa3 _)) st K
theorem L9: ∀(n:Nat) (p q:lg),SizeOf.sizeOf p < n->nJ p=nJ q-> ∀v w,yE p v->yE q w->(aQ vE).bare 18 [v,w,.bool false]=some (.bool true):=by
 intro n
 induction n with
 | zero=>intro p q h;omega
 | succ n ih=>
  intro p q hn he v w o r;obtain ⟨k,sp,rc,nm,ps,ls,x,es,y,fs,rfl,rfl,hx,hp,hy,hl,_⟩:=iG o;obtain ⟨X,A,B,C,D,b,x',es',y',f,rfl,rfl,d,s,a,g,_⟩:=iG r;simp only [nJ,lg.mk.injEq,abM,fc,iE] at he;obtain ⟨rfl,rfl,rfl,t,j⟩:=he;have E:ls.length=b.length:=by simpa using aaU List.length j
  have l1:=hl.len;have l2:=g.len;have F:=hy.1;have c:=fun {γ:Type} (st:St) (K:Kv γ)=>Da hp s hx d t st K;have u:((fs.length:Int) != (f.length:Int))=false:=by rw [show fs.length=f.length by omega];simp
  refine aU rfl (aa.eq (aa.step (Up _ _ _) ?_));simp only [g18,fw,al,ab,af,ah,ae,au,hx.ad,hx.aD,hy.ad,hy.aD,d.ad,d.aD,a.ad,a.aD,bne_self_eq_false,aq,aba,aa2,ai,c,hy.len,a.len,u];refine aa.bind (R:=fun c=>c=(0,[.bool false],S0)) (aa.upto (n:=fs.length) (I:=fun i c=>c=([.bool false,.int .i64 (i:Int)],S0)) ?_ ?_ fs.length 0 _ (by omega) rfl) ?_
  .rintro i c hi rfl;have e:i < ls.length:=by omega
   have m:i < b.length:=by omega
   obtain ⟨v,o,hV⟩:=Tg hl e;obtain ⟨w,r,hW⟩:=Tg g m;have z:nJ ls[i]=nJ b[i]:=by
    have:=aaU (fun l=>l[i]?) j;simpa [e,m] using this
   have c:=fun {γ:Type} (st:St) (K:Kv γ)=>call3 (wc hV) (wc hW) rfl (ih _ _ (by
    have:=List.sizeOf_lt_of_mem (aaV e);simp only [lg.mk.sizeOf_spec] at hn;omega) z v w hV hW) st K
   obtain ⟨Y,G,H,J,L,M,Z,N,y3,O,_,rfl,_⟩:=iG hV;obtain ⟨k4,P,Q,S,T,U,x4,V,y4,W,_,rfl,_⟩:=iG hW;simp only [Jt,ab,af,au,ae,hy.len,ak,if_pos (show (i:Int) < (fs.length:Int) by omega),hy.idx o,a.idx r,lu,fw,bj,tL,ai,al,ah];refine aa.step (c _ _) ?_;simp only [au,aa2,aq,aF,ck (show i+1<=9223372036854775807 by omega)];exact aa.inl rfl
  .rintro c rfl;simp only [Jt,ab,af,au,ae,hy.len,ak,if_neg (show ¬ ((fs.length:Nat):Int) < (fs.length:Int) by omega)];exact aa.inr rfl
  .rintro c rfl;simp only [ab,au,ae,gU];exact aa.some rfl
theorem JH {d:Bd} {v:AV} (h:Ug d v): ∃z a k sp rc nm x y,v= .agg (sE d.sp d.rc z k sp rc nm x y)/\aO 6 z a/\di d.ps a/\yE d.body (.agg (fw k sp rc nm x y)):=by
 obtain ⟨z,a,be,rfl,c,f,b⟩:=h;obtain ⟨k,sp,rc,nm,ps,ls,x,es,y,fs,g,e,hx,hp,hy,hl,hn⟩:=iG b;injection e with e
 subst e;exact ⟨z,a,k,sp,rc,nm,x,y,rfl,c,f,b⟩
theorem Iy {ps b:List Bd} {es fs:LA} {x y:AV} (hp:jr ps es) (m:jr b fs) (hx:aO 11 x es) (hy:aO 11 y fs) (he:ps.map Ku=b.map Ku) {β:Type} (st:St) (K:Kv β):
  bf (aQ vE) 8 [x,y,.bool false] st K=K (.bool true) st q0:=by
 refine call3 ⟨hx.bare,hx.strip⟩ ⟨hy.bare,hy.strip⟩ rfl ?_ st K;have hl:ps.length=b.length:=by simpa using aaU List.length he
 have l1:=hp.len;have l2:=m.len;have q:=hx.1;refine aU rfl (aa.eq (aa.step (Xt _ _ _) ?_));unfold g8;refine aa.step (au _ _) (aa.step (hx.len _) (aa.step (hy.len _) ?_));rw [show ((es.length:Int) != (fs.length:Int))=false by rw [show es.length=fs.length by omega];simp];refine aa.step (aq _ _) (aa.bind (R:=fun c=>c=(0,[.bool false],S0)) (aa.upto (n:=es.length) (I:=fun i c=>c=([.bool false,.int .i64 (i:Int)],S0)) ?_ ?_ es.length 0 _ (by omega) rfl) ?_)
 .rintro i c hi rfl;have d:i < ps.length:=by omega
  have e:i < b.length:=by omega
  obtain ⟨v,r,hV⟩:=SX hp d;obtain ⟨w,s,hW⟩:=SX m e;have f:Ku ps[i]=Ku b[i]:=by
   have:=aaU (fun l=>l[i]?) he;simpa [d,e] using this
  obtain ⟨z,a,k,sp,rc,nm,J,L,rfl,t,u,o⟩:=JH hV;obtain ⟨z',a',M,A,B,C,D,E,rfl,h,j,g⟩:=JH hW;unfold Ku at f;injection f with _ h1 F G
  have H:=fun {γ:Type} (st:St) (K:Kv γ)=>Da u j t h F st K;have p:=fun {γ:Type} (st:St) (K:Kv γ)=>call3 (wc o) (wc g) rfl (L9 _ _ _ (aa3 _) G _ _ o g) st K;simp only [fw] at p;simp only [Pj,ab,af,au,ae,hx.len,ak,if_pos (show (i:Int) < (es.length:Int) by omega),hx.idx r,hy.idx s,lu,sE,nc,aaD,aaw,bj,aR,tL,ai,al,ah,h1,aba,aa2,aq,H,p,aF,ck (show i+1<=9223372036854775807 by omega)];exact aa.inl rfl
 .rintro c rfl;simp only [Pj,ab,af,au,ae,hx.len,ak,if_neg (show ¬ ((es.length:Nat):Int) < (es.length:Int) by omega)];exact aa.inr rfl
 .rintro c rfl;simp only [ab,au,ae,gU];exact aa.some rfl
end Go.Proofs.YtkbkbndajpbcjaaGreatDoor.Vm
namespace Go.Proofs.YtkbkbndajpbcjaaGreatDoor.Vm
open Go Go.VM Go.Proofs Go.Lex Go.Parse Go.Lay
theorem RD (l:List bc) (t:bc):nb (l++[t])=nb l++(if t.1=1 then [] else [t]):=by
 have h:nb (l++[t])=nb l++nb [t]:=by unfold nb;rw [List.filter_append]
 rw [h,iS];rfl
theorem Oy (l:List bc):(nb l).length<=l.length:=List.length_filter_le _ _
theorem OT (p:bc) {β:Type} (st:St) (K:AV->Ln->Oq β):(ch 0 (.ip (tok p).cells) fun v=>ao 1 false v st K)=K (.int .u8 (p.1:Int)) []:=rfl
theorem HE (p:bc) {β:Type} (st:St) (K:AV->Ln->Oq β):ao 2 true (.ip (tok p).cells) st K=K (tok p) []:=rfl
theorem Jo {s:LB} (h0:wR s=0): ∃x,(aQ vE).bare 6 [.str s]=some x/\aO 2 x ((nb (tokens s)).map tok):=by
 obtain ⟨x,e,hx⟩:=A9 s;rw [h0] at e hx;rw [if_pos rfl] at hx;have c: ∀{β:Type} (st:St) (K:Kv β),bf (aQ vE) 11 [.str s] st K=K (.tup [x,.int .i64 0]) st q0:=fun st K=>aI st K rfl rfl rfl e;have hlen:(tokens s).length<=65536:=by have:=(zV h0).1;have:=tM s;omega
 have key:aa (bB vE 6 [.str s]) (fun v=>aO 2 v ((nb (tokens s)).map tok)):=by
  refine aa.step (Yq _) ?_;unfold g6;refine aa.step (ah _ _) (aa.step (c _ _) ?_);simp only [br,aP,ba,af];generalize tokens s=r at *;refine aa.bind (R:=fun c=> ∃s v,c=(0,[v],s)/\Wv S0 s [] 2 30 v ((nb r).map tok)) ?_ ?_
  .refine aa.upto (n:=r.length) (I:=fun i c=> ∃s v,c=([v,.int .i64 (i:Int)],s)/\Wv S0 s [] 2 30 v ((nb (r.take i)).map tok)) ?_ ?_ r.length 0 _ (by omega) ⟨S0,.ax,rfl,Wv.start (aal _) _ _⟩
   .rintro i c hi ⟨s,v,rfl,w⟩;have f:=Oy (r.take i);rw [aau] at f;have h:=fun {γ:Type} (st:St) (K:AV->Ln->Oq γ)=>hx.idx (k:=i) (v:=tok r[i]) (by rw [aaW,aav hi];rfl) st K;rw [eU hi,RD];generalize r[i]=p at *;simp only [OG,ab,af,ae,hx.len,aaA,ak,if_pos (show (i:Int) < (r.length:Int) by omega),h,OT,HE];refine aa.bind (R:=fun c=> ∃a b,c=([b],a)/\Wv S0 a [] 2 30 b ((nb (r.take i)++(if p.1=1 then [] else [p])).map tok)) ?_ ?_
    .rw [show ((p.1:Int) != 1)=(p.1 != 1) from lW p.1 1];by_cases d:p.1=1
     .rw [if_pos d,d];refine aa.step (aq _ _) (aa.some ⟨s,v,rfl, ?_⟩);rw [aay];exact w
     .rw [if_neg d,show (p.1 != 1)=true by simpa using d];refine aa.step (ay _ _) ?_;unfold tok;simp only [al,ab,af,ah,ae];refine aa.sj w (by rw [aaA];omega) (by omega) (by omega) fun b a _ w=>aa.some ⟨a,b,rfl, ?_⟩;rw [aaG];exact w
    .rintro c ⟨a,b,rfl,w⟩;simp only [ab,ae,aF,ck (show i+1<=9223372036854775807 by omega)];exact aa.inl ⟨a,b,rfl,w⟩
   .rintro c ⟨s,v,rfl,w⟩;simp only [OG,ab,af,ae,hx.len,aaA,ak,if_neg (show ¬ ((r.length:Nat):Int) < (r.length:Int) by omega)];rw [aaJ] at w;exact aa.inr ⟨s,v,rfl,w⟩
  .rintro c ⟨s,v,rfl,w⟩;simp only [ab,ae,kg];exact aa.Q8 w fun x hx=>aa.some hx
 obtain ⟨x',e,g⟩:=key;exact ⟨x',aU rfl e,g⟩
theorem vH {s:LB} (h0:wR s=0): ∃x,aO 2 x ((nb (tokens s)).map tok)/\ ∀{γ:Type} (st:St) (K:Kv γ),bf (aQ vE) 6 [.str s] st K=K x st q0:=by
 obtain ⟨x,e,hx⟩:=Jo h0;exact ⟨x,hx,fun st K=>aI st K rfl rfl rfl e⟩
theorem Mk {l:List bc} {x y:AV} (hx:aO 2 x (l.map tok)) (hy:aO 2 y (l.map tok)) (st:St):bl (Ko x y) ([.bool false,.int .i64 0],st)=some (0,[.bool false],st):=by
 have a:l.length<=9223372036854775807:=by have:=hx.1;rwa [aaA] at this
 refine aa.eq (aa.upto (n:=l.length) (I:=fun i c=>c=([.bool false,.int .i64 (i:Int)],st)) ?_ ?_ l.length 0 _ (by omega) rfl)
 .rintro i c hi rfl;have ex:=fun {γ:Type} (st:St) (K:AV->Ln->Oq γ)=>hx.idx (k:=i) (v:=tok l[i]) (by rw [aaW,aav hi];rfl) st K;have b:=fun {γ:Type} (st:St) (K:AV->Ln->Oq γ)=>hy.idx (k:=i) (v:=tok l[i]) (by rw [aaW,aav hi];rfl) st K;generalize l[i]=p at *;simp only [Ko,ab,af,au,ae,hx.len,aaA,ak,if_pos (show (i:Int) < (l.length:Int) by omega),ex,b,HE];unfold tok;simp only [al,ab,af,ah,ae,QX,ai,au,aba,aaI,aa2,aq,aF,ck (show i+1<=9223372036854775807 by omega)];exact aa.inl rfl
 .rintro c rfl;simp only [Ko,ab,af,au,ae,hx.len,aaA,ak,if_neg (show ¬ ((l.length:Nat):Int) < (l.length:Int) by omega)];exact aa.inr rfl
theorem Hp (s:LB) (n:Int):(aQ vE).bare 3 [.str s,.int .i64 n]=some (.bool true):=by
 refine aU rfl (aa.eq (aa.step (Xy _ _) ?_));unfold g3;refine aa.step (ah _ _) (aa.step (af _ _ _) ?_);refine aa.bind (R:=fun c=> ∃b,c=([.bool b],S0)) ?_ ?_
 .cases decide ((s.length:Int) > 2000) with
  | true=>exact aa.step (ay _ _) (aa.some ⟨_,rfl⟩)
  | false=>exact aa.step (aq _ _) (aa.step (vo _ _) (aa.step (au _ _) (aa.some ⟨_,rfl⟩)))
 .rintro c ⟨b,rfl⟩;simp only [ab,au,ae];cases b with
  | true=>exact aa.step (ay _ _) (aa.step (vo _ _) (aa.step (au _ _) (aa.some rfl)))
  | false=>
   obtain ⟨w,_,_,z⟩:=Q7 n;refine aa.step (aq _ _) ?_;simp only [aF,z];refine aa.step (xu s w _ _) ?_;cases hf:Format.ur s w with
   | error e=>
    have h:JK s w= .tup [.str [],.int .i64 (e:Int)]:=by unfold JK;rw [hf]
    have i:((e:Int) != 0)=true:=by simpa using PX hf
    rw [h];simp only [br,aP,ba,ah,af,i,ay];exact aa.some rfl
   | ok t=>
    have h:JK s w= .tup [.str t,.int .i64 0]:=by unfold JK;rw [hf]
    obtain ⟨a,g⟩:=Format.Rl hf;obtain ⟨_,hL,_,A⟩:=Format.Kq hf;obtain ⟨_,o,r,_,B⟩:=Format.El hL;have j:dS (doc (tokens t))=true:=by rw [Format.Lb a];exact r
    have o1:wR s=0:=by unfold wR;rw [if_neg (by omega),if_neg (by rw [o];exact Bool.noConfusion)]
    have C:wR t=0:=by unfold wR;rw [if_neg (by omega),if_neg (by rw [g];exact Bool.noConfusion)]
    obtain ⟨x,hx,cx⟩:=vH o1;obtain ⟨y,hy,E⟩:=vH C;rw [a] at hy;have F:Ast.C9 s= .ok (Ast.ir 0 (doc (tokens s)).kids):=by unfold Ast.C9;rw [if_neg (by omega),if_pos o,if_pos r]
    have G:Ast.C9 t= .ok (Ast.ir 0 (doc (tokens t)).kids):=by unfold Ast.C9;rw [if_neg (by omega),if_pos g,if_pos j]
    have k:=Ast.Jf a;obtain ⟨v,d,ev⟩:=JW s;obtain ⟨u,f,H⟩:=JW t;unfold YQ at d f;rw [F] at d;rw [G] at f;obtain ⟨p,es,rfl,hp,l⟩: ∃x es,v= .tup [x,.int .i64 0]/\aO 11 x es/\jr (Ast.ir 0 (doc (tokens s)).kids) es:=d;obtain ⟨q,fs,rfl,I,m⟩: ∃x es,u= .tup [x,.int .i64 0]/\aO 11 x es/\jr (Ast.ir 0 (doc (tokens t)).kids) es:=f;generalize Ast.ir 0 (doc (tokens s)).kids=D at *;generalize Ast.ir 0 (doc (tokens t)).kids=J at *;rw [h];simp only [br,aP,ba,ah,af];refine aa.step (aq _ _) (aa.step (cx _ _) (aa.step (E _ _) (aa.step (hx.len _) (aa.step (hy.len _) ?_))));rw [bne_self_eq_false];refine aa.step (aq _ _) (aa.step (aaU (aC · _) (Mk hx hy _)) ?_);simp only [ai,ab,au,ae,gU];refine aa.step (ev _ _) ?_;simp only [br,aP,ba,af];refine aa.step (H _ _) ?_;simp only [br,aP,ba,af];refine aa.bind (R:=fun c=>c=([.bool true],S0)) (aa.step (ay _ _) (aa.step (ay _ _) (aa.step (Iy l m hp I k.symm _ _) (aa.step (au _ _) (aa.some rfl))))) ?_;rintro c rfl;exact aa.some rfl
end Go.Proofs.YtkbkbndajpbcjaaGreatDoor.Vm
namespace Go.Proofs.YtkbkbndajpbcjaaGreatDoor.Vm
open Go Go.VM Go.Proofs
def FQ:List Td:=[9,5,3]
theorem Fj: ∀t,Fu FQ t=true->D2 Tryz.prog FQ t=true:=by
 intro t a;have:t∈FQ:=by
  obtain ⟨u,b,e⟩:=List.any_eq_true.1 a;rw [<- aap e];exact b
 exact aa7.1 (show (FQ.all fun t=>D2 Tryz.prog FQ t)=true by kernel_rfl) t this
theorem TE {n t:Nat} {cs:LA} (a:Tryz.prog.underlying t=some .string) (h:pw Tryz.prog n t cs): ∃s,cs=[.str s]/\s.length<=maxLen:=by
 cases n with
 | zero=>cases h
 | succ n=>simp only [pw,a] at h;exact h
theorem TR {n t:Nat} {cs:LA} (a:Tryz.prog.underlying t=some (.int .i64)) (h:pw Tryz.prog n t cs): ∃m:Int,cs=[.int .i64 m]:=by
 cases n with
 | zero=>cases h
 | succ n=>
  simp only [pw,a] at h;obtain ⟨m,rfl,_⟩:=h;exact ⟨m,rfl⟩
end Go.Proofs.YtkbkbndajpbcjaaGreatDoor.Vm
