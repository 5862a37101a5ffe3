/-
  A part of the proof.
-/
import Derived.Test.YtkpeicabocpbkaaGreatDoorVmAE
import Derived.Laws.IdiomStrings
set_option linter.all false
namespace Go.VM
section
variable {P:Program} {T:TT} {A:Nat->Prop} {g:Gh} {st:St} {w:World}
theorem IV {op:UnOp} {a v:AV} {x:Value} (b:unOp op a= .ok v) (hx:R g a x) (h:Inv T A g st w):bn P T A g w v st (Op.unary op x):=by
 unfold unOp at b;split at b
 .simp only [aac] at b;subst b;simp only [R] at hx;subst hx;exact bn.of h (by simp only [Op.unary,Op.intArith];rfl) (by simp only [R])
 .simp only [aac] at b;subst b;simp only [R] at hx;subst hx;exact bn.of h (by simp only [Op.unary];rfl) (by simp only [R])
 .simp only [aac] at b;subst b;simp only [R] at hx;subst hx;exact bn.of h (by simp only [Op.unary,Op.intBits];rfl) (by simp only [R])
 .cases b
theorem uC {e:AV} {es:LA} {bs:LB} (h:bytesOf (e::es)= .ok bs): ∃n a,e= .int .u8 n/\bytesOf es= .ok a/\bs=UInt8.ofNat n.toNat::a:=by
 unfold bytesOf at h;split at h
 .rename_i b;cases b
 .rename_i n l b;cases b;simp only [ah,au] at h;obtain ⟨a,h1,rfl⟩:=h;exact ⟨n,a,rfl,h1,rfl⟩
 .cases h
theorem ui: ∀{es:LA} {bs:LB} {xs:List Value},bytesOf es= .ok bs->RL g es xs-> ∃b:List Int,xs=b.map (Value.int .u8)/\bs=b.map fun n=>UInt8.ofNat n.toNat
 | [],_,_,h,a=>by
  simp only [bytesOf,aac] at h;subst h;simp only [RL] at a;subst a;exact ⟨[],rfl,rfl⟩
 | e::es,bs,xs,h,a=>by
  simp only [RL] at a;obtain ⟨x,xs,rfl,h1,c⟩:=a;obtain ⟨n,d,rfl,f,rfl⟩:=uC h;obtain ⟨b,rfl,rfl⟩:=ui f c;simp only [R] at h1;subst h1;exact ⟨n::b,rfl,rfl⟩
theorem fold_push (a:List Int): ∀s:ByteArray,a.foldl (fun r n=>r.push (UInt8.ofNat n.toNat)) s=⟨(s.data.toList++a.map fun n=>UInt8.ofNat n.toNat).toArray⟩:=by
 induction a with
 | nil=>intro s;simp
 | cons n a ih=>
  intro s;rw [acp,ih];simp [ByteArray.push]
theorem Dg {b o len cap:Nat} {es:LA} {bs:LB} {xs:List Value} (d:bytesOf es= .ok bs) (e:RL g es xs) (hm: ∀k x,xs[k]? =some x->w.cell? ⟨b,o+k,none⟩=some x) (hl:xs.length=len):
  (Conv.bytesToString (.slice (some ⟨b,o,none⟩) len cap)).run P w= .ok (.string ⟨bs.toArray⟩) w:=by
 obtain ⟨c,rfl,rfl⟩:=ui d e;have a:=run_loadCells_list (P:=P) w ⟨b,o,none⟩ (c.map (Value.int .u8)) (fun j x hx=>by rw [Addr.gx];exact hm j x hx);rw [hl] at a;rw [run_bytesToString w _ len cap c a,fold_push];simp
theorem uR: ∀{es:LA} {bs:LB},bytesOf es= .ok bs->flat es=es
 | [],_,_=>rfl
 | e::es,bs,h=>by
  obtain ⟨n,a,rfl,b,rfl⟩:=uC h;rw [hH,uR b];rfl
theorem CW {u:U} (h:isByte u=true):u= .int .u8:=by
 cases u <;> simp [isByte] at h
 rename_i k;cases k <;> simp_all
theorem BE (hT:yp P T) {C:dh} {s d:Td} {a v:AV} {x:Value} {p:dI} {Y:Fx} (Z:tP T s d a= .ok p) (hrun:aE C st p= .ok (v,Y)) (hx:R g a x) (h:Inv T A g st w):
  bn P T A g w v (Y.did.app st) (Go.convert s d x):=by
 simp only [tP,ah] at Z;obtain ⟨i,h1,j,N,m⟩:=Z;have hi:=hT s i (cy.1 h1);have O:=hT d j (cy.1 N);obtain ⟨ds,Q,I,_⟩:=hi.und;split at m
 .rename_i k _ n S;simp only [au] at m;subst m;simp only [aE,aac,aag] at hrun;obtain ⟨rfl,rfl⟩:=hrun;simp only [R] at hx;subst hx;refine bn.of h (x:= .int k (k.wrap n)) ?_ (by simp only [R]);simp [Go.convert,gD Q,Ri O S,Conv.intToInt]
 .rename_i s' S;simp only [au] at m;subst m;simp only [aE,aac,aag] at hrun;obtain ⟨rfl,rfl⟩:=hrun;simp only [R] at hx;subst hx;refine bn.of h (x:= .string ⟨s'.toArray⟩) ?_ (by simp only [R]);simp [Go.convert,gD Q,uN O S]
 .rename_i e B D _;simp only [ah] at m;obtain ⟨el,h4,f⟩:=m;have E:=hT e el (cy.1 h4);split at f
  .cases f
  .rename_i r;have r:=CW r;obtain ⟨de,U,G,_⟩:=E.und;rw [r] at G;simp only [Ae] at G;subst G;rw [B] at I;simp only [Ae] at I;subst I;obtain ⟨dd,d1,d2,_⟩:=O.und;rw [D] at d2;simp only [Ae] at d2;subst d2;have conv:=fun a l c=>run_convert_bytes_string (P:=P) w s d e a l c Q U d1;split at f
   .simp only [au] at f;subst f;simp only [aE,aac,aag] at hrun;obtain ⟨rfl,rfl⟩:=hrun;simp only [R] at hx;subst hx;refine bn.of h (x:= .string ⟨#[]⟩) ?_ (by simp only [R]);rw [conv];rfl
   .simp only [ah,au] at f;obtain ⟨bs,K,rfl⟩:=f;simp only [aE,aac,aag] at hrun;obtain ⟨rfl,rfl⟩:=hrun;simp only [R] at hx;obtain ⟨_,b,o,cap,rfl,_,hz,hr,_⟩:=hx;rw [gi,uR K] at hr;obtain ⟨xs,k1,V⟩:=lq hr.2;refine bn.of h (x:= .string ⟨bs.toArray⟩) ?_ (by simp only [R]);rw [conv];exact Dg K k1 (fun k x hx=>h.F _ _ _ (V k x hx).1) (fp k1)
   .rename_i id off z len cap _;simp only [au] at f;subst f;simp only [iV,aE,ah,au] at hrun;obtain ⟨o,h1,⟨v',o'⟩,⟨av,⟨cs,N,m⟩,L⟩,dd,f,K⟩:=hrun;rw [pM] at N;obtain ⟨ty,rfl⟩:=N;split at m
    .rename_i H;have H:=aaq H;simp only [ah,au] at m;obtain ⟨bs,h7,rfl⟩:=m;simp only [aag] at L K;obtain ⟨rfl,rfl⟩:=L;simp only [fK,aac] at f;subst f;obtain ⟨rfl,rfl⟩:=K;simp only [R] at hx;obtain ⟨b,o,hE,c',rfl,hc,a1,ho,_⟩:=hx;obtain ⟨b',vs,rest,a6,k1,V,k3,k4,k5,k6⟩:=h.cells h1;have W:b'=b:=by have:=k1.symm.trans hE;simpa using this
     subst W;have u:=px len (jJ off k3);refine bn.of h (x:= .string ⟨bs.toArray⟩) ?_ (by simp only [R]);rw [conv];refine Dg h7 u (fun k x hx=> ?_) (by rw [fp u];simp;simp at H;omega);have hk:k < len:=by
      rcases Nat.lt_or_ge k len with q | q
      .exact q
      .rw [aaX (by simp;omega)] at hx;cases hx
     rw [ho (by omega)];rw [List.getElem?_take,if_pos hk,abG] at hx;exact lb V (by simpa using hx)
    .cases m
   .cases f
 .rename_i e s' B D;simp only [ah] at m;obtain ⟨el,h4,f⟩:=m;have E:=hT e el (cy.1 h4);split at f
  .cases f
  .rename_i r;have r:=CW r;obtain ⟨de,U,G,_⟩:=E.und;rw [r] at G;simp only [Ae] at G;subst G;obtain ⟨dd,d1,d2,_⟩:=O.und;rw [D] at d2;simp only [Ae] at d2;subst d2;rw [B] at I;simp only [Ae] at I;subst I;simp only [au] at f;subst f;simp only [aE,aac,aag] at hrun;obtain ⟨rfl,rfl⟩:=hrun;simp only [R] at hx;subst hx;have hrun:=run_bytes_of_string (P:=P) w s d e ⟨s'.toArray⟩ Q d1 U;have t:s'.length<=grownCap w s'.length 0 e:=grownCap_ge w _ _ _;have y:(ByteArray.mk s'.toArray).size=s'.length:=by simp [ByteArray.size]
   rw [y] at hrun;have J: ∀o,0<=o->o < 0+(s'.map fun b=>Value.int .u8 (b.toNat:Int)).length->g.F w.heap.size o=none:=fun o _ _=>h.rj (aah _) o;have u:RL g (ofBytes s') (s'.map fun b=>Value.int .u8 (b.toNat:Int)):=by
    clear hrun t y J
    induction s' with
    | nil=>rfl
    | cons b l ih=>exact ⟨_,_,rfl,by simp only [R],ih⟩
   refine ⟨_,g.eR w.heap.size 0 (s'.map fun b=>Value.int .u8 (b.toNat:Int)),_,hrun, ?_, ?_, ?_⟩
   .simp only [R];refine ⟨?_,w.heap.size,0,_,by rw [show (ofBytes s').length=s'.length from aay _], ?_,aah _, ?_,trivial⟩
    .clear hrun t y J u
     induction s' with
     | nil=>rfl
     | cons b l ih=>exact ih
    .rw [show (ofBytes s').length=s'.length from aay _];exact t
    .rw [gi];refine ⟨fun v M=> ?_, ?_⟩
     .obtain ⟨b,_,rfl⟩:=abf.1 M;rfl
     .have X:flat (ofBytes s')=ofBytes s':=by
       clear hrun t y J u
       induction s' with
       | nil=>rfl
       | cons b l ih=>show AV.int .u8 _::flat (ofBytes l)= _;rw [ih];rfl
      rw [X];exact fB (gj (Le.eR J) _ _ u) fun k x hx=>⟨Gh.rv g _ 0 _ k x hx,by obtain ⟨b,_,rfl⟩:=abf.1 (aaJ hx);rfl⟩
   .refine (h.drew.alloc _).eR _ 0 _ J (fun i v M=> ?_) fun id o ho=>h.kU (aah _) id o ho;have W:(w.drew.alloc (.cells (bytesRow ⟨s'.toArray⟩ (grownCap w s'.length 0 e)) e ((bytesRow ⟨s'.toArray⟩ (grownCap w s'.length 0 e)).size,(bytesRow ⟨s'.toArray⟩ (grownCap w s'.length 0 e)).size+1))).heap[w.heap.size]? = _:=World.heap_alloc_new (w:=w.drew);rw [cell_of W];rw [aau];have hi:i < s'.length:=by
     rcases Nat.lt_or_ge i s'.length with q | q
     .exact q
     .rw [aaX (by simpa using q)] at M;cases M
    rw [<- M];simp only [bytesRow];rw [Array.getElem?_append_left (by simpa using hi)];simp
   .exact ((Kp.drew A g w).trans (Kp.alloc _ h.drew)).trans (Kp.eR (h.up _ (aah _)) J)
 .cases m
theorem IW {lower:Bool} {a b v:AV} {x y:Value} (c:min2 lower a b= .ok v) (hx:R g a x) (hy:R g b y):
  ∃z,(if lower then Builtin.min2 x y else Builtin.max2 x y).run P w= .ok z w/\R g v z:=by
 cases a <;> cases b <;> simp only [min2] at c <;> (try (cases c;done))
 simp only [aac] at c;subst c;simp only [R] at hx hy;subst hx hy;cases lower
 .exact ⟨_,by simp only [aaB,if_false,Builtin.max2];rfl,by simp only [R]⟩
 .exact ⟨_,by simp only [if_true,Builtin.min2];rfl,by simp only [R]⟩
end
end Go.VM
