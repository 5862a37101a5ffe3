/-
  A part of the proof.
-/
import Derived.Test.YtpinfliihpdjcaaGreatDoorVmAF
import Derived.Laws.IdiomStrings
set_option linter.all false
namespace Go.VM
section
variable {P:Program} {T:TT} {A:Nat->Prop} {g:Gh} {st:St} {w:World}
theorem zT {op:UnOp} {a v:AV} {x:Value} (b:unOp op a= .ok v) (c:R g a x) (h:Inv T A g st w):aS P T A g w v st (Op.unary op x):=by
 unfold unOp at b;split at b
 .simp only [NT] at b;subst b;simp only [R] at c;subst c;exact aS.of h (by simp only [Op.unary,Op.intArith];rfl) (by simp only [R])
 .simp only [NT] at b;subst b;simp only [R] at c;subst c;exact aS.of h (by simp only [Op.unary];rfl) (by simp only [R])
 .simp only [NT] at b;subst b;simp only [R] at c;subst c;exact aS.of h (by simp only [Op.unary,Op.intBits];rfl) (by simp only [R])
 .cases b
theorem oT {e:AV} {es:List AV} {bs:List UInt8} (h:bytesOf (e::es)= .ok bs): ∃n a,e= .int .u8 n/\bytesOf es= .ok a/\bs=UInt8.ofNat n.toNat::a:=by
 unfold bytesOf at h;split at h
 .rename_i b;cases b
 .rename_i n l b;cases b;simp only [ad,aj] at h;obtain ⟨a,h1,rfl⟩:=h;exact ⟨n,a,rfl,h1,rfl⟩
 .cases h
theorem oW: ∀{es:List AV} {bs:List UInt8} {xs:List Value},bytesOf es= .ok bs->RL g es xs-> ∃b:List Int,xs=b.map (Value.int .u8)/\bs=b.map fun n=>UInt8.ofNat n.toNat
 | [],_,_,h,a=>by
  simp only [bytesOf,NT] at h;subst h;simp only [RL] at a;subst a;exact ⟨[],rfl,rfl⟩
 | e::es,bs,xs,h,a=>by
  simp only [RL] at a;obtain ⟨x,xs,rfl,h1,c⟩:=a;obtain ⟨n,d,rfl,f,rfl⟩:=oT h;obtain ⟨b,rfl,rfl⟩:=oW f c;simp only [R] at h1;subst h1;exact ⟨n::b,rfl,rfl⟩
theorem fold_push (a:List Int): ∀s:ByteArray,a.foldl (fun r n=>r.push (UInt8.ofNat n.toNat)) s=⟨(s.data.toList++a.map fun n=>UInt8.ofNat n.toNat).toArray⟩:=by
 induction a with
 | nil=>intro s;simp
 | cons n a ih=>
  intro s;rw [PL,ih];simp [ByteArray.push]
theorem uX {b o len cap:Nat} {es:List AV} {bs:List UInt8} {xs:List Value} (d:bytesOf es= .ok bs) (e:RL g es xs) (f: ∀k x,xs[k]? =some x->w.cell? ⟨b,o+k,none⟩=some x) (hl:xs.length=len):
  (Conv.bytesToString (.slice (some ⟨b,o,none⟩) len cap)).run P w= .ok (.string ⟨bs.toArray⟩) w:=by
 obtain ⟨c,rfl,rfl⟩:=oW d e;have a:=run_loadCells_list (P:=P) w ⟨b,o,none⟩ (c.map (Value.int .u8)) (fun j x h=>by rw [Addr.dt];exact f j x h);rw [hl] at a;rw [run_bytesToString w _ len cap c a,fold_push];simp
theorem nU: ∀{es:List AV} {bs:List UInt8},bytesOf es= .ok bs->flat es=es
 | [],_,_=>rfl
 | e::es,bs,h=>by
  obtain ⟨n,a,rfl,b,rfl⟩:=oT h;rw [fk,nU b];rfl
theorem uv {u:U} (h:isByte u=true):u= .int .u8:=by
 cases u <;> simp [isByte] at h
 rename_i k;cases k <;> simp_all
theorem tO (hT:qW P T) {C:cp} {s d:TypeId} {a v:AV} {x:Value} {p:cV} {fx:Fx} (hp:oC T s d a= .ok p) (f:az C st p= .ok (v,fx)) (m:R g a x) (h:Inv T A g st w):
  aS P T A g w v (fx.did.app st) (Go.convert s d x):=by
 simp only [oC,ad] at hp;obtain ⟨i,h1,j,S,t⟩:=hp;have hi:=hT s i (bO.1 h1);have U:=hT d j (bO.1 S);obtain ⟨ds,V,K,_⟩:=hi.und;split at t
 .rename_i k _ n X;simp only [aj] at t;subst t;simp only [az,NT,NU] at f;obtain ⟨rfl,rfl⟩:=f;simp only [R] at m;subst m;refine aS.of h (x:= .int k (k.wrap n)) ?_ (by simp only [R]);simp [Go.convert,eC V,GP U X,Conv.intToInt]
 .rename_i s' X;simp only [aj] at t;subst t;simp only [az,NT,NU] at f;obtain ⟨rfl,rfl⟩:=f;simp only [R] at m;subst m;refine aS.of h (x:= .string ⟨s'.toArray⟩) ?_ (by simp only [R]);simp [Go.convert,eC V,oB U X]
 .rename_i e D E _;simp only [ad] at t;obtain ⟨el,h4,r⟩:=t;have G:=hT e el (bO.1 h4);split at r
  .cases r
  .rename_i u;have u:=uv u;obtain ⟨de,Y,H,_⟩:=G.und;rw [u] at H;simp only [rZ] at H;subst H;rw [D] at K;simp only [rZ] at K;subst K;obtain ⟨dd,Z,I,_⟩:=U.und;rw [E] at I;simp only [rZ] at I;subst I;have conv:=fun a l c=>run_convert_bytes_string (P:=P) w s d e a l c V Y Z;split at r
   .simp only [aj] at r;subst r;simp only [az,NT,NU] at f;obtain ⟨rfl,rfl⟩:=f;simp only [R] at m;subst m;refine aS.of h (x:= .string ⟨#[]⟩) ?_ (by simp only [R]);rw [conv];rfl
   .simp only [ad,aj] at r;obtain ⟨bs,M,rfl⟩:=r;simp only [az,NT,NU] at f;obtain ⟨rfl,rfl⟩:=f;simp only [R] at m;obtain ⟨_,b,o,cap,rfl,_,hz,hr,_⟩:=m;rw [da,nU M] at hr;obtain ⟨xs,W,k2⟩:=fZ hr.2;refine aS.of h (x:= .string ⟨bs.toArray⟩) ?_ (by simp only [R]);rw [conv];exact uX M W (fun k x m=>h.F _ _ _ (k2 k x m).1) (cD W)
   .rename_i id off z len cap _;simp only [aj] at r;subst r;simp only [fD,az,ad,aj] at f;obtain ⟨o,h1,⟨v',o'⟩,⟨a1,⟨cs,S,t⟩,N⟩,dd,r,M⟩:=f;rw [nO] at S;obtain ⟨ty,rfl⟩:=S;split at t
    .rename_i J;have J:=N4 J;simp only [ad,aj] at t;obtain ⟨bs,h7,rfl⟩:=t;simp only [NU] at N M;obtain ⟨rfl,rfl⟩:=N;simp only [dv,NT] at r;subst r;obtain ⟨rfl,rfl⟩:=M;simp only [R] at m;obtain ⟨b,o,hE,c',rfl,hc,a6,ho,_⟩:=m;obtain ⟨b',vs,rest,a7,W,k2,k3,k4,k5,k6⟩:=h.cells h1;have O:b'=b:=by have:=W.symm.trans hE;simpa using this
     subst O;have y:=jw len (fK off k3);refine aS.of h (x:= .string ⟨bs.toArray⟩) ?_ (by simp only [R]);rw [conv];refine uX h7 y (fun k x m=> ?_) (by rw [cD y];simp;simp at J;omega);have hk:k < len:=by
      rcases Nat.lt_or_ge k len with q | q
      .exact q
      .rw [Og (by simp;omega)] at m;cases m
     rw [ho (by omega)];rw [List.getElem?_take,if_pos hk,Po] at m;exact gO k2 (by simpa using m)
    .cases t
   .cases r
 .rename_i e s' D E;simp only [ad] at t;obtain ⟨el,h4,r⟩:=t;have G:=hT e el (bO.1 h4);split at r
  .cases r
  .rename_i u;have u:=uv u;obtain ⟨de,Y,H,_⟩:=G.und;rw [u] at H;simp only [rZ] at H;subst H;obtain ⟨dd,Z,I,_⟩:=U.und;rw [E] at I;simp only [rZ] at I;subst I;rw [D] at K;simp only [rZ] at K;subst K;simp only [aj] at r;subst r;simp only [az,NT,NU] at f;obtain ⟨rfl,rfl⟩:=f;simp only [R] at m;subst m;have f:=run_bytes_of_string (P:=P) w s d e ⟨s'.toArray⟩ V Z Y;have hcap:s'.length<=grownCap w s'.length 0 e:=grownCap_ge w _ _ _;have B:(ByteArray.mk s'.toArray).size=s'.length:=by simp [ByteArray.size]
   rw [B] at f;have L: ∀o,0<=o->o < 0+(s'.map fun b=>Value.int .u8 (b.toNat:Int)).length->g.F w.heap.size o=none:=fun o _ _=>h.fy (NX _) o;have y:RL g (ofBytes s') (s'.map fun b=>Value.int .u8 (b.toNat:Int)):=by
    clear f hcap B L
    induction s' with
    | nil=>rfl
    | cons b l ih=>exact ⟨_,_,rfl,by simp only [R],ih⟩
   refine ⟨_,g.bN w.heap.size 0 (s'.map fun b=>Value.int .u8 (b.toNat:Int)),_,f, ?_, ?_, ?_⟩
   .simp only [R];refine ⟨?_,w.heap.size,0,_,by rw [show (ofBytes s').length=s'.length from Ok _], ?_,NX _, ?_,trivial⟩
    .clear f hcap B L y
     induction s' with
     | nil=>rfl
     | cons b l ih=>exact ih
    .rw [show (ofBytes s').length=s'.length from Ok _];exact hcap
    .rw [da];refine ⟨fun v Q=> ?_, ?_⟩
     .obtain ⟨b,_,rfl⟩:=OQ.1 Q;rfl
     .have av:flat (ofBytes s')=ofBytes s':=by
       clear f hcap B L y
       induction s' with
       | nil=>rfl
       | cons b l ih=>show AV.int .u8 _::flat (ofBytes l)= _;rw [ih];rfl
      rw [av];exact cF (cT (Le.bN L) _ _ y) fun k x m=>⟨Gh.gF g _ 0 _ k x m,by obtain ⟨b,_,rfl⟩:=OQ.1 (Ob m);rfl⟩
   .refine (h.drew.alloc _).bN _ 0 _ L (fun i v Q=> ?_) (fun id o ho=>h.eQ (NX _) id o ho) (fun _ _ o _ ho=>by
     have O:(w.drew.alloc (.cells (bytesRow ⟨s'.toArray⟩ (grownCap w s'.length 0 e)) e ((bytesRow ⟨s'.toArray⟩ (grownCap w s'.length 0 e)).size,(bytesRow ⟨s'.toArray⟩ (grownCap w s'.length 0 e)).size+1))).heap[w.heap.size]? = _:=World.heap_alloc_new (w:=w.drew);have hn:¬ (bytesRow ⟨s'.toArray⟩ (grownCap w s'.length 0 e)).size<=o:=by
      rw [N5,Ok] at ho;simp only [bytesRow,Array.size_append,Array.size_map];simp only [Pf];omega
     unfold World.frozen?
     rw [O];simp [hn])
    have O:(w.drew.alloc (.cells (bytesRow ⟨s'.toArray⟩ (grownCap w s'.length 0 e)) e ((bytesRow ⟨s'.toArray⟩ (grownCap w s'.length 0 e)).size,(bytesRow ⟨s'.toArray⟩ (grownCap w s'.length 0 e)).size+1))).heap[w.heap.size]? = _:=World.heap_alloc_new (w:=w.drew);rw [cell_of O];rw [N5];have hi:i < s'.length:=by
     rcases Nat.lt_or_ge i s'.length with q | q
     .exact q
     .rw [Og (by simpa using q)] at Q;cases Q
    rw [<- Q];simp only [bytesRow];rw [Array.getElem?_append_left (by simpa using hi)];simp
   .exact ((Kp.drew A g w).trans (Kp.alloc _ h.drew)).trans (Kp.bN (h.up _ (NX _)) L)
 .cases t
theorem zY {lower:Bool} {a b v:AV} {x y:Value} (c:min2 lower a b= .ok v) (d:R g a x) (hy:R g b y):
  ∃z,(if lower then Builtin.min2 x y else Builtin.max2 x y).run P w= .ok z w/\R g v z:=by
 cases a <;> cases b <;> simp only [min2] at c <;> (try (cases c;done))
 simp only [NT] at c;subst c;simp only [R] at d hy;subst d hy;cases lower
 .exact ⟨_,by simp only [Oi,if_false,Builtin.max2];rfl,by simp only [R]⟩
 .exact ⟨_,by simp only [if_true,Builtin.min2];rfl,by simp only [R]⟩
end
end Go.VM
