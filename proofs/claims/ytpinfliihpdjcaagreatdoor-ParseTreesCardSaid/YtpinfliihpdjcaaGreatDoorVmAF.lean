/-
  A part of the proof.
-/
import Derived.Test.YtpinfliihpdjcaaGreatDoorVmAE
import Derived.Laws.StructEq
import Derived.Laws.BytesString
set_option linter.all false
namespace Go.VM
section
variable {P:Program} {T:TT} {A:Nat->Prop} {g:Gh} {st:St} {w:World}
theorem eC {t:TypeId} {d:TypeDesc} (h:P.underlying t=some d) (w:World):(underlying t).run P w= .ok d w:=by simp [underlying,h]
theorem zP (a b:List UInt8):((⟨a.toArray⟩:ByteArray)==⟨b.toArray⟩)=(a==b):=by
 show (a.toArray==b.toArray)=(a==b);simp
set_option maxHeartbeats 1000000 in
theorem vd (hT:qW P T): ∀(f:Nat) (d:Nat) (t:TypeId) (a b:AV) (r:Bool) (x y:Value),f<=d->xg T f t a b= .ok r->R g a x->R g b y->(Op.equalIn d t x y).run P w= .ok r w
 | 0,_,_,_,_,_,_,_,_,h,_,_=>by simp [xg] at h
 | f+1,d,t,a,b,r,x,y,hd,h,n,hy=>by
  obtain ⟨d,rfl⟩: ∃d',d=d'+1:=⟨d - 1,by omega⟩;simp only [xg,ad] at h;obtain ⟨i,h1,m⟩:=h;have hi:=hT t i (bO.1 h1);obtain ⟨dd,u,p,_⟩:=hi.und;have q:=eC (P:=P) u;split at m <;> rename_i C <;> (try rw [C] at p) <;> (try simp only [rZ] at p) <;> (try (simp only [R] at n hy))
  .subst p n hy;simp only [NT] at m;subst m;simp [Op.equalIn,q]
  .rename_i kk _ j a k b;subst p n hy;split at m
   .rename_i v;subst v;simp only [NT] at m;subst m;simp [Op.equalIn,q]
   .cases m
  .subst p n hy;simp only [NT] at m;subst m;simp [Op.equalIn,q,zP]
  .subst p n hy;simp only [NT] at m;subst m;simp [Op.equalIn,q]
  .obtain ⟨_,b,o,rfl,_⟩:=hy;subst p n;simp only [NT] at m;subst m;simp [Op.equalIn,q]
  .obtain ⟨_,b,o,rfl,_⟩:=n;subst p hy;simp only [NT] at m;subst m;simp [Op.equalIn,q]
  .obtain ⟨b,_,rfl⟩:=hy;subst p n;simp only [NT] at m;subst m;simp [Op.equalIn,q]
  .obtain ⟨b,_,rfl⟩:=n;subst p hy;simp only [NT] at m;subst m;simp [Op.equalIn,q]
  .subst p n hy;simp only [NT] at m;subst m;simp [Op.equalIn,q]
  .obtain ⟨_,b,o,cap,rfl,_⟩:=hy;subst p n;simp only [NT] at m;subst m;simp [Op.equalIn,q]
  .obtain ⟨_,b,o,cap,rfl,_⟩:=n;subst p hy;simp only [NT] at m;subst m;simp [Op.equalIn,q]
  .obtain ⟨b,o,_,c,rfl,_⟩:=hy;subst p n;simp only [NT] at m;subst m;simp [Op.equalIn,q]
  .obtain ⟨b,o,_,c,rfl,_⟩:=n;subst p hy;simp only [NT] at m;subst m;simp [Op.equalIn,q]
  .obtain ⟨_,rfl⟩:=hy;subst p n;simp only [NT] at m;subst m;simp [Op.equalIn,q]
  .obtain ⟨_,rfl⟩:=n;subst p hy;simp only [NT] at m;subst m;simp [Op.equalIn,q]
  .subst p n hy;simp only [NT] at m;subst m;simp [Op.equalIn,q]
  .obtain ⟨b,_,rfl⟩:=hy;subst p n;simp only [NT] at m;subst m;simp [Op.equalIn,q]
  .obtain ⟨b,_,rfl⟩:=n;subst p hy;simp only [NT] at m;subst m;simp [Op.equalIn,q]
  .obtain ⟨_,_,_,rfl⟩:=p;subst n hy;simp only [NT] at m;subst m;simp [Op.equalIn,q]
  .obtain ⟨_,_,_,rfl⟩:=p;obtain ⟨_,_,rfl,_⟩:=hy;subst n;simp only [NT] at m;subst m;simp [Op.equalIn,q]
  .obtain ⟨_,_,_,rfl⟩:=p;obtain ⟨_,_,rfl,_⟩:=n;subst hy;simp only [NT] at m;subst m;simp [Op.equalIn,q]
  .rename_i fs xs ys _;split at m
   .rename_i F;obtain ⟨_,c2,c3⟩:=hi.cmp F;obtain ⟨fields,rfl,D⟩:=p;obtain ⟨xv,rfl,n⟩:=n;obtain ⟨yv,rfl,hy⟩:=hy;have s:P.fieldsOf t=fields:=by simp [Program.fieldsOf,u]
    rw [run_equalIn_struct w d t xv yv (by rw [s];exact u) c2,s];have z:=c3 fields u;generalize fields.toList=l at z D;clear s u q hi c2 c3 C;subst D
    induction l with
    | nil=>simp only [O5,eqFields,NT] at m;subst m;simp [Op.eqFields]
    | cons fl l ih=>
     simp only [Od,eqFields,ad] at m;obtain ⟨j,G,a,H,b,g3,e,g4,g5⟩:=m;have E:=hT _ j (bO.1 G);obtain ⟨I,J,K⟩:=kF (w:=w) E H n;obtain ⟨L,M,N⟩:=kF (w:=w) E g3 hy;have O:=vd hT f d fl.type a b e I L (by omega) g4 K N;have A:=z fl (by simp);simp only [Op.eqFields];rw [if_pos A];simp only [Sem.run_bind,J,Result.andThen_ok,M,O];cases e with
     | true=>
      simp only [Ou,Oi,if_false];exact ih (fun Q B=>z Q (by simp [B])) g5
     | false=>
      simp only [NT] at g5;subst g5;simp
   .cases m
  .cases m
end
section
variable {P:Program} {T:TT} {A:Nat->Prop} {g:Gh} {st:St} {w:World}
theorem nj (op:BinOp) (t:TypeId) (a yo:Operand) (x y:Value) (h1: ∀xs ys,x= .agg xs->y= .agg ys->False) (b:x= .nilIface->y= .nilIface->False):
  (eqGuard op t a yo x y).run P w= .ok () w:=by
 unfold eqGuard;cases x <;> cases y <;> first
  | exact (h1 _ _ rfl rfl).elim
  | exact (b rfl rfl).elim
  | (cases op <;> simp)
theorem wj (s:List UInt8):(⟨s.toArray⟩:ByteArray).toList=s:=by
 rw [ByteArray.toList_eq]
theorem yg {op:BinOp} {t:TypeId} {k:IntKind} {a b:Int} {v:AV} (hs:op≠ .shl) (d:op≠ .shr) (h:xI op k a b= .ok v):
  ∃x,(Go.binOp op t (.int k a) (.int k b)).run P w= .ok x w/\R g v x:=by
 cases op <;> simp only [xI,NT] at h <;> first
  | exact absurd rfl hs
  | exact absurd rfl d
  | (subst h;exact ⟨_,by simp only [Go.binOp,ne_eq,not_true_eq_false,if_false];rfl,by simp only [R]⟩)
  | skip
 .split at h
  .cases h
  .rename_i c;simp only [NT] at h;subst h;exact ⟨_,by simp [Go.binOp,Op.intDiv,c];rfl,by simp only [R]⟩
 .split at h
  .cases h
  .rename_i c;simp only [NT] at h;subst h;exact ⟨_,by simp [Go.binOp,Op.intDiv,c];rfl,by simp only [R]⟩
theorem xO {op:BinOp} {t:TypeId} {a b:List UInt8} {v:AV} (h:AY op a b= .ok v):
  ∃x,(Go.binOp op t (.string ⟨a.toArray⟩) (.string ⟨b.toArray⟩)).run P w= .ok x w/\R g v x:=by
 cases op <;> simp only [AY,NT] at h <;> first
  | (subst h;exact ⟨_,by simp only [Go.binOp,Op.stringOp,wj];rfl,by simp only [R]⟩)
  | (cases h;done)
  | skip
 split at h
 .rename_i c;have c:=N4 c;simp only [NT] at h;subst h;refine ⟨.string (⟨a.toArray⟩++⟨b.toArray⟩), ?_, ?_⟩
  .have d:IntKind.i64.max=9223372036854775807:=by decide
   have:¬ ((((a.length+b.length:Nat)):Int) > IntKind.i64.max):=by rw [d];omega
   simp only [Go.binOp,Op.stringOp,jS,Sem.run_ite];rw [if_neg this];rfl
  .simp only [R,Value.string.injEq];apply ByteArray.ext;simp [ByteArray.data_append]
 .cases h
def Plain (x y:Value):Prop:=(∀j a k b,x= .int j a->y= .int k b->False)/\(∀a b,x= .string a->y= .string b->False)/\(∀j a k b,x= .float j a->y= .float k b->False)/\
 (∀j a a' k b b',x= .complex j a a'->y= .complex k b b'->False)
theorem lT {t:TypeId} {x y:Value} (_:True\/True) (h:Plain x y):Go.binOp .eql t x y=(do pure (.bool (<- Op.equal t x y))):=by
 obtain ⟨h1,a,b,h4⟩:=h;cases x <;> cases y <;> first
  | exact (h1 _ _ _ _ rfl rfl).elim
  | exact (a _ _ rfl rfl).elim
  | exact (b _ _ _ _ rfl rfl).elim
  | exact (h4 _ _ _ _ _ _ rfl rfl).elim
  | rfl
theorem kA {t:TypeId} {x y:Value} (h:Plain x y):Go.binOp .neq t x y=(do pure (.bool (!(<- Op.equal t x y)))):=by
 obtain ⟨h1,a,b,h4⟩:=h;cases x <;> cases y <;> first
  | exact (h1 _ _ _ _ rfl rfl).elim
  | exact (a _ _ rfl rfl).elim
  | exact (b _ _ _ _ rfl rfl).elim
  | exact (h4 _ _ _ _ _ _ rfl rfl).elim
  | rfl
theorem uE {f:Nat} {t:TypeId} {a b:AV} {r:Bool} {x y:Value} (h:xg T f t a b= .ok r) (d: ∀j m k n,a= .int j m->b= .int k n->False) (e: ∀m n,a= .str m->b= .str n->False)
  (c:R g a x) (hy:R g b y):Plain x y:=by
 cases f with
 | zero=>simp [xg] at h
 | succ f=>
  simp only [xg,ad] at h;obtain ⟨i,_,h⟩:=h;split at h <;> (try (simp only [R] at c hy)) <;> first
   | exact (d _ _ _ _ rfl rfl).elim
   | exact (e _ _ rfl rfl).elim
   | (cases h;done)
   | (subst c hy;exact ⟨by simp,by simp,by simp,by simp⟩)
   | (obtain ⟨_,_,_,rfl,_⟩:=hy;subst c;exact ⟨by simp,by simp,by simp,by simp⟩)
   | (obtain ⟨_,_,_,rfl,_⟩:=c;subst hy;exact ⟨by simp,by simp,by simp,by simp⟩)
   | (obtain ⟨_,_,rfl⟩:=hy;subst c;exact ⟨by simp,by simp,by simp,by simp⟩)
   | (obtain ⟨_,_,rfl⟩:=c;subst hy;exact ⟨by simp,by simp,by simp,by simp⟩)
   | (obtain ⟨_,_,_,_,rfl,_⟩:=hy;subst c;exact ⟨by simp,by simp,by simp,by simp⟩)
   | (obtain ⟨_,_,_,_,rfl,_⟩:=c;subst hy;exact ⟨by simp,by simp,by simp,by simp⟩)
   | (obtain ⟨_,_,rfl,_⟩:=hy;subst c;exact ⟨by simp,by simp,by simp,by simp⟩)
   | (obtain ⟨_,_,rfl,_⟩:=c;subst hy;exact ⟨by simp,by simp,by simp,by simp⟩)
   | (obtain ⟨_,rfl,_⟩:=c;obtain ⟨_,rfl,_⟩:=hy;exact ⟨by simp,by simp,by simp,by simp⟩)
   | skip
theorem xZ (hT:qW P T) {op:BinOp} {t:TypeId} {j yo:Operand} {a b v:AV} {x y:Value} (d:binOp T op t a b= .ok v) (c:R g a x) (hy:R g b y) (h:Inv T A g st w):
  aS P T A g w v st (do eqGuard op t j yo x y;Go.binOp op t x y):=by
 have plain: ∀{z:Value},(Go.binOp op t x y).run P w= .ok z w->R g v z->(∀xs ys,x= .agg xs->y= .agg ys->False)->(x= .nilIface->y= .nilIface->False)->aS P T A g w v st (do eqGuard op t j yo x y;Go.binOp op t x y):=fun o u h1 e=>
  aS.of h (by simp [nj op t j yo x y h1 e,o]) u
 have eqs: ∀{r:Bool},xg T 20 t a b= .ok r->(Op.equalIn 10000 t x y).run P w= .ok r w/\(eqGuard op t j yo x y).run P w= .ok () w:=fun {r} f=>by
  refine ⟨vd hT 20 10000 t a b r x y (by omega) f c hy, ?_⟩;simp only [xg,ad] at f;obtain ⟨i,h1,e⟩:=f;have hi:=hT t i (bO.1 h1);by_cases l: ∃xs ys,x= .agg xs/\y= .agg ys
  .obtain ⟨xs,ys,rfl,rfl⟩:=l;split at e <;> (try (simp only [R] at c hy)) <;> first
    | (cases c;done)
    | (cases hy;done)
    | (obtain ⟨_,_,c⟩:=c;cases c;done)
    | (obtain ⟨_,_,hy⟩:=hy;cases hy;done)
    | (obtain ⟨_,_,_,c,_⟩:=c;cases c;done)
    | (obtain ⟨_,_,_,hy,_⟩:=hy;cases hy;done)
    | (cases e;done)
    | skip
   split at e
   .rename_i B;exact run_eqGuard_agg w op t j yo xs ys (hi.cmp B).1
   .cases e
  .refine nj op t j yo x y (fun xs ys m n=>l ⟨xs,ys,m,n⟩) ?_;rintro rfl rfl;split at e <;> (try (simp only [R] at c hy)) <;> first
    | (cases c;done)
    | (cases hy;done)
    | (obtain ⟨_,_,c⟩:=c;cases c;done)
    | (obtain ⟨_,_,hy⟩:=hy;cases hy;done)
    | (obtain ⟨_,c,_⟩:=c;cases c;done)
    | (obtain ⟨_,_,_,c,_⟩:=c;cases c;done)
    | (obtain ⟨_,_,_,hy,_⟩:=hy;cases hy;done)
    | (cases e;done)
 unfold binOp at d;split at d
 .rename_i k a C b';simp only [R] at c hy;subst c hy;split at d
  .cases d
  .rename_i p;simp only [NT] at d;subst d;exact plain (z:= .int k (k.wrap (a * 2 ^ (min b'.toNat k.bits)))) (by simp [Go.binOp,Op.shift,p]) (by simp only [R]) (by simp) (by simp)
 .rename_i k a C b';simp only [R] at c hy;subst c hy;split at d
  .cases d
  .rename_i p;simp only [NT] at d;subst d;exact plain (z:= .int k (a.fdiv (2 ^ (min b'.toNat k.bits)))) (by simp [Go.binOp,Op.shift,p]) (by simp only [R]) (by simp) (by simp)
 .rename_i hs o;simp only [R] at c hy;subst c hy;split at d
  .rename_i D;subst D;obtain ⟨z,h1,e⟩:=yg (P:=P) (g:=g) (w:=w) (t:=t) hs o d;exact plain h1 e (by simp) (by simp)
  .cases d
 .simp only [R] at c hy;subst c hy;obtain ⟨z,h1,e⟩:=xO (P:=P) (g:=g) (w:=w) (t:=t) d;exact plain h1 e (by simp) (by simp)
 .rename_i q s;simp only [ad,aj] at d;obtain ⟨r,f,rfl⟩:=d;obtain ⟨m,n⟩:=eqs f;refine aS.of h (x:= .bool r) ?_ (by simp only [R]);simp only [Sem.run_bind,n,Result.andThen_ok];rw [lT (.inl trivial) (uE f q s c hy)];simp [Op.equal,Op.maxDepth,m]
 .rename_i q s;simp only [ad,aj] at d;obtain ⟨r,f,rfl⟩:=d;obtain ⟨m,n⟩:=eqs f;refine aS.of h (x:= .bool !r) ?_ (by simp only [R]);simp only [Sem.run_bind,n,Result.andThen_ok];rw [kA (uE f q s c hy)];simp [Op.equal,Op.maxDepth,m]
 .cases d
theorem wu (hT:qW P T) {op:BinOp} {t:TypeId} {m yo:Operand} {a b v:AV} {x y:Value} (f:tC T op t yo a b= .ok v) (j:R g a x) (hy:R g b y) (h:Inv T A g st w):
  aS P T A g w v st (do eqGuard op t m yo x y;Go.binOp op t x y):=by
 unfold tC at f;split at f
 .rename_i p;simp only [N0] at p;obtain ⟨c1,c2⟩:=p;have n: ∃u,yo= .const u/\b= .nili:=by
   unfold Iz at c1;split at c1
   .split at c1
    .exact ⟨_,rfl,rfl⟩
    .cases c1
   .cases c1
  obtain ⟨u,rfl,rfl⟩:=n;simp only [R] at hy;subst hy;unfold DR at c2;split at c2
  .rename_i i hi;split at c2
   .rename_i F D;have hi:=hT t i hi;obtain ⟨dd,k,q,_⟩:=hi.und;rw [D] at q;obtain ⟨ms,rfl,_⟩:=q;have s:=eC (P:=P) k;split at f
    .rename_i r l;cases f;have z: ∀(o:BinOp),(eqGuard o t m (.const u) .nilIface .nilIface).run P w= .ok () w:=fun o=>by cases o <;> simp [eqGuard]
     have B: ∀(o:BinOp) (c:TypeId) (e:Value),(eqGuard o t m (.const u) (.iface c e) .nilIface).run P w= .ok () w:=fun o c e=>by cases o <;> simp [eqGuard]
     have q0: ∀d,(Op.equalIn (d+1) t .nilIface .nilIface).run P w= .ok true w:=fun d=>by simp [Op.equalIn,s]
     have k: ∀d c e,(Op.equalIn (d+1) t (.iface c e) .nilIface).run P w= .ok false w:=fun d c e=>by simp [Op.equalIn,s]
     have p0:Plain .nilIface .nilIface:=⟨by simp,by simp,by simp,by simp⟩;have C: ∀c e,Plain (.iface c e) .nilIface:=fun c e=>⟨by simp,by simp,by simp,by simp⟩;unfold GI at l;split at l <;> first | (cases l;done) | skip
     all_goals
      cases l;simp only [R] at j
     .subst j;refine aS.of h (x:= .bool true) ?_ (by simp only [R]);simp only [Sem.run_bind,z,Result.andThen_ok];rw [lT (.inl trivial) p0];simp [Op.equal,Op.maxDepth,q0 9999]
     .obtain ⟨E,rfl,_⟩:=j;refine aS.of h (x:= .bool false) ?_ (by simp only [R]);simp only [Sem.run_bind,B,Result.andThen_ok];rw [lT (.inl trivial) (C _ _)];simp [Op.equal,Op.maxDepth,k 9999]
     .subst j;refine aS.of h (x:= .bool false) ?_ (by simp only [R]);simp only [Sem.run_bind,z,Result.andThen_ok];rw [kA p0];simp [Op.equal,Op.maxDepth,q0 9999]
     .obtain ⟨E,rfl,_⟩:=j;refine aS.of h (x:= .bool true) ?_ (by simp only [R]);simp only [Sem.run_bind,B,Result.andThen_ok];rw [kA (C _ _)];simp [Op.equal,Op.maxDepth,k 9999]
    .cases f
   .cases c2
  .cases c2
 .exact xZ hT f j hy h
end
end Go.VM
