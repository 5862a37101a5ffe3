/-
  A part of the proof.
-/
import Derived.Test.YtkpeicabocpbkaaGreatDoorVmAD
import Derived.Laws.StructEq
import Derived.Laws.BytesString
set_option linter.all false
namespace Go.VM
section
variable {P:Program} {T:TT} {A:Nat->Prop} {g:Gh} {st:St} {w:World}
theorem gD {t:Td} {d:TypeDesc} (h:P.underlying t=some d) (w:World):(underlying t).run P w= .ok d w:=by simp [underlying,h]
theorem H8 (a b:LB):((⟨a.toArray⟩:ByteArray)==⟨b.toArray⟩)=(a==b):=by
 show (a.toArray==b.toArray)=(a==b);simp
set_option maxHeartbeats 1000000 in
theorem CO (hT:yp P T): ∀(f:Nat) (d:Nat) (t:Td) (a b:AV) (r:Bool) (x y:Value),f<=d->Hk T f t a b= .ok r->R g a x->R g b y->(Op.equalIn d t x y).run P w= .ok r w
 | 0,_,_,_,_,_,_,_,_,h,_,_=>by simp [Hk] at h
 | f+1,d,t,a,b,r,x,y,hd,h,hx,hy=>by
  obtain ⟨d,rfl⟩: ∃d',d=d'+1:=⟨d - 1,by omega⟩;simp only [Hk,ah] at h;obtain ⟨i,h1,m⟩:=h;have hi:=hT t i (cy.1 h1);obtain ⟨dd,q,n,_⟩:=hi.und;have k1:=gD (P:=P) q;split at m <;> rename_i z <;> (try rw [z] at n) <;> (try simp only [Ae] at n) <;> (try (simp only [R] at hx hy))
  .subst n hx hy;simp only [aac] at m;subst m;simp [Op.equalIn,k1]
  .rename_i kk _ j a k b;subst n hx hy;split at m
   .rename_i s;subst s;simp only [aac] at m;subst m;simp [Op.equalIn,k1]
   .cases m
  .subst n hx hy;simp only [aac] at m;subst m;simp [Op.equalIn,k1,H8]
  .subst n hx hy;simp only [aac] at m;subst m;simp [Op.equalIn,k1]
  .obtain ⟨_,b,o,rfl,_⟩:=hy;subst n hx;simp only [aac] at m;subst m;simp [Op.equalIn,k1]
  .obtain ⟨_,b,o,rfl,_⟩:=hx;subst n hy;simp only [aac] at m;subst m;simp [Op.equalIn,k1]
  .obtain ⟨b,_,rfl⟩:=hy;subst n hx;simp only [aac] at m;subst m;simp [Op.equalIn,k1]
  .obtain ⟨b,_,rfl⟩:=hx;subst n hy;simp only [aac] at m;subst m;simp [Op.equalIn,k1]
  .subst n hx hy;simp only [aac] at m;subst m;simp [Op.equalIn,k1]
  .obtain ⟨_,b,o,cap,rfl,_⟩:=hy;subst n hx;simp only [aac] at m;subst m;simp [Op.equalIn,k1]
  .obtain ⟨_,b,o,cap,rfl,_⟩:=hx;subst n hy;simp only [aac] at m;subst m;simp [Op.equalIn,k1]
  .obtain ⟨b,o,_,c,rfl,_⟩:=hy;subst n hx;simp only [aac] at m;subst m;simp [Op.equalIn,k1]
  .obtain ⟨b,o,_,c,rfl,_⟩:=hx;subst n hy;simp only [aac] at m;subst m;simp [Op.equalIn,k1]
  .obtain ⟨_,rfl⟩:=hy;subst n hx;simp only [aac] at m;subst m;simp [Op.equalIn,k1]
  .obtain ⟨_,rfl⟩:=hx;subst n hy;simp only [aac] at m;subst m;simp [Op.equalIn,k1]
  .subst n hx hy;simp only [aac] at m;subst m;simp [Op.equalIn,k1]
  .obtain ⟨b,_,rfl⟩:=hy;subst n hx;simp only [aac] at m;subst m;simp [Op.equalIn,k1]
  .obtain ⟨b,_,rfl⟩:=hx;subst n hy;simp only [aac] at m;subst m;simp [Op.equalIn,k1]
  .obtain ⟨_,_,_,rfl⟩:=n;subst hx hy;simp only [aac] at m;subst m;simp [Op.equalIn,k1]
  .obtain ⟨_,_,_,rfl⟩:=n;obtain ⟨_,_,rfl,_⟩:=hy;subst hx;simp only [aac] at m;subst m;simp [Op.equalIn,k1]
  .obtain ⟨_,_,_,rfl⟩:=n;obtain ⟨_,_,rfl,_⟩:=hx;subst hy;simp only [aac] at m;subst m;simp [Op.equalIn,k1]
  .rename_i fs xs ys _;split at m
   .rename_i E;obtain ⟨_,A,B⟩:=hi.cmp E;obtain ⟨fields,rfl,C⟩:=n;obtain ⟨xv,rfl,hx⟩:=hx;obtain ⟨yv,rfl,hy⟩:=hy;have p:P.fieldsOf t=fields:=by simp [Program.fieldsOf,q]
    rw [run_equalIn_struct w d t xv yv (by rw [p];exact q) A,p];have hn:=B fields q;generalize fields.toList=l at hn C;clear p q k1 hi A B z;subst C
    induction l with
    | nil=>simp only [aaN,eqFields,aac] at m;subst m;simp [Op.eqFields]
    | cons fl l ih=>
     simp only [aal,eqFields,ah] at m;obtain ⟨j,F,a,G,b,g3,e,g4,g5⟩:=m;have D:=hT _ j (cy.1 F);obtain ⟨H,I,J⟩:=oY (w:=w) D G hx;obtain ⟨K,L,M⟩:=oY (w:=w) D g3 hy;have N:=CO hT f d fl.type a b e H K (by omega) g4 J M;have u:=hn fl (by simp);simp only [Op.eqFields];rw [if_pos u];simp only [Sem.run_bind,I,Result.andThen_ok,L,N];cases e with
     | true=>
      simp only [aaS,aaB,if_false];exact ih (fun O v=>hn O (by simp [v])) g5
     | false=>
      simp only [aac] at g5;subst g5;simp
   .cases m
  .cases m
end
section
variable {P:Program} {T:TT} {A:Nat->Prop} {g:Gh} {st:St} {w:World}
theorem sD (op:BinOp) (t:Td) (a b:Operand) (x y:Value) (h1: ∀xs ys,x= .agg xs->y= .agg ys->False) (c:x= .nilIface->y= .nilIface->False):
  (eqGuard op t a b x y).run P w= .ok () w:=by
 unfold eqGuard;cases x <;> cases y <;> first
  | exact (h1 _ _ rfl rfl).elim
  | exact (c rfl rfl).elim
  | (cases op <;> simp)
theorem EP (s:LB):(⟨s.toArray⟩:ByteArray).toList=s:=by
 rw [ByteArray.toList_eq]
theorem Fe {op:BinOp} {t:Td} {k:IntKind} {a b:Int} {v:AV} (hs:op≠ .shl) (d:op≠ .shr) (h:Gz op k a b= .ok v):
  ∃x,(Go.binOp op t (.int k a) (.int k b)).run P w= .ok x w/\R g v x:=by
 cases op <;> simp only [Gz,aac] at h <;> first
  | exact absurd rfl hs
  | exact absurd rfl d
  | (subst h;exact ⟨_,by simp only [Go.binOp,ne_eq,not_true_eq_false,if_false];rfl,by simp only [R]⟩)
  | skip
 .split at h
  .cases h
  .rename_i c;simp only [aac] at h;subst h;exact ⟨_,by simp [Go.binOp,Op.intDiv,c];rfl,by simp only [R]⟩
 .split at h
  .cases h
  .rename_i c;simp only [aac] at h;subst h;exact ⟨_,by simp [Go.binOp,Op.intDiv,c];rfl,by simp only [R]⟩
theorem FZ {op:BinOp} {t:Td} {a b:LB} {v:AV} (h:Km op a b= .ok v):
  ∃x,(Go.binOp op t (.string ⟨a.toArray⟩) (.string ⟨b.toArray⟩)).run P w= .ok x w/\R g v x:=by
 cases op <;> simp only [Km,aac] at h <;> first
  | (subst h;exact ⟨_,by simp only [Go.binOp,Op.stringOp,EP];rfl,by simp only [R]⟩)
  | (cases h;done)
  | skip
 split at h
 .rename_i c;have c:=aaq c;simp only [aac] at h;subst h;refine ⟨.string (⟨a.toArray⟩++⟨b.toArray⟩), ?_, ?_⟩
  .have hm:IntKind.i64.max=9223372036854775807:=by decide
   have:¬ ((((a.length+b.length:Nat)):Int) > IntKind.i64.max):=by rw [hm];omega
   simp only [Go.binOp,Op.stringOp,nY,Sem.run_ite];rw [if_neg this];rfl
  .simp only [R,Value.string.injEq];apply ByteArray.ext;simp [ByteArray.data_append]
 .cases h
def Plain (x y:Value):Prop:=(∀j a k b,x= .int j a->y= .int k b->False)/\(∀a b,x= .string a->y= .string b->False)/\(∀j a k b,x= .float j a->y= .float k b->False)/\
 (∀j a a' k b b',x= .complex j a a'->y= .complex k b b'->False)
theorem qn {t:Td} {x y:Value} (_:True\/True) (h:Plain x y):Go.binOp .eql t x y=(do pure (.bool (<- Op.equal t x y))):=by
 obtain ⟨h1,a,b,h4⟩:=h;cases x <;> cases y <;> first
  | exact (h1 _ _ _ _ rfl rfl).elim
  | exact (a _ _ rfl rfl).elim
  | exact (b _ _ _ _ rfl rfl).elim
  | exact (h4 _ _ _ _ _ _ rfl rfl).elim
  | rfl
theorem pC {t:Td} {x y:Value} (h:Plain x y):Go.binOp .neq t x y=(do pure (.bool (!(<- Op.equal t x y)))):=by
 obtain ⟨h1,a,b,h4⟩:=h;cases x <;> cases y <;> first
  | exact (h1 _ _ _ _ rfl rfl).elim
  | exact (a _ _ rfl rfl).elim
  | exact (b _ _ _ _ rfl rfl).elim
  | exact (h4 _ _ _ _ _ _ rfl rfl).elim
  | rfl
theorem C5 {f:Nat} {t:Td} {a b:AV} {r:Bool} {x y:Value} (h:Hk T f t a b= .ok r) (c: ∀j m k n,a= .int j m->b= .int k n->False) (d: ∀m n,a= .str m->b= .str n->False)
  (hx:R g a x) (hy:R g b y):Plain x y:=by
 cases f with
 | zero=>simp [Hk] at h
 | succ f=>
  simp only [Hk,ah] at h;obtain ⟨i,_,h⟩:=h;split at h <;> (try (simp only [R] at hx hy)) <;> first
   | exact (c _ _ _ _ rfl rfl).elim
   | exact (d _ _ rfl rfl).elim
   | (cases h;done)
   | (subst hx hy;exact ⟨by simp,by simp,by simp,by simp⟩)
   | (obtain ⟨_,_,_,rfl,_⟩:=hy;subst hx;exact ⟨by simp,by simp,by simp,by simp⟩)
   | (obtain ⟨_,_,_,rfl,_⟩:=hx;subst hy;exact ⟨by simp,by simp,by simp,by simp⟩)
   | (obtain ⟨_,_,rfl⟩:=hy;subst hx;exact ⟨by simp,by simp,by simp,by simp⟩)
   | (obtain ⟨_,_,rfl⟩:=hx;subst hy;exact ⟨by simp,by simp,by simp,by simp⟩)
   | (obtain ⟨_,_,_,_,rfl,_⟩:=hy;subst hx;exact ⟨by simp,by simp,by simp,by simp⟩)
   | (obtain ⟨_,_,_,_,rfl,_⟩:=hx;subst hy;exact ⟨by simp,by simp,by simp,by simp⟩)
   | (obtain ⟨_,_,rfl,_⟩:=hy;subst hx;exact ⟨by simp,by simp,by simp,by simp⟩)
   | (obtain ⟨_,_,rfl,_⟩:=hx;subst hy;exact ⟨by simp,by simp,by simp,by simp⟩)
   | (obtain ⟨_,rfl,_⟩:=hx;obtain ⟨_,rfl,_⟩:=hy;exact ⟨by simp,by simp,by simp,by simp⟩)
   | skip
theorem GN (hT:yp P T) {op:BinOp} {t:Td} {f j:Operand} {a b v:AV} {x y:Value} (c:binOp T op t a b= .ok v) (hx:R g a x) (hy:R g b y) (h:Inv T A g st w):
  bn P T A g w v st (do eqGuard op t f j x y;Go.binOp op t x y):=by
 have plain: ∀{z:Value},(Go.binOp op t x y).run P w= .ok z w->R g v z->(∀xs ys,x= .agg xs->y= .agg ys->False)->(x= .nilIface->y= .nilIface->False)->bn P T A g w v st (do eqGuard op t f j x y;Go.binOp op t x y):=fun o u h1 d=>
  bn.of h (by simp [sD op t f j x y h1 d,o]) u
 have eqs: ∀{r:Bool},Hk T 20 t a b= .ok r->(Op.equalIn 10000 t x y).run P w= .ok r w/\(eqGuard op t f j x y).run P w= .ok () w:=fun {r} e=>by
  refine ⟨CO hT 20 10000 t a b r x y (by omega) e hx hy, ?_⟩;simp only [Hk,ah] at e;obtain ⟨i,h1,d⟩:=e;have hi:=hT t i (cy.1 h1);by_cases l: ∃xs ys,x= .agg xs/\y= .agg ys
  .obtain ⟨xs,ys,rfl,rfl⟩:=l;split at d <;> (try (simp only [R] at hx hy)) <;> first
    | (cases hx;done)
    | (cases hy;done)
    | (obtain ⟨_,_,hx⟩:=hx;cases hx;done)
    | (obtain ⟨_,_,hy⟩:=hy;cases hy;done)
    | (obtain ⟨_,_,_,hx,_⟩:=hx;cases hx;done)
    | (obtain ⟨_,_,_,hy,_⟩:=hy;cases hy;done)
    | (cases d;done)
    | skip
   split at d
   .rename_i B;exact run_eqGuard_agg w op t f j xs ys (hi.cmp B).1
   .cases d
  .refine sD op t f j x y (fun xs ys m n=>l ⟨xs,ys,m,n⟩) ?_;rintro rfl rfl;split at d <;> (try (simp only [R] at hx hy)) <;> first
    | (cases hx;done)
    | (cases hy;done)
    | (obtain ⟨_,_,hx⟩:=hx;cases hx;done)
    | (obtain ⟨_,_,hy⟩:=hy;cases hy;done)
    | (obtain ⟨_,hx,_⟩:=hx;cases hx;done)
    | (obtain ⟨_,_,_,hx,_⟩:=hx;cases hx;done)
    | (obtain ⟨_,_,_,hy,_⟩:=hy;cases hy;done)
    | (cases d;done)
 unfold binOp at c;split at c
 .rename_i k a C b';simp only [R] at hx hy;subst hx hy;split at c
  .cases c
  .rename_i p;simp only [aac] at c;subst c;exact plain (z:= .int k (k.wrap (a * 2 ^ (min b'.toNat k.bits)))) (by simp [Go.binOp,Op.shift,p]) (by simp only [R]) (by simp) (by simp)
 .rename_i k a C b';simp only [R] at hx hy;subst hx hy;split at c
  .cases c
  .rename_i p;simp only [aac] at c;subst c;exact plain (z:= .int k (a.fdiv (2 ^ (min b'.toNat k.bits)))) (by simp [Go.binOp,Op.shift,p]) (by simp only [R]) (by simp) (by simp)
 .rename_i hs o;simp only [R] at hx hy;subst hx hy;split at c
  .rename_i D;subst D;obtain ⟨z,h1,d⟩:=Fe (P:=P) (g:=g) (w:=w) (t:=t) hs o c;exact plain h1 d (by simp) (by simp)
  .cases c
 .simp only [R] at hx hy;subst hx hy;obtain ⟨z,h1,d⟩:=FZ (P:=P) (g:=g) (w:=w) (t:=t) c;exact plain h1 d (by simp) (by simp)
 .rename_i q s;simp only [ah,au] at c;obtain ⟨r,e,rfl⟩:=c;obtain ⟨m,n⟩:=eqs e;refine bn.of h (x:= .bool r) ?_ (by simp only [R]);simp only [Sem.run_bind,n,Result.andThen_ok];rw [qn (.inl trivial) (C5 e q s hx hy)];simp [Op.equal,Op.maxDepth,m]
 .rename_i q s;simp only [ah,au] at c;obtain ⟨r,e,rfl⟩:=c;obtain ⟨m,n⟩:=eqs e;refine bn.of h (x:= .bool !r) ?_ (by simp only [R]);simp only [Sem.run_bind,n,Result.andThen_ok];rw [pC (C5 e q s hx hy)];simp [Op.equal,Op.maxDepth,m]
 .cases c
theorem EK (hT:yp P T) {op:BinOp} {t:Td} {n p:Operand} {a b v:AV} {x y:Value} (f:zB T op t p a b= .ok v) (hx:R g a x) (hy:R g b y) (h:Inv T A g st w):
  bn P T A g w v st (do eqGuard op t n p x y;Go.binOp op t x y):=by
 unfold zB at f;split at f
 .rename_i s;simp only [aaf] at s;obtain ⟨j,k⟩:=s;have q: ∃u,p= .const u/\b= .nili:=by
   unfold UH at j;split at j
   .split at j
    .exact ⟨_,rfl,rfl⟩
    .cases j
   .cases j
  obtain ⟨u,rfl,rfl⟩:=q;simp only [R] at hy;subst hy;unfold Na at k;split at k
  .rename_i i hi;split at k
   .rename_i G E;have hi:=hT t i hi;obtain ⟨dd,l,z,_⟩:=hi.und;rw [E] at z;obtain ⟨ms,rfl,_⟩:=z;have k1:=gD (P:=P) l;split at f
    .rename_i r m;cases f;have B: ∀(o:BinOp),(eqGuard o t n (.const u) .nilIface .nilIface).run P w= .ok () w:=fun o=>by cases o <;> simp [eqGuard]
     have C: ∀(o:BinOp) (c:Td) (e:Value),(eqGuard o t n (.const u) (.iface c e) .nilIface).run P w= .ok () w:=fun o c e=>by cases o <;> simp [eqGuard]
     have q0: ∀d,(Op.equalIn (d+1) t .nilIface .nilIface).run P w= .ok true w:=fun d=>by simp [Op.equalIn,k1]
     have l: ∀d c e,(Op.equalIn (d+1) t (.iface c e) .nilIface).run P w= .ok false w:=fun d c e=>by simp [Op.equalIn,k1]
     have p0:Plain .nilIface .nilIface:=⟨by simp,by simp,by simp,by simp⟩;have D: ∀c e,Plain (.iface c e) .nilIface:=fun c e=>⟨by simp,by simp,by simp,by simp⟩;unfold Rb at m;split at m <;> first | (cases m;done) | skip
     all_goals
      cases m;simp only [R] at hx
     .subst hx;refine bn.of h (x:= .bool true) ?_ (by simp only [R]);simp only [Sem.run_bind,B,Result.andThen_ok];rw [qn (.inl trivial) p0];simp [Op.equal,Op.maxDepth,q0 9999]
     .obtain ⟨F,rfl,_⟩:=hx;refine bn.of h (x:= .bool false) ?_ (by simp only [R]);simp only [Sem.run_bind,C,Result.andThen_ok];rw [qn (.inl trivial) (D _ _)];simp [Op.equal,Op.maxDepth,l 9999]
     .subst hx;refine bn.of h (x:= .bool false) ?_ (by simp only [R]);simp only [Sem.run_bind,B,Result.andThen_ok];rw [pC p0];simp [Op.equal,Op.maxDepth,q0 9999]
     .obtain ⟨F,rfl,_⟩:=hx;refine bn.of h (x:= .bool true) ?_ (by simp only [R]);simp only [Sem.run_bind,C,Result.andThen_ok];rw [pC (D _ _)];simp [Op.equal,Op.maxDepth,l 9999]
    .cases f
   .cases k
  .cases k
 .exact GN hT f hx hy h
end
end Go.VM
