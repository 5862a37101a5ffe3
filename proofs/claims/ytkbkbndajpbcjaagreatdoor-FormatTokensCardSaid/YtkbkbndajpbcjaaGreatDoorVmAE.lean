/-
  A part of the proof.
-/
import Derived.Test.YtkbkbndajpbcjaaGreatDoorVmAD
import Derived.Laws.StructEq
import Derived.Laws.BytesString
set_option linter.all false
namespace Go.VM
section
variable {P:Program} {T:TT} {A:Nat->Prop} {g:Gh} {st:St} {w:World}
theorem gQ {t:Td} {d:TypeDesc} (h:P.underlying t=some d) (w:World):(underlying t).run P w= .ok d w:=by simp [underlying,h]
theorem I4 (a b:LB):((⟨a.toArray⟩:ByteArray)==⟨b.toArray⟩)=(a==b):=by
 show (a.toArray==b.toArray)=(a==b);simp
set_option maxHeartbeats 1000000 in
theorem Dk (hT:zm P T): ∀(f:Nat) (d:Nat) (t:Td) (a b:AV) (r:Bool) (x y:Value),f<=d->Fw T f t a b= .ok r->R g a x->R g b y->(Op.equalIn d t x y).run P w= .ok r w
 | 0,_,_,_,_,_,_,_,_,h,_,_=>by simp [Fw] at h
 | f+1,d,t,a,b,r,x,y,O,h,hx,hy=>by
  obtain ⟨d,rfl⟩: ∃d',d=d'+1:=⟨d - 1,by omega⟩;simp only [Fw,ag] at h;obtain ⟨i,h1,m⟩:=h;have hi:=hT t i (cH.1 h1);obtain ⟨dd,q,n,_⟩:=hi.und;have k1:=gQ (P:=P) q;split at m <;> rename_i z <;> (try rw [z] at n) <;> (try simp only [Ax] at n) <;> (try (simp only [R] at hx hy))
  .subst n hx hy;simp only [aaf] at m;subst m;simp [Op.equalIn,k1]
  .rename_i kk _ j a k b;subst n hx hy;split at m
   .rename_i s;subst s;simp only [aaf] at m;subst m;simp [Op.equalIn,k1]
   .cases m
  .subst n hx hy;simp only [aaf] at m;subst m;simp [Op.equalIn,k1,I4]
  .subst n hx hy;simp only [aaf] at m;subst m;simp [Op.equalIn,k1]
  .obtain ⟨_,b,o,rfl,_⟩:=hy;subst n hx;simp only [aaf] at m;subst m;simp [Op.equalIn,k1]
  .obtain ⟨_,b,o,rfl,_⟩:=hx;subst n hy;simp only [aaf] at m;subst m;simp [Op.equalIn,k1]
  .obtain ⟨b,_,rfl⟩:=hy;subst n hx;simp only [aaf] at m;subst m;simp [Op.equalIn,k1]
  .obtain ⟨b,_,rfl⟩:=hx;subst n hy;simp only [aaf] at m;subst m;simp [Op.equalIn,k1]
  .subst n hx hy;simp only [aaf] at m;subst m;simp [Op.equalIn,k1]
  .obtain ⟨_,b,o,cap,rfl,_⟩:=hy;subst n hx;simp only [aaf] at m;subst m;simp [Op.equalIn,k1]
  .obtain ⟨_,b,o,cap,rfl,_⟩:=hx;subst n hy;simp only [aaf] at m;subst m;simp [Op.equalIn,k1]
  .obtain ⟨b,o,_,c,rfl,_⟩:=hy;subst n hx;simp only [aaf] at m;subst m;simp [Op.equalIn,k1]
  .obtain ⟨b,o,_,c,rfl,_⟩:=hx;subst n hy;simp only [aaf] at m;subst m;simp [Op.equalIn,k1]
  .obtain ⟨_,rfl⟩:=hy;subst n hx;simp only [aaf] at m;subst m;simp [Op.equalIn,k1]
  .obtain ⟨_,rfl⟩:=hx;subst n hy;simp only [aaf] at m;subst m;simp [Op.equalIn,k1]
  .subst n hx hy;simp only [aaf] at m;subst m;simp [Op.equalIn,k1]
  .obtain ⟨b,_,rfl⟩:=hy;subst n hx;simp only [aaf] at m;subst m;simp [Op.equalIn,k1]
  .obtain ⟨b,_,rfl⟩:=hx;subst n hy;simp only [aaf] at m;subst m;simp [Op.equalIn,k1]
  .obtain ⟨_,_,_,rfl⟩:=n;subst hx hy;simp only [aaf] at m;subst m;simp [Op.equalIn,k1]
  .obtain ⟨_,_,_,rfl⟩:=n;obtain ⟨_,_,rfl,_⟩:=hy;subst hx;simp only [aaf] at m;subst m;simp [Op.equalIn,k1]
  .obtain ⟨_,_,_,rfl⟩:=n;obtain ⟨_,_,rfl,_⟩:=hx;subst hy;simp only [aaf] at m;subst m;simp [Op.equalIn,k1]
  .rename_i fs xs ys _;split at m
   .rename_i E;obtain ⟨_,A,B⟩:=hi.cmp E;obtain ⟨fields,rfl,C⟩:=n;obtain ⟨xv,rfl,hx⟩:=hx;obtain ⟨yv,rfl,hy⟩:=hy;have p:P.fieldsOf t=fields:=by simp [Program.fieldsOf,q]
    rw [run_equalIn_struct w d t xv yv (by rw [p];exact q) A,p];have hn:=B fields q;generalize fields.toList=l at hn C;clear p q k1 hi A B z;subst C
    induction l with
    | nil=>simp only [aaH,eqFields,aaf] at m;subst m;simp [Op.eqFields]
    | cons fl l ih=>
     simp only [aan,eqFields,ag] at m;obtain ⟨j,F,a,G,b,g3,e,g4,g5⟩:=m;have D:=hT _ j (cH.1 F);obtain ⟨H,p1,I⟩:=qi (w:=w) D G hx;obtain ⟨J,K,L⟩:=qi (w:=w) D g3 hy;have M:=Dk hT f d fl.type a b e H J (by omega) g4 I L;have u:=hn fl (by simp);simp only [Op.eqFields];rw [if_pos u];simp only [Sem.run_bind,p1,Result.andThen_ok,K,M];cases e with
     | true=>
      simp only [aa2,aaT,if_false];exact ih (fun N v=>hn N (by simp [v])) g5
     | false=>
      simp only [aaf] at g5;subst g5;simp
   .cases m
  .cases m
end
section
variable {P:Program} {T:TT} {A:Nat->Prop} {g:Gh} {st:St} {w:World}
theorem uu (op:BinOp) (t:Td) (a b:Operand) (x y:Value) (h1: ∀xs ys,x= .agg xs->y= .agg ys->False) (c:x= .nilIface->y= .nilIface->False):
  (eqGuard op t a b x y).run P w= .ok () w:=by
 unfold eqGuard;cases x <;> cases y <;> first
  | exact (h1 _ _ rfl rfl).elim
  | exact (c rfl rfl).elim
  | (cases op <;> simp)
theorem Fm (s:LB):(⟨s.toArray⟩:ByteArray).toList=s:=by
 rw [ByteArray.toList_eq]
theorem GY {op:BinOp} {t:Td} {k:IntKind} {a b:Int} {v:AV} (hs:op≠ .shl) (d:op≠ .shr) (h:GK op k a b= .ok v):
  ∃x,(Go.binOp op t (.int k a) (.int k b)).run P w= .ok x w/\R g v x:=by
 cases op <;> simp only [GK,aaf] at h <;> first
  | exact absurd rfl hs
  | exact absurd rfl d
  | (subst h;exact ⟨_,by simp only [Go.binOp,ne_eq,not_true_eq_false,if_false];rfl,by simp only [R]⟩)
  | skip
 .split at h
  .cases h
  .rename_i c;simp only [aaf] at h;subst h;exact ⟨_,by simp [Go.binOp,Op.intDiv,c];rfl,by simp only [R]⟩
 .split at h
  .cases h
  .rename_i c;simp only [aaf] at h;subst h;exact ⟨_,by simp [Go.binOp,Op.intDiv,c];rfl,by simp only [R]⟩
theorem GA {op:BinOp} {t:Td} {a b:LB} {v:AV} (h:Kl op a b= .ok v):
  ∃x,(Go.binOp op t (.string ⟨a.toArray⟩) (.string ⟨b.toArray⟩)).run P w= .ok x w/\R g v x:=by
 cases op <;> simp only [Kl,aaf] at h <;> first
  | (subst h;exact ⟨_,by simp only [Go.binOp,Op.stringOp,Fm];rfl,by simp only [R]⟩)
  | (cases h;done)
  | skip
 split at h
 .rename_i c;have c:=aah c;simp only [aaf] at h;subst h;refine ⟨.string (⟨a.toArray⟩++⟨b.toArray⟩), ?_, ?_⟩
  .have hm:IntKind.i64.max=9223372036854775807:=by decide
   have:¬ ((((a.length+b.length:Nat)):Int) > IntKind.i64.max):=by rw [hm];omega
   simp only [Go.binOp,Op.stringOp,qb,Sem.run_ite];rw [if_neg this];rfl
  .simp only [R,Value.string.injEq];apply ByteArray.ext;simp [ByteArray.data_append]
 .cases h
def Plain (x y:Value):Prop:=(∀j a k b,x= .int j a->y= .int k b->False)/\(∀a b,x= .string a->y= .string b->False)/\(∀j a k b,x= .float j a->y= .float k b->False)/\
 (∀j a a' k b b',x= .complex j a a'->y= .complex k b b'->False)
theorem sN {t:Td} {x y:Value} (_:True\/True) (h:Plain x y):Go.binOp .eql t x y=(do pure (.bool (<- Op.equal t x y))):=by
 obtain ⟨h1,a,b,c⟩:=h;cases x <;> cases y <;> first
  | exact (h1 _ _ _ _ rfl rfl).elim
  | exact (a _ _ rfl rfl).elim
  | exact (b _ _ _ _ rfl rfl).elim
  | exact (c _ _ _ _ _ _ rfl rfl).elim
  | rfl
theorem qE {t:Td} {x y:Value} (h:Plain x y):Go.binOp .neq t x y=(do pure (.bool (!(<- Op.equal t x y)))):=by
 obtain ⟨h1,a,b,c⟩:=h;cases x <;> cases y <;> first
  | exact (h1 _ _ _ _ rfl rfl).elim
  | exact (a _ _ rfl rfl).elim
  | exact (b _ _ _ _ rfl rfl).elim
  | exact (c _ _ _ _ _ _ rfl rfl).elim
  | rfl
theorem DL {f:Nat} {t:Td} {a b:AV} {r:Bool} {x y:Value} (h:Fw T f t a b= .ok r) (c: ∀j m k n,a= .int j m->b= .int k n->False) (d: ∀m n,a= .str m->b= .str n->False)
  (hx:R g a x) (hy:R g b y):Plain x y:=by
 cases f with
 | zero=>simp [Fw] at h
 | succ f=>
  simp only [Fw,ag] at h;obtain ⟨i,_,h⟩:=h;split at h <;> (try (simp only [R] at hx hy)) <;> first
   | exact (c _ _ _ _ rfl rfl).elim
   | exact (d _ _ rfl rfl).elim
   | (cases h;done)
   | (subst hx hy;exact ⟨by simp,by simp,by simp,by simp⟩)
   | (obtain ⟨_,_,_,rfl,_⟩:=hy;subst hx;exact ⟨by simp,by simp,by simp,by simp⟩)
   | (obtain ⟨_,_,_,rfl,_⟩:=hx;subst hy;exact ⟨by simp,by simp,by simp,by simp⟩)
   | (obtain ⟨_,_,rfl⟩:=hy;subst hx;exact ⟨by simp,by simp,by simp,by simp⟩)
   | (obtain ⟨_,_,rfl⟩:=hx;subst hy;exact ⟨by simp,by simp,by simp,by simp⟩)
   | (obtain ⟨_,_,_,_,rfl,_⟩:=hy;subst hx;exact ⟨by simp,by simp,by simp,by simp⟩)
   | (obtain ⟨_,_,_,_,rfl,_⟩:=hx;subst hy;exact ⟨by simp,by simp,by simp,by simp⟩)
   | (obtain ⟨_,_,rfl,_⟩:=hy;subst hx;exact ⟨by simp,by simp,by simp,by simp⟩)
   | (obtain ⟨_,_,rfl,_⟩:=hx;subst hy;exact ⟨by simp,by simp,by simp,by simp⟩)
   | (obtain ⟨_,rfl,_⟩:=hx;obtain ⟨_,rfl,_⟩:=hy;exact ⟨by simp,by simp,by simp,by simp⟩)
   | skip
theorem HD (hT:zm P T) {op:BinOp} {t:Td} {d e:Operand} {a b v:AV} {x y:Value} (hp:binOp T op t a b= .ok v) (hx:R g a x) (hy:R g b y) (h:Inv T A g st w):
  bh P T A g w v st (do eqGuard op t d e x y;Go.binOp op t x y):=by
 have plain: ∀{z:Value},(Go.binOp op t x y).run P w= .ok z w->R g v z->(∀xs ys,x= .agg xs->y= .agg ys->False)->(x= .nilIface->y= .nilIface->False)->bh P T A g w v st (do eqGuard op t d e x y;Go.binOp op t x y):=fun m q h1 c=>
  bh.of h (by simp [uu op t d e x y h1 c,m]) q
 have eqs: ∀{r:Bool},Fw T 20 t a b= .ok r->(Op.equalIn 10000 t x y).run P w= .ok r w/\(eqGuard op t d e x y).run P w= .ok () w:=fun {r} he=>by
  refine ⟨Dk hT 20 10000 t a b r x y (by omega) he hx hy, ?_⟩;simp only [Fw,ag] at he;obtain ⟨i,h1,c⟩:=he;have hi:=hT t i (cH.1 h1);by_cases f: ∃xs ys,x= .agg xs/\y= .agg ys
  .obtain ⟨xs,ys,rfl,rfl⟩:=f;split at c <;> (try (simp only [R] at hx hy)) <;> first
    | (cases hx;done)
    | (cases hy;done)
    | (obtain ⟨_,_,hx⟩:=hx;cases hx;done)
    | (obtain ⟨_,_,hy⟩:=hy;cases hy;done)
    | (obtain ⟨_,_,_,hx,_⟩:=hx;cases hx;done)
    | (obtain ⟨_,_,_,hy,_⟩:=hy;cases hy;done)
    | (cases c;done)
    | skip
   split at c
   .rename_i s;exact run_eqGuard_agg w op t d e xs ys (hi.cmp s).1
   .cases c
  .refine uu op t d e x y (fun xs ys j l=>f ⟨xs,ys,j,l⟩) ?_;rintro rfl rfl;split at c <;> (try (simp only [R] at hx hy)) <;> first
    | (cases hx;done)
    | (cases hy;done)
    | (obtain ⟨_,_,hx⟩:=hx;cases hx;done)
    | (obtain ⟨_,_,hy⟩:=hy;cases hy;done)
    | (obtain ⟨_,hx,_⟩:=hx;cases hx;done)
    | (obtain ⟨_,_,_,hx,_⟩:=hx;cases hx;done)
    | (obtain ⟨_,_,_,hy,_⟩:=hy;cases hy;done)
    | (cases c;done)
 unfold binOp at hp;split at hp
 .rename_i k a u b';simp only [R] at hx hy;subst hx hy;split at hp
  .cases hp
  .rename_i n;simp only [aaf] at hp;subst hp;exact plain (z:= .int k (k.wrap (a * 2 ^ (min b'.toNat k.bits)))) (by simp [Go.binOp,Op.shift,n]) (by simp only [R]) (by simp) (by simp)
 .rename_i k a u b';simp only [R] at hx hy;subst hx hy;split at hp
  .cases hp
  .rename_i n;simp only [aaf] at hp;subst hp;exact plain (z:= .int k (a.fdiv (2 ^ (min b'.toNat k.bits)))) (by simp [Go.binOp,Op.shift,n]) (by simp only [R]) (by simp) (by simp)
 .rename_i hs m;simp only [R] at hx hy;subst hx hy;split at hp
  .rename_i B;subst B;obtain ⟨z,h1,c⟩:=GY (P:=P) (g:=g) (w:=w) (t:=t) hs m hp;exact plain h1 c (by simp) (by simp)
  .cases hp
 .simp only [R] at hx hy;subst hx hy;obtain ⟨z,h1,c⟩:=GA (P:=P) (g:=g) (w:=w) (t:=t) hp;exact plain h1 c (by simp) (by simp)
 .rename_i o p;simp only [ag,aj] at hp;obtain ⟨r,he,rfl⟩:=hp;obtain ⟨j,l⟩:=eqs he;refine bh.of h (x:= .bool r) ?_ (by simp only [R]);simp only [Sem.run_bind,l,Result.andThen_ok];rw [sN (.inl trivial) (DL he o p hx hy)];simp [Op.equal,Op.maxDepth,j]
 .rename_i o p;simp only [ag,aj] at hp;obtain ⟨r,he,rfl⟩:=hp;obtain ⟨j,l⟩:=eqs he;refine bh.of h (x:= .bool !r) ?_ (by simp only [R]);simp only [Sem.run_bind,l,Result.andThen_ok];rw [qE (DL he o p hx hy)];simp [Op.equal,Op.maxDepth,j]
 .cases hp
theorem DV (hT:zm P T) {op:BinOp} {t:Td} {m n:Operand} {a b v:AV} {x y:Value} (hp:zN T op t n a b= .ok v) (hx:R g a x) (hy:R g b y) (h:Inv T A g st w):
  bh P T A g w v st (do eqGuard op t m n x y;Go.binOp op t x y):=by
 unfold zN at hp;split at hp
 .rename_i q;simp only [aak] at q;obtain ⟨f,j⟩:=q;have p: ∃u,n= .const u/\b= .nili:=by
   unfold VK at f;split at f
   .split at f
    .exact ⟨_,rfl,rfl⟩
    .cases f
   .cases f
  obtain ⟨u,rfl,rfl⟩:=p;simp only [R] at hy;subst hy;unfold Pm at j;split at j
  .rename_i i hi;split at j
   .rename_i E C;have hi:=hT t i hi;obtain ⟨dd,k,s,_⟩:=hi.und;rw [C] at s;obtain ⟨ms,rfl,_⟩:=s;have k1:=gQ (P:=P) k;split at hp
    .rename_i r l;cases hp;have z: ∀(o:BinOp),(eqGuard o t m (.const u) .nilIface .nilIface).run P w= .ok () w:=fun o=>by cases o <;> simp [eqGuard]
     have B: ∀(o:BinOp) (c:Td) (e:Value),(eqGuard o t m (.const u) (.iface c e) .nilIface).run P w= .ok () w:=fun o c e=>by cases o <;> simp [eqGuard]
     have q0: ∀d,(Op.equalIn (d+1) t .nilIface .nilIface).run P w= .ok true w:=fun d=>by simp [Op.equalIn,k1]
     have k: ∀d c e,(Op.equalIn (d+1) t (.iface c e) .nilIface).run P w= .ok false w:=fun d c e=>by simp [Op.equalIn,k1]
     have p0:Plain .nilIface .nilIface:=⟨by simp,by simp,by simp,by simp⟩;have p1: ∀c e,Plain (.iface c e) .nilIface:=fun c e=>⟨by simp,by simp,by simp,by simp⟩;unfold Rp at l;split at l <;> first | (cases l;done) | skip
     all_goals
      cases l;simp only [R] at hx
     .subst hx;refine bh.of h (x:= .bool true) ?_ (by simp only [R]);simp only [Sem.run_bind,z,Result.andThen_ok];rw [sN (.inl trivial) p0];simp [Op.equal,Op.maxDepth,q0 9999]
     .obtain ⟨D,rfl,_⟩:=hx;refine bh.of h (x:= .bool false) ?_ (by simp only [R]);simp only [Sem.run_bind,B,Result.andThen_ok];rw [sN (.inl trivial) (p1 _ _)];simp [Op.equal,Op.maxDepth,k 9999]
     .subst hx;refine bh.of h (x:= .bool false) ?_ (by simp only [R]);simp only [Sem.run_bind,z,Result.andThen_ok];rw [qE p0];simp [Op.equal,Op.maxDepth,q0 9999]
     .obtain ⟨D,rfl,_⟩:=hx;refine bh.of h (x:= .bool true) ?_ (by simp only [R]);simp only [Sem.run_bind,B,Result.andThen_ok];rw [qE (p1 _ _)];simp [Op.equal,Op.maxDepth,k 9999]
    .cases hp
   .cases j
  .cases j
 .exact HD hT hp hx hy h
end
end Go.VM
