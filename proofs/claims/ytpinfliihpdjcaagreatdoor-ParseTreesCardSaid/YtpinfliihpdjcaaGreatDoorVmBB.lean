/-
  A part of the proof.
-/
import Derived.Test.YtpinfliihpdjcaaGreatDoorVmBA
import Derived.Lib.Bytealg
set_option linter.all false
namespace Go.VM
section
variable {P:Program} {T:TT} {G:Nat->Option (List AV)} {A:Nat->Prop} {g:Gh} {st:St} {w:World}
def fm (P:Program) (T:TT) (G:Nat->Option (List AV)) (f:FuncId) (q:Prim):Prop:=
 ∀C args p v a st A g w xs,GR g G->gT q args= .ok p->az C st p= .ok (v,a)->RL g args xs->Inv T A g st w->pN P f xs.toArray w (ik T A g (a.did.app st) w v)
theorem Dd {prim:FuncId->Option Prim} (h: ∀f q,prim f=some q->fm P T G f q):wQ P T G prim:=h
theorem ik.same (h:Inv T A g st w) {v:AV} {x:Value} (a:R g v x):ik T A g st w v x w:=⟨g,a,h,Kp.refl _ _ _⟩
theorem qk (c:Nat): ∀s:List UInt8,(match cP (c % 256) s with | some i=>(i:Int) | none=> -1)=Lib.indexByte s (UInt8.ofNat c)
 | []=>rfl
 | b::l=>by
  have ih:=qk c l;unfold cP Lib.indexByte;have d:(b==UInt8.ofNat c)=b.toNat.beq (c % 256):=by
   rw [Bool.eq_iff_iff];simp only [OL,Nat.beq_eq];constructor
   .intro h;rw [h];simp
   .intro h;apply Pp.1;rw [h];simp
  rw [d];cases b.toNat.beq (c % 256) with
  | true=>rfl
  | false=>
   dsimp only;rw [if_neg (by simp)];cases hf:cP (c % 256) l with
   | none=>
    rw [hf] at ih;dsimp only at ih ⊢;rw [<- ih];rfl
   | some i=>
    have a:(i:Int)=Lib.indexByte l (UInt8.ofNat c):=by rw [hf] at ih;exact ih
    have hi:¬ ((Lib.indexByte l (UInt8.ofNat c)== -1)=true):=by
     rw [<- a];intro e;have:=eq_of_beq e;omega
    rw [if_neg hi, <- a];show ((i+1:Nat):Int)= _;omega
theorem qH {args:List AV} {p:cV} (h:gT .indexByte args= .ok p):
  ∃s c,args=[.str s,.int .u8 c]/\p= .val (.int .i64 (match cP (c.toNat % 256) s with | some i=>(i:Int) | none=> -1)):=by
 unfold gT at h;split at h <;> first | (simp only [NT] at h;subst h;exact ⟨_,_,rfl,rfl⟩) | simp_all
theorem MM {a b:AV} {xs:List Value} (h:RL g [a,b] xs): ∃x y,xs=[x,y]/\R g a x/\R g b y:=by
 simp only [RL] at h;obtain ⟨x,ys,rfl,h1,y,zs,rfl,c,rfl⟩:=h;exact ⟨x,y,rfl,h1,c⟩
theorem L5 {a:AV} {xs:List Value} (h:RL g [a] xs): ∃x,xs=[x]/\R g a x:=by
 simp only [RL] at h;obtain ⟨x,ys,rfl,h1,rfl⟩:=h;exact ⟨x,rfl,h1⟩
theorem rS {f:FuncId} (a: ∀(s:ByteArray) (c:Int) (w:World),(callFunc f #[.string s,.int .u8 c]).run P w= .ok (.value (.int .i64 (Lib.indexByte s.data.toList c.toNat.toUInt8))) w):fm P T G f .indexByte:=by
 intro C args p v j st A g w xs _ d e i h;obtain ⟨s,c,rfl,rfl⟩:=qH d;obtain ⟨rfl,rfl⟩:=mC e;obtain ⟨x,y,rfl,h1,b⟩:=MM i;simp only [R] at h1 b;subst h1 b;refine .inl ⟨_,_,a _ c w,ik.same h ?_⟩;simp only [R];rw [qk]
end
end Go.VM
