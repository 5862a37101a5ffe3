/-
  A part of the proof.
-/
import Derived.Test.YtkpeicabocpbkaaGreatDoorVmBF
set_option linter.all false
namespace Go.Ast
open Go.VM Go.Lex Go.Parse
def GK:LB->Bool
 | []=>true
 | [c]=>c != 92
 | c::d::l=>if c=92 then GK l else GK (d::l)
theorem Du: ∀(s:LB) (n:Nat),cL s=(7,n)-> ∃u,s.take n=u++[34]/\GK u=true
 | [],n,h=>by simp [cL] at h
 | [c],n,h=>by
  simp only [cL] at h;split at h
  .simp at h
  .split at h
   .rename_i h1;obtain rfl:1=n:=by simpa using h
    exact ⟨[],by simp [h1],rfl⟩
   .simp at h
 | c::d::l,n,h=>by
  simp only [cL] at h;split at h
  .simp at h
  .split at h
   .rename_i h1;obtain rfl:1=n:=by simpa using h
    exact ⟨[],by simp [h1],rfl⟩
   .split at h
    .rename_i h1;split at h
     .simp only [aag] at h;obtain ⟨u,b,e⟩:=Du l (cL l).2 (by rw [<- h.1]);refine ⟨c::d::u, ?_, ?_⟩
      .rw [<- h.2];simp [b]
      .simp only [GK,if_pos h1];exact e
     .simp at h
    .rename_i h1;simp only [aag] at h;obtain ⟨u,b,e⟩:=Du (d::l) (cL (d::l)).2 (by rw [<- h.1]);refine ⟨c::u, ?_, ?_⟩
     .rw [<- h.2];simp [b]
     .cases u with
      | nil=>simp [GK,h1]
      | cons a u=>
       simp only [GK,if_neg h1];exact e
def YN (t:aW):Prop:=t.2≠[]/\(t.1=7-> ∃u,t.2=34::u++[34]/\GK u=true)/\(t.1=8->t.2.length<=2)
theorem iW: ∀(l:LB),(cL l).1=7\/(cL l).1=9
 | []=> .inr rfl
 | [c]=>by
  simp only [cL];split
  .exact .inr rfl
  .split
   .exact .inl rfl
   .exact .inr rfl
 | c::d::l=>by
  simp only [cL];split
  .exact .inr rfl
  .split
   .exact .inl rfl
   .split
    .split
     .exact iW l
     .exact .inr rfl
    .exact iW (d::l)
theorem WZ (s:LB) (hs:s≠[]):(cut s).1=7-> ∃u,s.take (cut s).2=34::u++[34]/\GK u=true:=by
 cases s with
 | nil=>exact absurd rfl hs
 | cons c l=>
  intro h;simp only [cut] at h ⊢;by_cases h1:bw c=true
  .rw [if_pos h1] at h;cases h
  rw [if_neg h1] at h ⊢;by_cases b:(c::l).take 2=[40,42]
  .rw [if_pos b] at h;cases g:rem ((c::l).drop 2) 1 <;> rw [g] at h <;> cases h
  rw [if_neg b] at h ⊢;by_cases d:iP c=true
  .rw [if_pos d] at h;simp only [oc] at h;split at h
   .cases h
   .split at h <;> cases h
  rw [if_neg d] at h ⊢;by_cases h4:aC c=true
  .rw [if_pos h4] at h;simp only [number] at h;split at h
   .split at h <;> cases h
   .cases h
  rw [if_neg h4] at h ⊢;by_cases a:c=34
  .rw [if_pos a] at h ⊢;obtain ⟨u,i,j⟩:=Du l (cL l).2 (by rw [<- h]);exact ⟨u,by rw [a];simp [i],j⟩
  rw [if_neg a] at h ⊢;by_cases e:gG.contains ((c::l).take 2)=true
  .rw [if_pos e] at h;cases h
  rw [if_neg e] at h ⊢;by_cases f:jy c=true
  .rw [if_pos f] at h;cases h
  rw [if_neg f] at h;cases h
theorem Xg (s:LB):(cut s).1=8->(s.take (cut s).2).length<=2:=by
 cases s with
 | nil=>intro h;cases h
 | cons c l=>
  intro h;simp only [cut] at h ⊢;by_cases h1:bw c=true
  .rw [if_pos h1] at h;cases h
  rw [if_neg h1] at h ⊢;by_cases a:(c::l).take 2=[40,42]
  .rw [if_pos a] at h;cases g:rem ((c::l).drop 2) 1 <;> rw [g] at h <;> cases h
  rw [if_neg a] at h ⊢;by_cases b:iP c=true
  .rw [if_pos b] at h ⊢;simp only [oc] at h;split at h
   .rename_i i;rw [pT,i];decide
   .split at h <;> cases h
  rw [if_neg b] at h ⊢;by_cases h4:aC c=true
  .rw [if_pos h4] at h;simp only [number] at h;split at h
   .split at h <;> cases h
   .cases h
  rw [if_neg h4] at h ⊢;by_cases d:c=34
  .rw [if_pos d] at h;have: ∀l:LB,(cL l).1=7\/(cL l).1=9:=iW;have:=this l;simp only at h;omega
  rw [if_neg d] at h ⊢;by_cases e:gG.contains ((c::l).take 2)=true
  .rw [if_pos e,aat];omega
  rw [if_neg e] at h ⊢;by_cases f:jy c=true
  .rw [if_pos f,aat];omega
  rw [if_neg f] at h;cases h
theorem H4: ∀(n:Nat) (s:LB),∀t∈fE n s,YN t
 | 0,_,t,h=>by cases h
 | n+1,s,t,h=>by
  cases s with
  | nil=>simp [fE] at h
  | cons c l=>
   simp only [fE,aam] at h;rcases h with rfl | h
   .refine ⟨?_,WZ _ (by simp),Xg _⟩;have:=jF (s:=c::l) (by simp);intro e;have a:=aaY List.length e;rw [aat,aae] at a;omega
   .exact H4 n _ t h
end Go.Ast
namespace Go.Parse
open Go.VM Go.Lex
theorem RZ (B:LB): ∀r:List aW,nb (r.map (GL B))=nb r
 | []=>rfl
 | t::r=>by
  rw [aal,iY,iY,RZ B r];have h:GL B t=if t.1=1 then (1,B) else t:=rfl
  rw [h];by_cases h1:t.1=1
  .rw [if_pos h1,if_pos h1,if_pos rfl]
  .rw [if_neg h1,if_neg h1]
theorem LH {s B:LB} (hs:bH s=true) (a:B≠[]) (b:wh bw B=B.length) (c:bH B=true) (d:bZ (doc (tokens s))=true):
  bH (Db B (doc (tokens s)))=true/\nb (tokens (Db B (doc (tokens s))))=nb (tokens s):=by
 obtain ⟨h1,e⟩:=BW a b c s.length s (aah _) hs (Oa s (EM _ _ (abt _) d));rw [Nc,h1];exact ⟨e,RZ B _⟩
def mU:Nat->LB
 | 0=>[32]
 | 1=>[10]
 | 2=>[9,32,13,10]
 | _=>[32,32,32,32]
theorem Ca (n:Nat):mU n≠[]/\wh bw (mU n)=(mU n).length/\bH (mU n)=true/\(mU n).length<=4:=by
 match n with
 | 0=>decide
 | 1=>decide
 | 2=>decide
 | n+3=>
  have h:([32,32,32,32]:LB)≠[]/\wh bw [32,32,32,32]=([32,32,32,32]:LB).length/\bH [32,32,32,32]=true/\([32,32,32,32]:LB).length<=4:=by decide
  exact h
theorem zO (B:LB) (a:B.length<=4): ∀r:List aW,(eE B r).length<=4 * r.length+(cB r).length
 | []=>aah _
 | t::r=>by
  have:=zO B a r;rw [jr,Parse.nr,aaa,aaa,aab];have h:(GL B t).2.length<=4+t.2.length:=by
   unfold GL;split
   .show B.length<= _;omega
   .omega
  omega
theorem Hp (s:LB) (n:Nat):(Db (mU n) (doc (tokens s))).length<=5 * s.length:=by
 rw [Nc];have h1:=zO (mU n) (Ca n).2.2.2 (tokens s);rw [jB] at h1;have:=rq s;omega
end Go.Parse
