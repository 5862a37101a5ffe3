/-
  (A part of the proof: Ops5.)
-/
import Derived.Test.YtgecmbapkplklaaGreatDoorVmAA
import Derived.Test.YtgecmbapkplklaaGreatDoorVmAE
import Derived.Laws.IdiomStrings
set_option linter.unusedSimpArgs false
namespace Go.VM
section
variable {P:Program} {T:TT} {A:Nat->Prop} {g:Gh} {st:St} {w:World}
theorem FV {op:UnOp} {a v:AV} {x:Value} (hp:unOp op a= .ok v) (hx:R g a x) (h:Inv T A g st w):bl P T A g w v st (Op.unary op x):=by
 unfold unOp at hp;split at hp
 .simp only [WT] at hp;subst hp;simp only [R] at hx;subst hx;exact bl.of h (by simp only [Op.unary,Op.intArith];rfl) (by simp only [R])
 .simp only [WT] at hp;subst hp;simp only [R] at hx;subst hx;exact bl.of h (by simp only [Op.unary];rfl) (by simp only [R])
 .simp only [WT] at hp;subst hp;simp only [R] at hx;subst hx;exact bl.of h (by simp only [Op.unary,Op.intBits];rfl) (by simp only [R])
 .cases hp
theorem sW {e:AV} {es:List AV} {bs:List UInt8} (h:bytesOf (e::es)= .ok bs): ∃n a,e= .int .u8 n/\bytesOf es= .ok a/\bs=UInt8.ofNat n.toNat::a:=by
 unfold bytesOf at h;split at h
 .rename_i heq;cases heq
 .rename_i n l heq;cases heq;simp only [ag,au] at h;obtain ⟨a,h1,rfl⟩:=h;exact ⟨n,a,rfl,h1,rfl⟩
 .cases h
theorem tN: ∀{es:List AV} {bs:List UInt8} {xs:List Value},bytesOf es= .ok bs->RL g es xs-> ∃a:List Int,xs=a.map (Value.int .u8)/\bs=a.map fun n=>UInt8.ofNat n.toNat
 | [],_,_,h,hr=>by
  simp only [bytesOf,WT] at h;subst h;simp only [RL] at hr;subst hr;exact ⟨[],rfl,rfl⟩
 | e::es,bs,xs,h,hr=>by
  simp only [RL] at hr;obtain ⟨x,xs,rfl,h1,h2⟩:=hr;obtain ⟨n,b,rfl,h3,rfl⟩:=sW h;obtain ⟨a,rfl,rfl⟩:=tN h3 h2;simp only [R] at h1;subst h1;exact ⟨n::a,rfl,rfl⟩
theorem fold_push (a:List Int): ∀s:ByteArray,a.foldl (fun r n=>r.push (UInt8.ofNat n.toNat)) s=⟨(s.data.toList++a.map fun n=>UInt8.ofNat n.toNat).toArray⟩:=by
 induction a with
 | nil=>intro s;simp
 | cons n a ih=>
  intro s;rw [YJ,ih];simp [ByteArray.push]
theorem Ao {b o len cap:Nat} {es:List AV} {bs:List UInt8} {xs:List Value} (hb:bytesOf es= .ok bs) (hr:RL g es xs) (hm: ∀k x,xs[k]? =some x->w.cell? ⟨b,o+k,none⟩=some x) (hl:xs.length=len):
  (Conv.bytesToString (.slice (some ⟨b,o,none⟩) len cap)).run P w= .ok (.string ⟨bs.toArray⟩) w:=by
 obtain ⟨c,rfl,rfl⟩:=tN hb hr;have a:=run_loadCells_list (P:=P) w ⟨b,o,none⟩ (c.map (Value.int .u8)) (fun j x hx=>by rw [Addr.eY];exact hm j x hx);rw [hl] at a;rw [run_bytesToString w _ len cap c a,fold_push];simp
theorem ta: ∀{es:List AV} {bs:List UInt8},bytesOf es= .ok bs->flat es=es
 | [],_,_=>rfl
 | e::es,bs,h=>by
  obtain ⟨n,a,rfl,h3,rfl⟩:=sW h;rw [gL,ta h3];rfl
theorem AK {u:U} (h:isByte u=true):u= .int .u8:=by
 cases u <;> simp [isByte] at h
 rename_i k;cases k <;> simp_all
theorem zV (hT:wW P T) {C:df} {s d:TypeId} {a v:AV} {x:Value} {p:dG} {L:Fx} (hp:tm T s d a= .ok p) (hrun:aC C st p= .ok (v,L)) (hx:R g a x) (h:Inv T A g st w):
  bl P T A g w v (L.did.app st) (Go.convert s d x):=by
 simp only [tm,ag] at hp;obtain ⟨i,h1,j,h2,h3⟩:=hp;have hi:=hT s i (cB.1 h1);have hj:=hT d j (cB.1 h2);obtain ⟨ds,q1,q2,_⟩:=hi.und;split at h3
 .rename_i k _ n hu;simp only [au] at h3;subst h3;simp only [aC,WT,WV] at hrun;obtain ⟨rfl,rfl⟩:=hrun;simp only [R] at hx;subst hx;refine bl.of h (x:= .int k (k.wrap n)) ?_ (by simp only [R]);simp [Go.convert,gd q1,Nb hj hu,Conv.intToInt]
 .rename_i s' hu;simp only [au] at h3;subst h3;simp only [aC,WT,WV] at hrun;obtain ⟨rfl,rfl⟩:=hrun;simp only [R] at hx;subst hx;refine bl.of h (x:= .string ⟨s'.toArray⟩) ?_ (by simp only [R]);simp [Go.convert,gd q1,sU hj hu]
 .rename_i e y B _;simp only [ag] at h3;obtain ⟨el,h4,f⟩:=h3;have D:=hT e el (cB.1 h4);split at f
  .cases f
  .rename_i m;have m:=AK m;obtain ⟨M,J,E,_⟩:=D.und;rw [m] at E;simp only [xR] at E;subst E;rw [y] at q2;simp only [xR] at q2;subst q2;obtain ⟨dd,d1,d2,_⟩:=hj.und;rw [B] at d2;simp only [xR] at d2;subst d2;have conv:=fun a l c=>run_convert_bytes_string (P:=P) w s d e a l c q1 J d1;split at f
   .simp only [au] at f;subst f;simp only [aC,WT,WV] at hrun;obtain ⟨rfl,rfl⟩:=hrun;simp only [R] at hx;subst hx;refine bl.of h (x:= .string ⟨#[]⟩) ?_ (by simp only [R]);rw [conv];rfl
   .simp only [ag,au] at f;obtain ⟨bs,H,rfl⟩:=f;simp only [aC,WT,WV] at hrun;obtain ⟨rfl,rfl⟩:=hrun;simp only [R] at hx;obtain ⟨_,b,o,cap,rfl,_,hz,hr,_⟩:=hx;rw [dL,ta H] at hr;obtain ⟨xs,k1,k2⟩:=iF hr.2;refine bl.of h (x:= .string ⟨bs.toArray⟩) ?_ (by simp only [R]);rw [conv];exact Ao H k1 (fun k x hx=>h.F _ _ _ (k2 k x hx).1) (dB k1)
   .rename_i id off z len cap _;simp only [au] at f;subst f;simp only [iN,aC,ag,au] at hrun;obtain ⟨o,h1,⟨v',o'⟩,⟨N,⟨cs,h2,h3⟩,I⟩,dd,f,H⟩:=hrun;rw [oH] at h2;obtain ⟨ty,rfl⟩:=h2;split at h3
    .rename_i hle;have hle:=WU hle;simp only [ag,au] at h3;obtain ⟨bs,O,rfl⟩:=h3;simp only [WV] at I H;obtain ⟨rfl,rfl⟩:=I;simp only [eG,WT] at f;subst f;obtain ⟨rfl,rfl⟩:=H;simp only [R] at hx;obtain ⟨b,o,hE,V,rfl,hc,Q,ho,_⟩:=hx;obtain ⟨b',vs,rest,S,k1,k2,U,W,X,k6⟩:=h.cells h1;have hb:b'=b:=by have:=k1.symm.trans hE;simpa using this
     subst hb;have t:=mR len (iP off U);refine bl.of h (x:= .string ⟨bs.toArray⟩) ?_ (by simp only [R]);rw [conv];refine Ao O t (fun k x hx=> ?_) (by rw [dB t];simp;simp at hle;omega);have hk:k < len:=by
      rcases Nat.lt_or_ge k len with q | q
      .exact q
      .rw [Xu (by simp;omega)] at hx;cases hx
     rw [ho (by omega)];rw [List.getElem?_take,if_pos hk,X6] at hx;exact kB k2 (by simpa using hx)
    .cases h3
   .cases f
 .rename_i e s' y B;simp only [ag] at h3;obtain ⟨el,h4,f⟩:=h3;have D:=hT e el (cB.1 h4);split at f
  .cases f
  .rename_i m;have m:=AK m;obtain ⟨M,J,E,_⟩:=D.und;rw [m] at E;simp only [xR] at E;subst E;obtain ⟨dd,d1,d2,_⟩:=hj.und;rw [B] at d2;simp only [xR] at d2;subst d2;rw [y] at q2;simp only [xR] at q2;subst q2;simp only [au] at f;subst f;simp only [aC,WT,WV] at hrun;obtain ⟨rfl,rfl⟩:=hrun;simp only [R] at hx;subst hx;have hrun:=run_bytes_of_string (P:=P) w s d e ⟨s'.toArray⟩ q1 d1 J;have r:s'.length<=grownCap w s'.length 0 e:=grownCap_ge w _ _ _;have u:(ByteArray.mk s'.toArray).size=s'.length:=by simp [ByteArray.size]
   rw [u] at hrun;have G: ∀o,0<=o->o < 0+(s'.map fun b=>Value.int .u8 (b.toNat:Int)).length->g.F w.heap.size o=none:=fun o _ _=>h.lh (WW _) o;have t:RL g (ofBytes s') (s'.map fun b=>Value.int .u8 (b.toNat:Int)):=by
    clear hrun r u G
    induction s' with
    | nil=>rfl
    | cons b l ih=>exact ⟨_,_,rfl,by simp only [R],ih⟩
   refine ⟨_,g.cP w.heap.size 0 (s'.map fun b=>Value.int .u8 (b.toNat:Int)),_,hrun, ?_, ?_, ?_⟩
   .simp only [R];refine ⟨?_,w.heap.size,0,_,by rw [show (ofBytes s').length=s'.length from Xn _], ?_,WW _, ?_,trivial⟩
    .clear hrun r u G t
     induction s' with
     | nil=>rfl
     | cons b l ih=>exact ih
    .rw [show (ofBytes s').length=s'.length from Xn _];exact r
    .rw [dL];refine ⟨fun v hv=> ?_, ?_⟩
     .obtain ⟨b,_,rfl⟩:=XY.1 hv;rfl
     .have K:flat (ofBytes s')=ofBytes s':=by
       clear hrun r u G t
       induction s' with
       | nil=>rfl
       | cons b l ih=>show AV.int .u8 _::flat (ofBytes l)= _;rw [ih];rfl
      rw [K];exact dv (eA (Le.cP G) _ _ t) fun k x hx=>⟨Gh.kg g _ 0 _ k x hx,by obtain ⟨b,_,rfl⟩:=XY.1 (Xo hx);rfl⟩
   .refine (h.drew.alloc _).cP _ 0 _ G (fun i v hv=> ?_) fun id o ho=>h.ib (WW _) id o ho;have hb:(w.drew.alloc (.cells (bytesRow ⟨s'.toArray⟩ (grownCap w s'.length 0 e)) e ((bytesRow ⟨s'.toArray⟩ (grownCap w s'.length 0 e)).size,(bytesRow ⟨s'.toArray⟩ (grownCap w s'.length 0 e)).size+1))).heap[w.heap.size]? = _:=World.heap_alloc_new (w:=w.drew);rw [cell_of hb];rw [Xd];have hi:i < s'.length:=by
     rcases Nat.lt_or_ge i s'.length with q | q
     .exact q
     .rw [Xu (by simpa using q)] at hv;cases hv
    rw [<- hv];simp only [bytesRow];rw [Array.getElem?_append_left (by simpa using hi)];simp
   .exact ((Kp.drew A g w).trans (Kp.alloc _ h.drew)).trans (Kp.cP (h.up _ (WW _)) G)
 .cases h3
theorem E8 {lower:Bool} {a b v:AV} {x y:Value} (hp:min2 lower a b= .ok v) (hx:R g a x) (hy:R g b y):
  ∃z,(if lower then Builtin.min2 x y else Builtin.max2 x y).run P w= .ok z w/\R g v z:=by
 cases a <;> cases b <;> simp only [min2] at hp <;> (try (cases hp;done))
 simp only [WT] at hp;subst hp;simp only [R] at hx hy;subst hx hy;cases lower
 .exact ⟨_,by simp only [Xw,if_false,Builtin.max2];rfl,by simp only [R]⟩
 .exact ⟨_,by simp only [if_true,Builtin.min2];rfl,by simp only [R]⟩
end
end Go.VM
