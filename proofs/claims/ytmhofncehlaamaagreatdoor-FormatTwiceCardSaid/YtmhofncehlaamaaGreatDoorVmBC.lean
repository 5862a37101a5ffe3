/-
  (A part of the proof: Laid.)
-/
import Derived.Test.YtmhofncehlaamaaGreatDoorVmAA
import Derived.Test.YtmhofncehlaamaaGreatDoorVmBB
import Derived.Lib.LaidU8
import Derived.MakeChecks
set_option linter.unusedSimpArgs false
namespace Go.VM
open Go.Lib Go.MakeChecks
theorem G1 {P:Program} {w:World} {name:String} {k:IntKind} {zs:List Int} {g:Nat} {t e:TypeId} {n:Nat} (hg:P.globalNamed name=some g) (hty:(P.globals[g]?).map (·.type)=some t)
  (ht:P.underlying t=some (.array n e)) (he:P.underlying e=some (.int k)) (hce:P.cellsOf e=1) (hct:P.cellsOf t=n) (h:VarReads P w name (tabData k zs)) {cs:List AV} (hcs:cs=zs.map (AV.int k)):
  ∀o v,cs[o]? =some v→w.cell? ⟨g,o,none⟩=some (rY v):=by
 subst hcs;intro o v hv;obtain ⟨g',t',cs,fuel,p,hg',hty',hvar,hd⟩:=h;obtain rfl:=WA (hg.symm.trans hg');obtain rfl:=WA (hty.symm.trans hty');have hcs:=cells_of_tab ht he hce hct hd;rw [World.var?_cell hg hvar o, ← Wm,hcs];simp only [Wa,VO] at hv ⊢;obtain ⟨z,hz,rfl⟩:=hv;exact ⟨z,hz,rfl⟩
theorem GD {α:Type} {m:Nat}: ∀{zss:List (List α)} {o:Nat} {v:α},(∀zs∈zss,zs.length=m)→0 < m→zss.flatten[o]? =some v→ ∃zs,zss[o / m]? =some zs∧zs[o % m]? =some v
 | [],o,v,_,_,h=>by simp at h
 | zs::zss,o,v,hl,hm,h=>by
  have hzs:zs.length=m:=hl zs Vp;by_cases ho:o < m
  ·refine ⟨zs,by rw [Nat.div_eq_of_lt ho];rfl, ?_⟩;rw [Nat.mod_eq_of_lt ho];rw [List.flatten_cons,VU (by omega)] at h;exact h
  ·rw [List.flatten_cons,V5 (by omega),hzs] at h;obtain ⟨ys,h1,h2⟩:=GD (fun z hz=>hl z (Vy _ hz)) hm h;have e:o / m=(o - m) / m+1:=by
    rw [Nat.div_eq o m,if_pos ⟨hm,by omega⟩]
   have e2:o % m=(o - m) % m:=Nat.mod_eq_sub_mod (by omega);exact ⟨ys,by rw [e];simpa using h1,by rw [e2];exact h2⟩
theorem Di {P:Program} {w:World} {name:String} {k:IntKind} {zss:List (List Int)} {g:Nat} {t e:TypeId} {n:Nat} {fs:Array Field} (hg:P.globalNamed name=some g) (hty:(P.globals[g]?).map (·.type)=some t)
  (ht:P.underlying t=some (.array n e)) (he:P.underlying e=some (.struct fs))
  (hf: ∀(i:Nat) (f:Field),fs[i]? =some f→P.underlying f.type=some (.int k)∧f.offset=i∧P.cellsOf f.type=1) (hce:P.cellsOf e=fs.size) (hn:zss.length=n) (hpos:0 < fs.size) (hlen: ∀zs∈zss,zs.length=fs.size)
  (h:VarReads P w name (.agg (zss.map fun zs=> .agg (zs.map fun z=> .lit (.int k z))))) {cs:List AV} (hcs:cs=zss.flatten.map (AV.int k)):
  ∀o v,cs[o]? =some v→w.cell? ⟨g,o,none⟩=some (rY v):=by
 subst hcs;intro o v hv;obtain ⟨g',t',cs,fuel,p,hg',hty',hvar,hd⟩:=h;obtain rfl:=WA (hg.symm.trans hg');obtain rfl:=WA (hty.symm.trans hty');simp only [Wa,VO] at hv;obtain ⟨z,hz,rfl⟩:=hv;obtain ⟨zs,h1,h2⟩:=GD hlen hpos hz;have hi:o / fs.size < n:=by
  rcases Nat.lt_or_ge (o / fs.size) zss.length with q | q
  ·omega
  ·rw [VW q] at h1;cases h1
 obtain ⟨fuel',d,q,hdi,he'⟩:=array_elem ht hd (o / fs.size) hi;simp only [Wa,h1,Option.map_some,Vt] at hdi;subst hdi;rw [hce] at he';have hcs:=ints_of_struct he hf hce he';have:=Wb (·[o % fs.size]?) hcs;simp only [List.getElem?_take,WI,Wa,h2,Option.map_some] at this;rw [if_pos (Nat.mod_lt _ hpos)] at this;rw [World.var?_cell hg hvar o, ← Wm];have e:o / fs.size * fs.size+o % fs.size=o:=by rw [Nat.mul_comm];exact Nat.div_add_mod o fs.size
 rw [e] at this;simpa [rY] using this
theorem tI {P:Program} {w:World} {l:List (String×DataW Unit)} (h:laidMetH P l w) (hp:(l.all fun x=>x.2.handleName?.isNone)=true) {n:String} {d:DataW Unit} (hm:(n,d)∈l):VarReads P w n d:=by
 rw [laidMetH_plain P l w hp] at h;exact Go.Lib.laidMet.reads h hm
end Go.VM
