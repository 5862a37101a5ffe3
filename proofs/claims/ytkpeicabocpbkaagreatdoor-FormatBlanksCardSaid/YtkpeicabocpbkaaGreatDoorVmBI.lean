/-
  A part of the proof.
-/
import Derived.Test.YtkpeicabocpbkaaGreatDoorVmAA
import Derived.Shelf.Strings.IndexAnyAll
import Derived.Shelf.Small.Utf8
import Derived.Laws.Runes
import Derived.WalkMore
import Derived.Handy
import Derived.Shelf.RegionOpenPlain
set_option linter.all false
namespace Go.Proofs
open Go.Shelf Go.RowKit Go.Lib
variable {P:Program} {ρ:Ren}
theorem vA (b:UInt8):Lib.indexByte [] b= -1:=rfl
set_option maxHeartbeats 4000000 in
set_option maxRecDepth 1000000 in
theorem Any.Lh (L:Lays.n152 P ρ) (r:Int) (w:World) (h0:128<=r) (h1:r < 2048):
    Calls P (ρ.f 152) #[.string ⟨#[10,13]⟩,.int .i32 r] w fun e w'=>e= .returned (.int .i64 (-1))/\Below w.heap.size w w':=by
  have hE: ∃a b:UInt8,b≠13/\Utf8.encode r=⟨#[a,b]⟩:=by
    have j:Utf8.valid r=true:=by unfold Utf8.valid;simp;omega
    have k:¬ r.toNat < 0x80:=by omega
    have l:r.toNat < 0x800:=by omega
    refine ⟨UInt8.ofNat (0xC0+r.toNat / 64),UInt8.ofNat (0x80+r.toNat % 64), ?_, ?_⟩
    · intro h
      have:=aaY UInt8.toNat h;rw [UInt8.toNat_ofNat'] at this;have m:(13:UInt8).toNat=13:=rfl;omega
    · unfold Utf8.encode
      simp only [j,if_true,if_neg k,if_pos l]
  obtain ⟨a,b,n,hE⟩:=hE;have g:¬ (13:Int)=(b.toNat:Int):=fun h=>n (abE.1 (by show b.toNat=13;omega));have mixed:=L.mixed;have t3:=L.t3;have a3:=L.a3;have z3:=L.z3;have v3:=L.v3;have t4:=L.t4;have a4:=L.a4;have z4:=L.z4;have v4:=L.v4;have t5:=L.t5;have a5:=L.a5;have z5:=L.z5;have v5:=L.v5;have t9:=L.t9;have a9:=L.a9;have z9:=L.z9;have v9:=L.v9;have t21:=L.t21;have a21:=L.a21;have z21:=L.z21;have v21:=L.v21;have e137: ∀args w,(callFunc (ρ.f 137) args).run P w= .ok (.enter (ρ.f 137) args) w:=enters_of L.f137 (by kernel_rfl) rfl;have e119: ∀args w,(callFunc (ρ.f 119) args).run P w= .ok (.enter (ρ.f 119) args) w:=enters_of L.f119 (by kernel_rfl) rfl;have hval:Lib.validRune r=true:=by unfold Lib.validRune;exact abh (by omega)
  have hs21:(P.underlying (ρ.t 21)).isSome=true:=by rw [t21];rfl
  have o: ∀w,(convert (ρ.t 21) (ρ.t 9) (.int .i32 r)).run P w= .ok (.string ⟨#[a,b]⟩) w:=fun w=>by rw [run_convert_int_string w (ρ.t 21) (ρ.t 9) .i32 r hs21 t9,hE]
  go_enter L.f152,Body.n152_ntmps ρ
  go_wp2_with (first
    | (go_at_fn (ρ.f 119);refine (Any.utf8_ValidRune {L with} _ _).mono ?_;rintro e w' ⟨rfl,c⟩;rw [c,hval])
    | (go_at_fn (ρ.f 137);refine (Any.strings_IndexByte {L with} _ _ _).mono ?_;rintro e w' ⟨rfl,c⟩;rw [c]))
  go_step3
  go_wp2_with (first
    | (go_at_fn (ρ.f 119);refine (Any.utf8_ValidRune {L with} _ _).mono ?_;rintro e w' ⟨rfl,c⟩;rw [c,hval])
    | (go_at_fn (ρ.f 137);refine (Any.strings_IndexByte {L with} _ _ _).mono ?_;rintro e w' ⟨rfl,c⟩;rw [c]))
  refine wp_loop_rounds 1 ?_;rw [rounds_succ]
  go_wp2_with (first
    | (go_at_fn (ρ.f 119);refine (Any.utf8_ValidRune {L with} _ _).mono ?_;rintro e w' ⟨rfl,c⟩;rw [c,hval])
    | (go_at_fn (ρ.f 137);refine (Any.strings_IndexByte {L with} _ _ _).mono ?_;rintro e w' ⟨rfl,c⟩;rw [c]))
  go_step3
  go_step;go_step
  go_region_o
  go_wp2
  all_goals (first
    | (exfalso;have i:((13:Int) != (b.toNat:Int))=false:=by assumption
       exact g (by simpa using i))
    | skip)
  all_goals (go_region_with_o (first | (go_at_fn (ρ.f 137);refine (Any.strings_IndexByte {L with} _ _ _).mono ?_;rintro e w' ⟨rfl,c⟩;rw [c])))
  all_goals go_wp2
  all_goals (first | (simp only [Exit.noGoto_ret];go_ret;exact ⟨rfl,Below.drew (Below.drew (Below.refl _ _))⟩) | (go_simp;go_ret;exact ⟨rfl,Below.drew (Below.drew (Below.refl _ _))⟩) | (exfalso;have i:=vA b;omega))
set_option maxHeartbeats 4000000 in
set_option maxRecDepth 1000000 in
theorem Any.KG (L:Lays.n152 P ρ) (r:Int) (w:World) (h0:2048<=r) (h1:r<=1114111) (i:r < 55296\/57343 < r) (j:r≠65533):
    Calls P (ρ.f 152) #[.string ⟨#[10,13]⟩,.int .i32 r] w fun e w'=>e= .returned (.int .i64 (-1))/\w'=w:=by
  have hE:(∃a b c:UInt8,Utf8.encode r=⟨#[a,b,c]⟩)\/ ∃a b c d:UInt8,Utf8.encode r=⟨#[a,b,c,d]⟩:=by
    have i:Utf8.valid r=true:=by unfold Utf8.valid;simp;omega
    have k:¬ r.toNat < 0x80:=by omega
    have m:¬ r.toNat < 0x800:=by omega
    unfold Utf8.encode;simp only [i,if_true,if_neg k,if_neg m];split
    · exact .inl ⟨_,_,_,rfl⟩
    · exact .inr ⟨_,_,_,_,rfl⟩
  have mixed:=L.mixed;have t3:=L.t3;have a3:=L.a3;have z3:=L.z3;have v3:=L.v3;have t4:=L.t4;have a4:=L.a4;have z4:=L.z4;have v4:=L.v4;have t5:=L.t5;have a5:=L.a5;have z5:=L.z5;have v5:=L.v5;have t9:=L.t9;have a9:=L.a9;have z9:=L.z9;have v9:=L.v9;have t21:=L.t21;have a21:=L.a21;have z21:=L.z21;have v21:=L.v21;have e137: ∀args w,(callFunc (ρ.f 137) args).run P w= .ok (.enter (ρ.f 137) args) w:=enters_of L.f137 (by kernel_rfl) rfl;have e119: ∀args w,(callFunc (ρ.f 119) args).run P w= .ok (.enter (ρ.f 119) args) w:=enters_of L.f119 (by kernel_rfl) rfl;have hval:Lib.validRune r=true:=by unfold Lib.validRune;exact abh (by omega)
  have hs21:(P.underlying (ρ.t 21)).isSome=true:=by rw [t21];rfl
  have n:(r==65533)=false:=aai.2 j;rcases hE with ⟨a,b,c,hE⟩ | ⟨a,b,c,d,hE⟩
  · have g: ∀w,(convert (ρ.t 21) (ρ.t 9) (.int .i32 r)).run P w= .ok (.string ⟨#[a,b,c]⟩) w:=fun w=>by rw [run_convert_int_string w (ρ.t 21) (ρ.t 9) .i32 r hs21 t9,hE]
    go_enter L.f152,Body.n152_ntmps ρ
    go_wp2_with (first
      | (go_at_fn (ρ.f 119);refine (Any.utf8_ValidRune {L with} _ _).mono ?_;rintro e w' ⟨rfl,h⟩;rw [h,hval]))
    go_step3
    go_wp2;refine wp_loop_rounds 1 ?_;rw [rounds_succ];go_wp2
    all_goals (first | (simp only [Exit.noGoto_ret];go_ret;exact ⟨rfl,rfl⟩) | (go_simp;go_ret;exact ⟨rfl,rfl⟩))
  · have g: ∀w,(convert (ρ.t 21) (ρ.t 9) (.int .i32 r)).run P w= .ok (.string ⟨#[a,b,c,d]⟩) w:=fun w=>by rw [run_convert_int_string w (ρ.t 21) (ρ.t 9) .i32 r hs21 t9,hE]
    go_enter L.f152,Body.n152_ntmps ρ
    go_wp2_with (first
      | (go_at_fn (ρ.f 119);refine (Any.utf8_ValidRune {L with} _ _).mono ?_;rintro e w' ⟨rfl,h⟩;rw [h,hval]))
    go_step3
    go_wp2;refine wp_loop_rounds 1 ?_;rw [rounds_succ];go_wp2
    all_goals (first | (simp only [Exit.noGoto_ret];go_ret;exact ⟨rfl,rfl⟩) | (go_simp;go_ret;exact ⟨rfl,rfl⟩))
end Go.Proofs
