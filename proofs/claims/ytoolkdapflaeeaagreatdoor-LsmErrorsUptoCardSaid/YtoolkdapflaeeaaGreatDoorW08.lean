/- Helpers. -/
import Derived.Test.YtoolkdapflaeeaaGreatDoorW07
set_option maxRecDepth 100000
set_option maxHeartbeats 16000000
set_option linter.unusedSimpArgs false
open Go
variable {B ha aU tb : Nat} {N : Nat → Prop} {ds : List Int} {dv v : Value} {w : World}
namespace Go.Proofs.YtoolkdapflaeeaaGreatDoor
open Go.RowKit Go.Gl Go.aF Mn
theorem ays (k:Int):∃ h:Nat,1≤h∧h≤12∧IntKind.i64.wrap (1+(max k 0).tmod 12)=(h:Int):=by
 have h0:0≤(max k 0):=by omega
 generalize (max k 0)=m at*;have h1:=Int.tmod_nonneg 12 h0;have h2:=Int.tmod_lt_of_pos m (b:=12) (by omega);refine ⟨(1+m.tmod 12).toNat,by omega,by omega,?_⟩;rw [aS _ (by omega)];omega
theorem ayt {ns:List Nd} (h:dQ N w tb ha ns aU dv ds):
  Calls Tryz.prog 129 #[au tb] w fun e w'=>(∃ k:Nat,1≤k∧k≤12∧e= .returned (.int .i64 (k:Int)))∧Grow w w':=by
 have hb:=h.self;obtain ⟨da,dc,rfl,hlen,hd⟩:=h.draws;obtain ⟨c7,c8,lb⟩:w.cell? ⟨tb,7,none⟩=some (.int .i64 (ns.length:Int))∧w.cell? ⟨tb,8,none⟩=some (.slice da ds.length dc)∧tb<w.heap.size:=⟨by simp [World.cell?,hb],by simp [World.cell?,hb],af hb⟩
 clear hb h;cases sg:ds with
 |nil=>
  subst sg;clear hd;go_enter Tryz.func129,Tryz.ntmps129;go_wp2;go_ret;exact ⟨⟨1,by omega,by omega,rfl⟩,aV _⟩
 |cons d0 dr=>
  have hne:¬ ds= []:=by rw [sg];simp
  clear sg;obtain ⟨b,o,rfl,hN,lt,hc⟩:∃ b o,da=some ⟨b,o,none⟩∧N b∧b<w.heap.size∧∀ (j:Nat) (k:Int),ds[j]?=some k→w.cell? ⟨b,o+j,none⟩=some (.int .i64 k):=hd.resolve_left hne
  have Ai:0<ds.length:=List.length_pos_iff.2 hne;have hi:=Nat.mod_lt ns.length Ai;obtain ⟨k,hk⟩:∃ k,ds[ns.length%ds.length]?=some k:=⟨_,dZ hi⟩
  have ck:=hc _ _ hk;have Fu:(ns.length:Int).tmod (ds.length:Int)=((ns.length%ds.length:Nat):Int):=(Int.ofNat_tmod _ _).symm;obtain ⟨h,h1,h2,h3⟩:=ays k;have e0:((ds.length:Int)==0)=false:=by simp;exact hne
  generalize ns.length%ds.length=i at*;have hi':(i:Int)<(ds.length:Int):=by omega
  have bO:(0:Int)≤(i:Int):=by omega
  have Hk:=ae (ag h1 h2);clear hc hk hd h1 h2 hi;go_enter Tryz.func129,Tryz.ntmps129
  go_upto_region 3 with fail
  have aQ:=Grow.cells (w:=w);refine dz (fun V=>Below w.heap.size w V) [] (by kernel_rfl) (bK fun _ _ _ _ _ h=>h) (by ((repeat (first|exact bS _ _|assumption|refine cz ?_|refine cA ?_|refine cj ?_ ?_ _|refine cy ?_ ?_ _))<;>try (first|omega|(simp<;>omega)))) ?_;simp only [cF]
  repeat ((first|(refine aA (v:= ?_) (by rfl) ?_ ?_;rotate_left;rintro W hW;go_simp;with_reducible rfl)|refine aB (by rfl) ?_);simp only [ai,List.set])
  refine bj ?_;go_wp2;go_ret;exact ⟨⟨h,Hk.out.1,Hk.out.2,rfl⟩,az _⟩
theorem Iw.src {l:List Int} (h:Iw N w v l):Src Tryz.prog 1 24 v l.length (l.map (fun x=> .int .i64 x)) w:=by
 obtain ⟨a,c,rfl,hlen,h⟩:=h;cases a with
 |none=>
  have:l= []:=by
   rcases h with h|⟨b,o,h,_⟩
   ·exact h
   ·cases h
  subst this;exact Src.ofNil w Tryz.underlying24 c
 |some a=>
  refine Src.ofSlice w Tryz.underlying24 a l.length c _ (by simp) (fun j u hu=> ?_) (fun u hu=> ?_)
  ·rw [gZ] at hu
   cases hx:l[j]? with
   |none=>rw [hx] at hu;cases hu
   |some x=>
    rw [hx] at hu;cases hu;rcases h with rfl|⟨b,o,e,_,_,hc⟩
    ·cases hx
    ·cases e
     rw [Addr.add_lit];exact hc j x hx
  ·obtain ⟨x,_,rfl⟩:=aZ.1 hu
   rfl
theorem Lb {l:List Int} (h:Go.Gl.Row1 3 B w v (l.map (fun x=> .int .i64 x))) (hl:l.length≤1000000000) (hN:∀ g,v.ownBlock=some g→N g):Iw N w v l:=by
 have h':=h;rcases h with ⟨rfl,h0⟩|⟨g,cap,cur,rfl,hB,hg,hn,hc,hm,ht⟩
 ·have:l= []:=List.map_eq_nil_iff.1 h0
  subst this;exact ⟨none,0,rfl,by simp,.inl rfl⟩
 ·refine ⟨some ⟨g,0,none⟩,cap,by rw [bF],hl,.inr ⟨g,0,rfl,hN g rfl,af hg,fun j k hk=> ?_⟩⟩
  rw [Nat.zero_add];exact h'.cells rfl (by simp [hk])
theorem agQ {l:List Int} (h:Iw N w v l):
  Calls Tryz.prog 49 #[v] w fun e w'=>∃ v',e= .returned v'∧Go.Gl.Row1 3 w.heap.size w' v' (l.map (fun x=> .int .i64 x))∧Grow w w':=by
 have ah:Grow w (w.alloc (.cells #[] 3)):=ar _ _;have hrow:Go.Gl.Row1 3 w.heap.size (w.alloc (.cells #[] 3)) (.slice (some ⟨w.heap.size,0,none⟩) 0 0) []:= .inr ⟨w.heap.size,0,#[],rfl,aw _,ax _ _,aw _,aw _,aY _,rfl⟩;have hlen:l.length≤1000000000:=by obtain ⟨_,_,_,h,_⟩:=h;exact h
 obtain ⟨v',w',h1,h2,h3,_⟩:=yb (ty:=24) Tryz.underlying24 Tryz.Oe rfl hrow (h.kp (.bT ah)).src (by simp) (by simp;unfold maxLen;omega) (by simp;omega);have hgr:Grow w w':=Go.Gl.below_grown ah (by simp) hrow h3;have cW:=ae h1;have gP:=ae h2;have fW:=ae hgr;obtain ⟨a,c,rfl,_,hd⟩:=h;have h0:= @Lib.run_eql_slice_nil Tryz.prog;cases a with
 |none=>
  have:l= []:=by
   rcases hd with h|⟨b,o,h,_⟩
   ·exact h
   ·cases h
  subst this;clear h1 h2 h3 hgr hrow ah hd;go_enter Tryz.func49,Tryz.ntmps49;go_wp2;go_ret;exact ⟨_,rfl,nO _ _ _,aV _⟩
 |some a=>
  clear h1 h2 h3 hgr hrow ah hd;go_enter Tryz.func49,Tryz.ntmps49
  go_wp2_with (at_builtin;refine fI rfl rfl rfl rfl cW.out ?_)
  go_ret;exact ⟨_,rfl,gP.out,fW.out⟩
end Go.Proofs.YtoolkdapflaeeaaGreatDoor
