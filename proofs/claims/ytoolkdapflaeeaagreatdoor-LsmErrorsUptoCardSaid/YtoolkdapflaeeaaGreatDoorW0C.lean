/- Helpers. -/
import Derived.MapKept
import Derived.Test.YtoolkdapflaeeaaGreatDoorW0B
import Derived.Test.YtoolkdapflaeeaaGreatDoorW0A
import Derived.Test.YtoolkdapflaeeaaGreatDoorW09
import Derived.Test.YtoolkdapflaeeaaGreatDoorW06
import Derived.Deep.CutRange
import Derived.Deep.DeepCutAuto
import Derived.Test.YtoolkdapflaeeaaGreatDoorW05
set_option maxRecDepth 100000
set_option maxHeartbeats 16000000
set_option linter.unusedSimpArgs false
open Go
variable {B B' K T Z a db g ha aU hm i mb n p q r rb sb seq tb tm : Nat} {F M N : Nat → Prop} {W W' w w' w0 : World} {bv dv lv pv tv u v z : Value} {cs : Array Value} {ds : List Int} {et kt t ty : TypeId} {fz : Nat × Nat} {l : List UInt8} {o : Obj} {xs : List Value}
namespace Go.Proofs.YtoolkdapflaeeaaGreatDoor
open Go.RowKit Go.Gl Go.aF Mn
open Go.MapKept (run_checkKey run_findKey IsKey)
section
theorem Yk (kd:IntKind) (k:Int):∀ (l:List (aG Int)) (i:Nat),Instr.findNow (.int kd) (.int kd k) (l.map (aG.raw (Value.int kd))) i=some (mi k l i)
 | [],_=>rfl
 |e::es,i=>by
  simp only [cg,Instr.findNow,aG.raw,Instr.sameNow,mi];by_cases h:k=e.key
  ·simp [h]
  ·have hb:(k==e.key)=false:=by simpa using h
   rw [hb,if_neg h];exact Yk kd k es (i+1)
theorem Yl:vT (κ:=Int) Tryz.prog 3 (Value.int .i64) where
 check:=fun b k w=>run_checkKey Tryz.underlying3 (by simp [IsKey]) b 9999
 same:=fun k=>by simp [Instr.sameBits]
 find:=fun k l w=>run_findKey Tryz.underlying3 (Yk .i64 k l 0)
theorem Im:vT (κ:=Int) Tryz.prog 37 (Value.int .u64) where
 check:=fun b k w=>run_checkKey Tryz.underlying37 (by simp [IsKey]) b 9999
 same:=fun k=>by simp [Instr.sameBits]
 find:=fun k l w=>run_findKey Tryz.underlying37 (Yk .u64 k l 0)
def fj {κ:Type} [DecidableEq κ] (w:World) (r:Nat) (enc:κ→Value) (g:κ→Option Value) (m:Nat):Prop:=
 ∃ (l:List (aG κ)) (c:Nat),Go.Gl.MapAt w r enc l c∧(l.map aG.key).Nodup∧(∀ e∈l,e.born<c)∧(l.map aG.born).Nodup∧l.length≤m∧∀ k,(l.find? (fun e=>decide (k=e.key))).map aG.val=g k
def lX {κ:Type} [DecidableEq κ] (g:κ→Option Value) (k:κ) (v:Value):κ→Option Value:=fun j=>if j=k then some v else g j
def Mc {κ:Type} [DecidableEq κ] (g:κ→Option Value) (k:κ):κ→Option Value:=fun j=>if j=k then none else g j
section
variable {κ:Type} [DecidableEq κ] {w w':World} {r:Nat} {enc:κ→Value} {g:κ→Option Value} {m:Nat}
theorem fj.keep (h:fj w r enc g m) (hk:w'.heap[r]?=w.heap[r]?):fj w' r enc g m:=by
 obtain ⟨l,c,h1,h2⟩:=h;exact ⟨l,c,hk.trans h1,h2⟩
theorem fj.lt (h:fj w r enc g m):r<w.heap.size:=by obtain ⟨l,c,h1,_⟩:=h;exact af h1
theorem fj.grow (h:fj w r enc g m) (hg:Grow w w'):fj w' r enc g m:=h.keep (hg.block r h.lt)
theorem ajJ (w:World) (enc:κ→Value):fj (w.alloc (.map #[] 0)) w.heap.size enc (fun _=>none) 0:=
 ⟨[],0,ax _ _,List.nodup_nil,(fun e h=>by cases h),List.nodup_nil,aw _,fun _=>rfl⟩
theorem Md (K:vT Tryz.prog kt enc) (ht:Tryz.prog.underlying t=some (.map kt et)) (hz:(zeroValue et).run Tryz.prog w= .ok z w) (h:fj w r enc g m) (k:κ):
  (Instr.lookup t (.map (some r)) (enc k) false).run Tryz.prog w= .ok ((g k).getD z) w:=by
 obtain ⟨l,c,h1,h2,h3,h4,h5,h6⟩:=h;rw [abC K ht hz h1 k,←h6 k];rfl
theorem Ym {o0:Obj} (_hr:w.heap[r]?=some o0):GX r w (cV w r o):=
 ⟨rfl,rfl,rfl,by simp [cV],fun b _ hb=>xW (fun e=>hb (by rw [e]))⟩
theorem Yn (K:vT Tryz.prog kt enc) (ht:Tryz.prog.underlying t=some (.map kt et)) (h:fj w r enc g m) (k:κ) (v:Value):
  ∃ w',(Instr.mapUpdate t (.map (some r)) (enc k) v).run Tryz.prog w= .ok () w'∧fj w' r enc (lX g k v) (m+1)∧GX r w w':=by
 obtain ⟨l,c,h1,h2,h3,h4,h5,h6⟩:=h;by_cases hk:∃ e∈l,k=e.key
 ·refine ⟨_,abD K ht h1 h2 k v hk,⟨mj k v l,c,xV (af h1),?_,?_,?_,?_,?_⟩,Ym h1⟩
  ·unfold mj;rw [eX]
   have:(aG.key∘fun e:aG κ=>if k=e.key then {e with val:=v} else e)=aG.key:=funext fun e=>by dsimp only [Function.comp];split<;>rfl
   rw [this];exact h2
  ·intro e he
   obtain ⟨e0,Me,rfl⟩:=aZ.1 he
   split<;>exact h3 e0 Me
  ·unfold mj;rw [eX]
   have:(aG.born∘fun e:aG κ=>if k=e.key then {e with val:=v} else e)=aG.born:=funext fun e=>by dsimp only [Function.comp];split<;>rfl
   rw [this];exact h4
  ·unfold mj;rw [bF];omega
  ·intro j
   unfold mj lX;rw [List.find?_map];have:((fun e:aG κ=>decide (j=e.key))∘fun e:aG κ=>if k=e.key then {e with val:=v} else e)=fun e=>decide (j=e.key):=funext fun e=>by dsimp only [Function.comp];split<;>rfl
   rw [this,Option.map_map];by_cases hj:j=k
   ·subst hj
    rw [if_pos rfl];obtain ⟨e,he,uu⟩:=hk;cases hf:l.find? (fun e=>decide (j=e.key)) with
    |none=>exact absurd (List.find?_eq_none.1 hf e he) (by simp [uu])
    |some e'=>
     have:=List.find?_some hf;have Yo:j=e'.key:=by simpa using this
     simp [Yo]
   ·rw [if_neg hj,←h6 j]
    cases hf:l.find? (fun e=>decide (j=e.key)) with
    |none=>rfl
    |some e'=>
     have:=List.find?_some hf;have Yo:j=e'.key:=by simpa using this
     have hne:¬ k=e'.key:=fun e=>hj (Yo.trans e.symm)
     simp [hne]
 ·have DJ:∀ e∈l,k≠e.key:=fun e he uu=>hk ⟨e,he,uu⟩
  refine ⟨_,NU K ht h1 k v DJ,⟨l++ [(⟨k,v,c⟩:aG κ)],c+1,xV (af h1),?_,?_,?_,?_,?_⟩,Ym h1⟩
  ·rw [dD,List.nodup_append]
   refine ⟨h2,by simp,fun a ha b hb=> ?_⟩;obtain ⟨e,he,rfl⟩:=aZ.1 ha;simp only [cg,List.map_nil,cY] at hb;subst hb;exact fun hx=>DJ e he hx.symm
  ·intro e he
   rcases cU.1 he with he|he
   ·have:=h3 e he;omega
   ·rw [cY.1 he];exact Nat.lt_succ_self c
  ·rw [dD,List.nodup_append]
   refine ⟨h4,by simp,fun a ha b hb=> ?_⟩;obtain ⟨e,he,rfl⟩:=aZ.1 ha;simp only [cg,List.map_nil,cY] at hb;subst hb;have:=h3 e he;omega
  ·rw [aJ,List.length_singleton];omega
  ·intro j
   rw [List.find?_append];unfold lX;by_cases hj:j=k
   ·subst hj
    have:l.find? (fun e=>decide (j=e.key))=none:=List.find?_eq_none.2 (fun e he=>by simpa using DJ e he);rw [this];simp
   ·rw [if_neg hj,←h6 j]
    cases hf:l.find? (fun e=>decide (j=e.key)) with
    |none=>simp [hj]
    |some e'=>rfl
theorem aBF {kt':TypeId} (K:vT Tryz.prog kt enc) (ht:Tryz.prog.underlying t=some (.map kt et)) (h:fj w r enc g m) (k:κ):
  ∃ w',(Builtin.delete_ #[t,kt'] ty #[.map (some r),enc k]).run Tryz.prog w= .ok (.tuple #[]) w'∧fj w' r enc (Mc g k) m∧GX r w w':=by
 obtain ⟨l,c,h1,h2,h3,h4,h5,h6⟩:=h;refine ⟨_,NV K ht h1 h2 k,⟨l.filter (fun e=>decide (k≠e.key)),c,xV (af h1),h2.sublist (List.filter_sublist.map _),fun e he=>h3 e (List.mem_filter.1 he).1,h4.sublist (List.filter_sublist.map _),aM (List.length_filter_le _ _) h5,fun j=> ?_⟩,Ym h1⟩;rw [List.find?_filter];unfold Mc;by_cases hj:j=k
 ·subst hj
  rw [if_pos rfl];have:l.find? (fun e=>decide (decide (j≠e.key)=true∧decide (j=e.key)=true))=none:=List.find?_eq_none.2 (fun e _=>by by_cases h:j=e.key<;>simp [h]);exact congrArg (Option.map aG.val) this
 ·rw [if_neg hj,←h6 j]
  have UG:(fun e:aG κ=>decide (decide (k≠e.key)=true∧decide (j=e.key)=true))=fun e=>decide (j=e.key):=funext fun e=>by
   by_cases he:j=e.key
   ·have hne:k≠e.key:=fun x=>hj (he.trans x.symm)
    simp [he,hne]
   ·simp [he]
  exact congrArg (fun p=>Option.map aG.val (List.find? p l)) UG
end
end
end Go.Proofs.YtoolkdapflaeeaaGreatDoor
namespace Go.Proofs.YtoolkdapflaeeaaGreatDoor
open Go.RowKit Go.Gl Go.aF Mn
structure BN (x:En):Prop where
 key:x.key.size≤65535
 seq:x.seq<18446744073709551616
 val:x.val.length≤33554432
def NF:Nat→Prop:=fun _=>False
theorem cO.gx {ys:List Ev} (h:cO B NF W v ys) (hG:GX g W W') (hg:∀ cur t f,W.heap[g]?=some (.cells cur t f)→t≠5∧t≠60):cO B NF W' v ys:=
 h.keep hG.size (fun _ hb=>hb.elim) (fun b cur t f hB ht hc=>hG.heap hc (fun e=>by
  subst e;have:=hg _ _ _ hc;rcases ht with h|h
  ·exact this.1 h
  ·exact this.2 h))
theorem ja.row (h:ja w0 W rb l) {o:Option Nat} (hg:W.grownBy W' o) (ho:∀ g,o=some g→w0.heap.size≤g∧∃ cur,W.heap[g]?=some (.cells cur 60 (0,0))):ja w0 W' rb l:=by
 obtain ⟨bv,h1,h2⟩:=h.cell;refine ⟨⟨bv,(hg.block rb (af h1) (fun e=> ?_)).trans h1,h2⟩,Below.grown h.grow hg h.grow.size (fun g e=>(ho g e).1),h.new⟩;obtain ⟨_,cur,h3⟩:=ho rb e.symm;rw [h1] at h3;exact absurd (cE (bk h3)).2.1 (by decide)
def Yp (w:World) (rb:Nat) (l:List En) (ov:Value) (wr:World):Prop:=
 ∃ (i:Nat) (ys:List Ev),i≤l.length∧ys.map Ev.e=l.take i∧cO w.heap.size NF wr ov ys∧ja w wr rb (bh (l.drop i))
def ajK (v:Value):Nat:=match v with| .slice _ n _=>n|_=>0
theorem aBG {l:List En} (h:Bv w bv (bh l)) (hne:l≠ []) (iR:∀ x∈l,BN x) (hlen:l.length≤1000000) (nd:(bh l).length≤500000000000):
  Calls Tryz.prog 148 #[bv] w fun e w'=>∃ v ys,e= .returned (.tuple #[v,.bool true])∧ys.map Ev.e=l∧cO w.heap.size NF w' v ys∧Grow w w':=by
 obtain ⟨ba,bc,rfl⟩:=h.slice;have ah:=ar w (.cells #[.slice ba (bh l).length bc,.bool false] 308);have hbr:=ax w (.cells #[.slice ba (bh l).length bc,.bool false] 308);have hst:Yp w w.heap.size l (.slice none 0 0) (w.alloc (.cells #[.slice ba (bh l).length bc,.bool false] 308)):=⟨0,[],aY _,by simp,⟨iL _ _ _ _,(fun y h=>by cases h)⟩,⟨⟨_,hbr,by rw [List.drop_zero];exact h⟩,ah,aw _⟩⟩
 have bJ:=ae hst;have Rj:=ae iR;have qQ:=ae hne;clear h ah hbr hst iR hne;go_enter Tryz.func148,Tryz.ntmps148
 go_wp2_with fail
 generalize w.alloc (.cells #[.slice ba (bh l).length bc,.bool false] 308)=w1 at*;obtain ⟨rb,fC⟩:∃ rb,rb=w.heap.size:=⟨_,rfl⟩
 rw [←fC] at bJ ⊢;have lO:=ae fC;clear fC
 go_loopw [5] (fun ov wr=>Yp w rb l ov wr) (fun ov _=>l.length-ajK ov)
 case atStart=>exact bJ.out
 case round=>
  obtain ⟨i,ys,hi,bQ,hrow,bm⟩:=hrel;obtain ⟨bv,h1,h2⟩:=bm.cell;obtain ⟨xa,xc,rfl⟩:=h2.slice;have c0:wr.cell? ⟨rb,0,none⟩=some (.slice xa (bh (l.drop i)).length xc):=by simp [World.cell?,h1]
  have c1:wr.cell? ⟨rb,1,none⟩=some (.bool false):=by simp [World.cell?,h1]
  have lr:=af h1;have dW:ys.length=i:=by have:=congrArg List.length bQ;rw [bF,List.length_take] at this;omega
  by_cases hlt:i<l.length
  ·obtain ⟨x,hx⟩:∃ x,l[i]?=some x:=⟨_,dZ hlt⟩
   have hdr:bh (l.drop i)=oZ x++bh (l.drop (i+1)):=by
    rw [mh hlt];rw [dZ hlt] at hx;rw [bk hx];simp [bh]
   have Ai:(0:Int)<((bh (l.drop i)).length:Int):=by
    have:=agt x;rw [hdr,aJ];omega
   have qi:=Rj.out x (dB hx);have Ey:=bm;rw [hdr] at Ey;have hle:(bh (l.drop (i+1))).length≤(bh l).length:=by
    have e:=sf (l.take (i+1)) (l.drop (i+1));rw [List.take_append_drop] at e;rw [e,aJ];omega
   have fS:=aAX Ey qi.key qi.seq qi.val (by omega);have kh:=ae fS;have ox:=ae hrow;have Hx:=ae (ag hx bQ);have XV:=ae h1;have tz:=ae hdr;have fW:=ae bm.grow;have Hyl:=ae dW;clear hrow bm Ey h1 h2 hdr fS hx bQ hle dW;generalize (bh (l.drop i)).length=PL at*;obtain ⟨oa,oc,rfl⟩:=ox.out.slice
   go_wp2_with fail
   (with_reducible refine kh.out.mono ?_);rintro e w2 ⟨sv,rfl,fG,hr2,hgx⟩;obtain ⟨sa,sc,rfl⟩:=fG.slice;have hrow2:=ox.out.gx hgx (fun cur t f hc=>by
    rw [XV.out] at hc;have:=(cE (bk hc)).2.1;subst this;exact ⟨by decide,by decide⟩)
   have vA:w.heap.size≤wr.heap.size:=fW.out.size;have Mf:mQ NF w.heap.size w2 ⟨x,.slice sa x.val.length sc⟩:=⟨cI fG,.inr (fun b hb=> .inr ⟨aM vA (fG.lt hb).1,by
    obtain ⟨cur,hc⟩:=fG.block hb;exact ⟨cur,_,hc,rfl⟩⟩)⟩
   obtain ⟨g,cap,w3,hrun,hrow3,hg3⟩:=LC hrow2 Mf (fun _ h=>h.elim) hr2.grow.size (by rw [Hyl.out];omega);have hr3:=hr2.row hg3 (fun g hg=>sw hrow2 hg);have hrel:Yp w rb l (.slice (some ⟨g,0,none⟩) (ys.length+1) cap) w3:=⟨i+1,ys++ [⟨x,.slice sa x.val.length sc⟩],hlt,by
    rw [dD,Hx.out.2,List.take_add_one,Hx.out.1];rfl,hrow3,hr3⟩
   have cW:=ae hrun;have aX:=ae hrel;clear hrun hrow3 hg3 hr3 hrel hrow2 Mf fG hr2 hgx
   go_wp2_with (at_builtin;refine fI rfl rfl rfl rfl cW.out ?_)
   go_roundw
   case rel=>exact aX.out
   case measure=>have:=Hyl.out;simp only [ajK];omega
  ·obtain rfl:i=l.length:=by omega
   have hd:bh (l.drop l.length)= []:=by rw [List.drop_length];rfl
   have hrow':=hrow;have gj:=ae (ag hrow (ag bm.grow (show ys.map Ev.e=l by rw [bQ,ij])));have hyp:(0:Int)<(ys.length:Int):=by
    have:0<l.length:=List.length_pos_iff.2 qQ.out;omega
   have sD:0<ys.length:=by omega
   rw [hd] at c0;obtain ⟨oa,oc,rfl⟩:=hrow.slice;clear hrow hrow' bm h1 h2 bQ hd dW;go_wp2;go_ret2;exact ⟨_,ys,rfl,gj.out.2.2,gj.out.1,gj.out.2.1⟩
theorem aBH (h:Bv w bv l) (he:ix aq l=(p,q,0)) (hpq:p≤q) (hq:q≤l.length) (hl:l.length≤900000000000):
  Calls Tryz.prog 147 #[bv] w fun e w'=>∃ v,e= .returned (.tuple #[v,.int .i64 q,.int .i64 0])∧aI w.heap.size w' v ((l.drop p).take (q-p))∧Grow w w':=by
 have hf:=acn h (by omega);rw [he] at hf;obtain ⟨ba,bc,rfl⟩:=h.slice;have hcut:=sS h hpq hq;have hle:l.length≤bc:=by obtain ⟨a',c',e',hc',_⟩:=h;cases e';exact hc'
 obtain ⟨ad,had⟩:∃ ad,(if bc=p then ba else ba.map (fun x=>x.add p))=ad:=⟨_,rfl⟩
 rw [had] at hcut;have aQ:∀ w',Grow w w'→_:=fun w' hg=>vX (hcut.grow hg) (by simp;omega)
 have hpl:((l.drop p).take (q-p)).length=q-p:=by simp;omega
 have gp:=ae aQ;have Hf:=ae hf;have p0:(0:Int)≤(p:Int):=by omega
 have p1:(p:Int)≤(q:Int):=by omega
 have p2:(q:Int)≤(bc:Int):=by omega
 clear h hf hcut aQ he hpl;go_enter Tryz.func147,Tryz.ntmps147
 go_wp2_with fail
 (with_reducible refine Hf.out.mono ?_);rintro e w1 ⟨rfl,hg1⟩;have qI:=ae (gp.out w1 hg1);have eC:=ae hg1;clear hg1 Hf gp
 go_wp2_with fail
 (with_reducible refine qI.out.mono ?_);rintro e w2 ⟨cv,rfl,ho,hg⟩;obtain ⟨ca,cL,cc,rfl⟩:∃ a L c,cv= .slice a L c:=by obtain ⟨a,c,h⟩:=ho.slice;exact ⟨_,_,_,h⟩
 have Ho:=ae (ag (ho.mono eC.out.size) (eC.out.trans hg));clear ho hg;go_wp2;go_ret3;exact ⟨_,rfl,Ho.out⟩
theorem Rk (xs:List Ev):(xs.flatMap fN).length=xs.length*4:=by
 induction xs with
 |nil=>rfl
 |cons x xs ih=>rw [List.flatMap_cons,aJ,ih,DI,dH];omega
theorem Es.src {xs:List Ev} (h:Es N w v xs):Src Tryz.prog 4 57 v xs.length (xs.flatMap fN) w:=by
 have oK:∀ u∈xs.flatMap fN,u.oneCell'=true:=fun u hu=>by
  obtain ⟨x,hx,Rm⟩:=List.mem_flatMap.1 hu;exact axT (h.2 x hx) u Rm
 obtain ⟨⟨a,c,rfl,hl,hm,hn,h3⟩,h2⟩:=h;by_cases hx:xs= []
 ·subst hx
  cases a with
  |none=>exact Src.ofNil w Tryz.underlying57 c
  |some a=>exact Src.ofSlice w Tryz.underlying57 a 0 c [] rfl (fun j u hu=>by simp at hu) (fun u hu=>by cases hu)
 ·rcases h3 with h3|⟨b,o,rfl,hb,hlt,hr⟩
  ·exact absurd h3 hx
  ·refine Src.ofSlice w Tryz.underlying57 ⟨b,o,none⟩ xs.length c _ (Rk xs) (fun j u hu=> ?_) oK
   have hj:j<xs.length*4:=by
    have:=(dG.1 hu).1;rw [Rk] at this;exact this
   have hi:j / 4<xs.length:=by omega
   have hx1:=dZ hi;have h5:=CR (enc:=fN) DI hx1 (j%4) (Nat.mod_lt _ (by decide));rw [show j / 4*4+j%4=j by omega,hu] at h5;have h6:=hr (j / 4) _ hx1 (j%4) u h5.symm;rw [show o+j / 4*4+j%4=o+j by omega] at h6;have h7:w.cell? ⟨b,o+j,none⟩=some u:=h6;show w.cell? (Addr.add ⟨b,o,none⟩ j)=some u;rw [show (Addr.add ⟨b,o,none⟩ j)=⟨b,o+j,none⟩ by simp [Addr.add]];exact h7
def NT:Nat→Prop:=fun _=>True
theorem cO.any {ys:List Ev} (h:cO B N W v ys):Es NT W v ys:=h.es (fun _ _=>True.intro)
theorem aBJ {a:Option Addr} {xs zs:List Ev} (h:Es NT w (.slice a xs.length xs.length) xs) (hp:Es NT w pv zs) (Ai:0<zs.length) (hlen:xs.length+zs.length≤1000000000):
  ∃ v' w',(Builtin.append_ #[57,57] 57 #[.slice a xs.length xs.length,pv]).run Tryz.prog w= .ok v' w'∧Es NT w' v' (xs++zs)∧Grow w w':=by
 obtain ⟨i,bO,hzz,hsz,dX⟩:=info_parts Tryz.Wx;have hs':Src Tryz.prog i.size 57 pv zs.length (zs.flatMap fN) w:=by rw [hsz];exact hp.src
 have hold:(Builtin.firstCells i.size xs.length (.slice a xs.length xs.length)).run Tryz.prog w.drew= .ok (xs.flatMap fN).toArray w.drew:=by rw [hsz];exact h.src.cellsD
 have hr:=run_append_grow_src w 57 57 57 60 i _ Tryz.underlying57 bO hzz a xs.length xs.length (xs.flatMap fN) hold pv zs.length (zs.flatMap fN) hs' (by omega) (by omega) (by rw [dX];exact growslice_fits (by omega) (by omega));have iM:=grownCap_ge w (xs.length+zs.length) xs.length 60;have hcm:grownCap w (xs.length+zs.length) xs.length 60≤maxLen:=grownCap_le_maxLen w (xs.length+zs.length) xs.length 60 (by unfold maxLen;omega);have hgr:Grow w (w.drew.alloc (.cells (((xs.flatMap fN++zs.flatMap fN)).toArray++Builtin.zeroCells (Value.agg #[.string ByteArray.empty,.int .u64 0,.bool false,.slice none 0 0]).cells (grownCap w (xs.length+zs.length) xs.length 60-(xs.length+zs.length))) 60)):=⟨rfl,rfl,rfl,by simp,fun k hk=>heap_alloc_old w.drew _ hk⟩
 refine ⟨_,_,hr,⟨⟨_,_,by rw [aJ],by rw [aJ];exact iM,hcm,(fun e=>by cases e),.inr ⟨w.heap.size,0,rfl,True.intro,by simp,?_⟩⟩,fun x hx=> ?_⟩,hgr⟩
 ·intro j x hx c u hu
  have fP:=ax w.drew (.cells (((xs.flatMap fN++zs.flatMap fN)).toArray++Builtin.zeroCells (Value.agg #[.string ByteArray.empty,.int .u64 0,.bool false,.slice none 0 0]).cells (grownCap w (xs.length+zs.length) xs.length 60-(xs.length+zs.length))) 60);have sU:c<4:=by have:=(dG.1 hu).1;rwa [DI] at this
  have hj:j<(xs++zs).length:=(dG.1 hx).1;have h5:=CR (enc:=fN) DI hx c sU;rw [hu,List.flatMap_append] at h5;have hlt:j*4+c<(xs.flatMap fN++zs.flatMap fN).length:=(dG.1 h5).1;have hd:w.drew.heap.size=w.heap.size:=rfl;rw [hd] at fP;simp only [World.cell?,fP,Nat.zero_add];rw [Array.getElem?_append_left (by simpa using hlt)];simpa using h5
 ·rcases cU.1 hx with h1|h1
  ·exact (h.2 x h1).grow hgr
  ·exact (hp.2 x h1).grow hgr
theorem aBK {ys zs:List Ev} (h:cO B NF w tv ys) (hp:cO B NF w lv zs) (Ai:0<zs.length) (hB:B≤w.heap.size) (hlen:ys.length+zs.length≤1000000000):
  ∃ g cap w',(Builtin.append_ #[57,57] 57 #[tv,lv]).run Tryz.prog w= .ok (.slice (some ⟨g,0,none⟩) (ys.length+zs.length) cap) w'∧cO B NF w' (.slice (some ⟨g,0,none⟩) (ys.length+zs.length) cap) (ys++zs)∧w.grownBy w' tv.ownBlock:=by
 obtain ⟨i0,bO,hz0,hz1,hz2⟩:=info_parts Tryz.Wx;have mF:∀ y∈ys++zs,mQ NF B w y:=fun y hy=>by
  rcases cU.1 hy with h1|h1
  ·exact h.2 y h1
  ·exact hp.2 y h1
 obtain ⟨g2,GF,rfl,hr2⟩:∃ g2 GF,lv= .slice (some ⟨g2,0,none⟩) zs.length GF∧Rd w g2 0 fN 4 zs:=by
  rcases id hp.1.2 with ⟨h1,h0⟩|⟨g,cap,cur,h1,hB,h3,h4,h5,h6⟩
  ·omega
  ·exact ⟨g,cap,h1,wC DI (h1 ▸ hp.1)⟩
 have oK:∀ u∈zs.flatMap fN,u.oneCell'=true:=fun u hu=>by
  obtain ⟨x,hx,Rm⟩:=List.mem_flatMap.1 hu;obtain ⟨a,c,hv⟩:=(hp.2 x hx).slice;simp only [fN,bE,List.not_mem_nil,or_false] at Rm;rcases Rm with rfl|rfl|rfl|rfl
  ·rfl
  ·rfl
  ·rfl
  ·rw [hv];rfl
 obtain ⟨g,cap,w',hrun,hown,hgr,_,_⟩:=run_append_lies (P:=Tryz.prog) w 57 57 B 60 i0 _ 4 56 Tryz.underlying57 bO hz0 hz1 hz2 rfl (by decide) _ _ _ h.1
  ⟨g2,0,none⟩ zs.length GF (zs.flatMap fN) (Rk zs) (fun j u hu=>by
   have hj:j<zs.length*4:=by
    have:=(dG.1 hu).1;rw [Rk] at this;exact this
   have hi:j / 4<zs.length:=by omega
   have hx1:=dZ hi;have h5:=CR (enc:=fN) DI hx1 (j%4) (Nat.mod_lt _ (by decide));rw [show j / 4*4+j%4=j by omega,hu] at h5;have h6:=hr2 (j / 4) _ hx1 (j%4) u h5.symm;rw [show 0+j / 4*4+j%4=0+j by omega] at h6;have h7:w.cell? ⟨g2,0+j,none⟩=some u:=h6;rw [show (Addr.add ⟨g2,0,none⟩ j)=⟨g2,0+j,none⟩ by by_cases Al:j=0<;>simp [Addr.add,Al]];exact h7) oK Ai (by unfold maxLen;omega) (by omega) hB _ rfl
 refine ⟨g,cap,w',hrun,⟨?_,fun y hy=>(mF y hy).keep hgr.size (fun b hb=>hb.elim) (fun b cur f hb hc=> ?_)⟩,hgr⟩
 ·rw [aJ,List.flatMap_append]
  exact hown
 ·rw [hgr.block b (af hc) (fun e=> ?_)]
  ·exact hc
  ·obtain ⟨_,cur',h2⟩:=sw h e.symm
   rw [hc] at h2;exact absurd (cE (bk h2)).2.1 (by decide)
theorem zq {D P Q R:List UInt8} {m:Nat} (hD:D=P++(Q++R)) (hi:P.length=i) (hm:Q.length=m):(D.drop i).take m=Q:=by
 subst hD hi hm;rw [List.drop_left,List.take_left]
structure SsP (gs:List (List En)) (n:Nat) (fl D:List UInt8) (a th en:Nat):Prop where
 at':a=(bV gs).length
 th':th=a+(bB aq (jI 0 gs)).length
 en':en=th+(bB aq fl).length
 len:D.length=en+28
 ending:(D.drop en).take (en+24-en)=jo a th n
 sum:(D.drop (en+24)).take (D.length-(en+24))=cD 4 (eF aq (jo a th n))
 n1:(D.drop en).take (en+8-en)=cD 8 a
 n2:(D.drop (en+8)).take (en+16-(en+8))=cD 8 th
 n3:(D.drop (en+16)).take (en+24-(en+16))=cD 8 n
 idx:(D.drop a).take (th-a)=bB aq (jI 0 gs)
 fil:(D.drop th).take (en-th)=bB aq fl
 blk:∀ g1 g2,gs=g1++g2→(D.drop (bV g1).length).take (a-(bV g1).length)=bV g2
theorem aBO (gs:List (List En)) (n:Nat) (fl:List UInt8):SsP gs n fl (gS gs n fl) (bV gs).length (ek gs).length ((ek gs).length+(bB aq fl).length):=by
 have tH:(ek gs).length=(bV gs).length+(bB aq (jI 0 gs)).length:=by unfold ek;rw [aJ]
 have h8:∀ v,(cD 8 v).length=8:=fun v=>mq 8 v
 have xi:=PU (bV gs).length (ek gs).length n;have h4:∀ v,(cD 4 v).length=4:=fun v=>mq 4 v
 refine ⟨rfl,tH,rfl,?_,?_,?_,?_,?_,?_,?_,?_,fun g1 g2 hg=> ?_⟩
 ·unfold gS;simp only [aJ,xi,h4];omega
 ·exact zq (P:=ek gs++bB aq fl) (R:=cD 4 (eF aq (jo (bV gs).length (ek gs).length n))) (by simp [gS]) (by simp) (by rw [xi];omega)
 ·have e:gS gs n fl=(ek gs++bB aq fl++jo (bV gs).length (ek gs).length n)++(cD 4 (eF aq (jo (bV gs).length (ek gs).length n))++ []):=by simp [gS]
  refine zq e (by simp [xi];omega) ?_;rw [e];simp [xi];omega
 ·exact zq (P:=ek gs++bB aq fl) (R:=cD 8 (ek gs).length++(cD 8 n++cD 4 (eF aq (jo (bV gs).length (ek gs).length n)))) (by simp [gS,jo]) (by simp) (by rw [h8];omega)
 ·exact zq (P:=ek gs++bB aq fl++cD 8 (bV gs).length) (R:=cD 8 n++cD 4 (eF aq (jo (bV gs).length (ek gs).length n))) (by simp [gS,jo]) (by simp [h8];omega) (by rw [h8];omega)
 ·exact zq (P:=ek gs++bB aq fl++cD 8 (bV gs).length++cD 8 (ek gs).length) (R:=cD 4 (eF aq (jo (bV gs).length (ek gs).length n))) (by simp [gS,jo]) (by simp [h8];omega) (by rw [h8];omega)
 ·exact zq (P:=bV gs) (R:=bB aq fl++(jo (bV gs).length (ek gs).length n++cD 4 (eF aq (jo (bV gs).length (ek gs).length n)))) (by simp [gS,ek]) rfl (by omega)
 ·exact zq (P:=ek gs) (R:=jo (bV gs).length (ek gs).length n++cD 4 (eF aq (jo (bV gs).length (ek gs).length n))) (by simp [gS]) rfl (by omega)
 ·subst hg
  refine zq (P:=bV g1) (R:=bB aq (jI 0 (g1++g2))++(bB aq fl++(jo (bV (g1++g2)).length (ek (g1++g2)).length n++cD 4 (eF aq (jo (bV (g1++g2)).length (ek (g1++g2)).length n))))) ?_ rfl ?_
  ·simp [gS,ek,KS]
  ·rw [KS,aJ];omega
theorem aBP (g:List En) (gs:List (List En)) (h:(bh g).length≤67108864):ix aq (bV (g::gs))=((aD (bh g).length).length+4,(gy g).length,0):=by
 have:bV (g::gs)=gy g++bV gs:=by simp [bV]
 rw [this];exact abW aq h _
theorem aBQ (g:List En) (gs:List (List En)):((bV (g::gs)).drop ((aD (bh g).length).length+4)).take ((gy g).length-((aD (bh g).length).length+4))=bh g:=by
 have hl:=my aq (bh g);have e:bV (g::gs)=(aD (bh g).length++cD 4 (eF aq (bh g)))++(bh g++bV gs):=by simp [bV,gy,bB]
 refine zq e (by simp [mq]) ?_;unfold gy;omega
end Go.Proofs.YtoolkdapflaeeaaGreatDoor
namespace Go.Proofs.YtoolkdapflaeeaaGreatDoor
open Go.RowKit Go.Gl Mn
theorem ajM {a b:List En}:cn (a++b)↔cn a∧cn b∧∀ x∈a,∀ y∈b,fM x y:=List.pairwise_append
def ajN (a b:En):Prop:=a.key.data.toList<b.key.data.toList
end Go.Proofs.YtoolkdapflaeeaaGreatDoor
namespace Go.Proofs.YtoolkdapflaeeaaGreatDoor
open Go.RowKit Go.Gl Go.aF Mn
def ue (B:Nat) (W:World) (tb:Nat) (l:List En):Prop:=
 ∃ (v fv:Value) (nb:Int) (ys:List Ev),W.heap[tb]?=some (.cells #[v,.int .i64 nb,fv] 251 (0,0))∧B≤tb∧ys.map Ev.e=l∧cO B NF W v ys
theorem cO.Em {ys:List Ev} {xs:List Bk} (h:cO B NF W v ys) (hu:ig B' W u xs) (hg:W.grownBy W' u.ownBlock):cO B NF W' v ys:=
 h.keep hg.size (fun _ hb=>hb.elim) (fun b cur t f hB ht hc=>(hg.block b (af hc) (fun e=>by
  obtain ⟨_,_,cur',h3⟩:=hu.lt e.symm;rw [hc] at h3;have:=(cE (bk h3)).2.1;rcases ht with h|h
  ·rw [h] at this;exact absurd this (by decide)
  ·rw [h] at this;exact absurd this (by decide))).trans hc)
theorem ig.aBR {xs:List Bk} {ys:List Ev} (h:ig B w v xs) (hu:cO B' NF w u ys) (hg:w.grownBy w' u.ownBlock):ig B w' v xs:=
 h.keep fun g hb=>by
  obtain ⟨_,h2,cur,h3⟩:=h.lt hb;refine hg.block g h2 (fun he=> ?_);obtain ⟨_,cur',h4⟩:=sw hu he.symm;rw [h3] at h4;exact absurd (cE (bk h4)).2.1 (by decide)
def Yq (w:World) (gs:List (List En)) (tb:Nat) (kv iv:Value) (wr:World):Prop:=
 ∃ (g1 g2:List (List En)) (tv:Value) (ys:List Ev),gs=g1++g2∧iv= .int .i64 ((bV g1).length:Nat)∧ig w.heap.size wr kv (lW 0 g1)∧wr.heap[tb]?=some (.cells #[tv,.int .i64 0,.slice none 0 0] 251 (0,0))∧
  ys.map Ev.e=g1.flatten∧cO w.heap.size NF wr tv ys∧Below w.heap.size w wr
theorem aBS {a b c:List En} (h:cn (a++(b++c))) (m:Nat):cn (a.drop m++b):=by
 have h1:cn ((a++b)++c):=by rw [ju];exact h
 have h2:=(ajM.1 h1).1;rw [ajM] at h2 ⊢;exact ⟨List.Pairwise.sublist (List.drop_sublist _ _) h2.1,h2.2.1,fun x hx y hy=>h2.2.2 x (List.mem_of_mem_drop hx) y hy⟩
set_option maxRecDepth 1000000 in
theorem aBT {l:List En} {size:Nat} (h:Bv w bv (gS (eN size [] l) l.length (dV l))) (hne:l≠ []) (ho:cn l) (jh:yZ l) (iR:∀ x∈l,BN x) (hlen:l.length≤1000000) (nd:(bh l).length+30*l.length≤50000000):
  Calls Tryz.prog 94 #[bv] w fun e w'=>∃ tb,e= .returned (.tuple #[.pointer (some ⟨tb,0,none⟩),.nilIface])∧ue w.heap.size w' tb l∧Grow w w':=by
 have hP:=aBO (eN size [] l) l.length (dV l);have gB:=KQ size l [] hne;have Yr:=KR size l [];have kQ:=LI size l [];generalize eN size [] l=gs at*;rw [iq] at gB;generalize hD:gS gs l.length (dV l)=D at*;generalize ha:(bV gs).length=a at*;generalize tH:(ek gs).length=th at*;generalize hen:th+(bB aq (dV l)).length=en at*;have hbl:=GV gs;rw [gB] at hbl;have eV:=QE gs 0 Yr;rw [gB,DN] at eV;have mO:=my aq (jI 0 gs);have hfn:=cB (jI 0 gs).length;have Jr:=my aq (dV l);have aBU:=cB (dV l).length;have ed:=Lg l;have hfN:gV l≤2000000:=by
  have:=GK l l.length;unfold gV;omega
 have hpl:=hP.len;have Rn:=hP.th';have hDl:D.length≤300000000:=by omega
 have aKT:a<th:=by omega
 have aKU:th<en:=by omega
 have aKV:en+28≤D.length:=by omega
 obtain ⟨ba,bc,rfl⟩:=h.slice;have hle:D.length≤bc:=by obtain ⟨a',c',e',hc',_⟩:=h;cases e';exact hc'
 have HP:=ae hP;have HB:=ae h;have Ro:=ae gB;have Rp:=ae Yr;have Ha:=ae ha;have w1:IntKind.i64.wrap ((D.length:Int)-28)=(en:Int):=by rw [aS _ (by omega)];omega
 have Rq:IntKind.i64.wrap ((en:Int)+24)=((en+24:Nat):Int):=by rw [aS _ (by omega)];omega
 have Rs:IntKind.i64.wrap ((en:Int)+16)=((en+16:Nat):Int):=by rw [aS _ (by omega)];omega
 have w8:IntKind.i64.wrap ((en:Int)+8)=((en+8:Nat):Int):=by rw [aS _ (by omega)];omega
 obtain ⟨ad1,Ys⟩:∃ ad,(if bc=en then ba else ba.map (fun x=>x.add en))=ad:=⟨_,rfl⟩
 obtain ⟨pC,zt⟩:∃ pC,pC=en+24:=⟨_,rfl⟩
 obtain ⟨vB,zu⟩:∃ vB,vB=en+16:=⟨_,rfl⟩
 obtain ⟨e8,BO⟩:∃ e8,e8=en+8:=⟨_,rfl⟩
 rw [←zt] at Rq;rw [←zu] at Rs;rw [←BO] at w8;obtain ⟨ad2,ajP⟩:∃ ad,(if bc=pC then ba else ba.map (fun x=>x.add pC))=ad:=⟨_,rfl⟩
 have hs1:=sS h (i:=en) (j:=pC) (by omega) (by omega);have hs2:=sS h (i:=pC) (j:=D.length) (by omega) (aw _);rw [Ys] at hs1;rw [ajP] at hs2;have p1:=hP.ending;have p2:=hP.sum;rw [←zt] at p1 p2;rw [p1] at hs1;rw [p2] at hs2;have Aw:=ae hs1;have qE:=ae hs2;have He:=ae (ag zt (ag zu BO));have i1:(0:Int)≤(en:Int):=by omega
 have i2:(en:Int)≤(pC:Int):=by omega
 have i3:(pC:Int)≤(bc:Int):=by omega
 have i4:(0:Int)≤(pC:Int):=by omega
 have i5:(pC:Int)≤(D.length:Int):=by omega
 have Hf:=ae (ag mO (ag Jr (ag ed (ag hpl (ag Rn (ag hD (ag tH (ag hen kQ))))))));clear h hP gB Yr ha mO Jr ed hpl Rn hs1 hs2 p1 p2 zt zu BO hD tH hen hbl eV hfn aBU hfN kQ;go_enter Tryz.func94,Tryz.ntmps94
 go_upto_region 4 with fail
 refine ou (fun V=>Below w.heap.size w V) [(0,false),(1,false),(2,false),(3,false),(4,false),(8,false),(9,false),(10,false),(11,false),(5,true),(6,true),(7,false),(12,true),(13,false)] (by kernel_rfl) (by kernel_rfl) (bK fun _ _ _ _ _ h=>h) (by ((repeat (first|exact bS _ _|assumption|refine cz ?_|refine cA ?_|refine cj ?_ ?_ _|refine cy ?_ ?_ _))<;>try (first|omega|(simp<;>omega)))) ?_;simp only [cm,nth]
 repeat ((first|(refine aA (v:= ?_) (by rfl) ?_ ?_;rotate_left;rintro W hW;go_simp;with_reducible rfl)|refine aB (by rfl) ?_);simp only [ai,List.set])
 have hgd:=az w;have jX:=ax w.drew (.cells #[.slice ad1 (pC-en) (bc-en)] 49);have hg1:=hgd.trans (ar w.drew (.cells #[.slice ad1 (pC-en) (bc-en)] 49));refine fO (by rfl) (fun K hK=> ?_);go_simp;refine hK _ _ ⟨hg1,?_⟩;clear hK K
 try simp only [ai,List.set,aC]
 refine bp (by rfl) (by go_simp) (Oi jX (Aw.out.grow hg1)) ?_;rintro e w2 ⟨rfl,hg2⟩;have rO:=hg1.trans hg2;refine ⟨_,rfl,rO,?_⟩
 try simp only [ai,List.set,aC]
 have nU:=zV (jo a th l.length);generalize LP:eF aq (jo a th l.length)=SM at*;have HSM:=ae LP;have wS:=vo (n:=SM) (by omega);clear LP
 repeat ((first|(refine aA (v:= ?_) (by rfl) ?_ ?_;rotate_left;rintro W hW;go_simp;with_reducible rfl)|refine aB (by rfl) ?_);simp only [ai,List.set])
 have jf:=PW (qE.out.grow rO) (by rw [mq];decide);rw [PV 4 _ (by omega)] at jf;refine bp (by rfl) (by go_simp) jf ?_;rintro e w3 ⟨rfl,hw3⟩;have Mg:=hw3.symm;subst Mg;clear hw3;refine ⟨_,rfl,rO,?_⟩
 try simp only [ai,List.set,aC]
 repeat ((first|(refine aA (v:= ?_) (by rfl) ?_ ?_;rotate_left;rintro W hW;go_simp;with_reducible rfl)|refine aB (by rfl) ?_);simp only [ai,List.set])
 refine bj ?_;have kY:=ae rO;clear rO hg2 hg1 hgd jX jf nU wS ajP Aw qE i2 i3 i4 i5 w1 Rq;obtain ⟨ad3,ajQ⟩:∃ ad,(if bc=e8 then ba else ba.map (fun x=>x.add e8))=ad:=⟨_,rfl⟩
 obtain ⟨zt,zu,BO⟩:=He.out;have iO:=sS HB.out (i:=en) (j:=e8) (by omega) (by omega);have jg:=sS HB.out (i:=e8) (j:=vB) (by omega) (by omega);rw [Ys] at iO;rw [ajQ] at jg;have p1:=HP.out.n1;have p2:=HP.out.n2;rw [←BO] at p1 p2;rw [←zu] at p2;rw [p1] at iO;rw [p2] at jg;have j1:(en:Int)≤(e8:Int):=by omega
 have j2:(e8:Int)≤(bc:Int):=by omega
 have j3:(0:Int)≤(e8:Int):=by omega
 have j4:(e8:Int)≤(vB:Int):=by omega
 have j5:(vB:Int)≤(bc:Int):=by omega
 have hc1:=fun W (hg:Grow w W)=>PW (iO.grow hg) (by rw [mq];decide)
 have hc2:=fun W (hg:Grow w W)=>PW (jg.grow hg) (by rw [mq];decide)
 rw [PV 8 _ (by omega)] at hc1 hc2;have qI:=ae hc1;have CP:=ae hc2;clear hc1 hc2 iO jg p1 p2 zt zu BO
 go_upto_region 6 with fail
 refine ou (fun V=>Below w.heap.size w V) [(0,false),(1,false),(2,false),(3,false),(4,false),(6,false),(7,false),(8,false),(9,false),(10,false),(11,false),(5,true),(12,true),(13,false),(14,false)] (by kernel_rfl) (by kernel_rfl) (bK fun _ _ _ _ _ h=>h) (kY.out.trans (az w2)) ?_;simp only [cm,nth]
 repeat ((first|(refine aA (v:= ?_) (by rfl) ?_ ?_;rotate_left;rintro W hW;go_simp;with_reducible rfl)|refine aB (by rfl) ?_);simp only [ai,List.set])
 refine bp (by rfl) (by go_simp) (qI.out w2.drew (kY.out.trans (az w2))) ?_;rintro e w3 ⟨rfl,hw3⟩;have Mg:=hw3.symm;subst Mg;clear hw3;refine ⟨_,rfl,(kY.out.trans (az w2)),?_⟩
 try simp only [ai,List.set,aC]
 refine bp (by rfl) (by go_simp) (CP.out w2.drew (kY.out.trans (az w2))) ?_;rintro e w3 ⟨rfl,hw3⟩;have Mg:=hw3.symm;subst Mg;clear hw3;refine ⟨_,rfl,(kY.out.trans (az w2)),?_⟩
 try simp only [ai,List.set,aC]
 repeat ((first|(refine aA (v:= ?_) (by rfl) ?_ ?_;rotate_left;rintro W hW;go_simp;with_reducible rfl)|refine aB (by rfl) ?_);simp only [ai,List.set])
 refine bj ?_;have BI:=ae (kY.out.trans (az w2));generalize w2.drew=w3 at*;have k1:decide (th≤a)=false:=by simp;omega
 have k2:decide (en≤th)=false:=by simp;omega
 have wen:=vo (n:=en) (by omega);have wia:IntKind.i64.wrap (a:Int)=(a:Int):=aS _ (by omega);clear kY Ys ajQ j1 j2 j3 j4 j5 qI CP w8 Rs i1;have ah:=ar w3 (.cells #[.slice none 0 0,.int .i64 0,.slice none 0 0] 251);have eV:=ax w3 (.cells #[.slice none 0 0,.int .i64 0,.slice none 0 0] 251);have Hj:=ae (BI.out.trans ah);have zn:=ae eV;have hb3:=BI.out.size;clear ah eV
 go_wp2_with fail
 have hst:Yq w gs w3.heap.size (.slice none 0 0) (.int .i64 0) (w3.alloc (.cells #[.slice none 0 0,.int .i64 0,.slice none 0 0] 251)):=⟨[],gs,.slice none 0 0,[],rfl,rfl,agW _ _,zn.out,rfl,⟨iL _ _ _ _,fun y h=>by cases h⟩,Hj.out⟩
 have bJ:=ae hst;obtain ⟨tb,dY⟩:∃ tb,tb=w3.heap.size:=⟨_,rfl⟩
 rw [←dY] at bJ ⊢;have Ru:w.heap.size≤tb:=by rw [dY];exact hb3
 clear hst dY hb3 zn Hj BI
 go_loopw [8,9] (fun kv iv wr=>Yq w gs tb kv iv wr) (fun _ iv _=>a-(intOf iv).toNat)
 case atStart=>exact bJ.out
 case round=>
  obtain ⟨g1,g2,tv,ys,eT,rfl,iU,mS,bQ,hrow,dM⟩:=hrel;obtain ⟨ka,kc,rfl⟩:=iU.slice;rw [sj] at iU ⊢;have bq:a=(bV g1).length+(bV g2).length:=by
   rw [←Ha.out,eT,KS,aJ]
  have hblk:=HP.out.blk g1 g2 eT;have gB:=Ro.out;rw [eT,List.flatten_append] at gB;generalize eY:(bV g1).length=fr at*;cases g2 with
  |nil=>
   have aBW:fr=a:=by rw [bq];simp [bV]
   subst aBW;rw [List.append_nil] at eT;subst eT;rw [List.flatten_nil,List.append_nil] at gB;rw [gB] at bQ;clear hblk bq eY;have dW:ys.length=l.length:=by have:=congrArg List.length bQ;rwa [bF] at this
   obtain ⟨ta,tc,rfl⟩:=hrow.slice;have GZ:=ahr hrow.any (by omega) (fun y hy=>by
    have:=iR y.e (by rw [←bQ];exact aZ.2 ⟨y,hy,rfl⟩);have:=this.key;omega)
   rw [bQ] at GZ;have LN:=ae GZ;have t0:wr.cell? ⟨tb,0,none⟩=some (.slice ta ys.length tc):=by simp [World.cell?,mS]
   have Yt:=af mS;have HS:=ae (ag iU (ag mS (ag bQ (ag hrow (ag dM dW)))));clear GZ iU mS bQ hrow dM dW gB;have mm:decide ((fr:Int)<(fr:Int))=false:=by simp
   go_wp2_with fail
   (with_reducible refine LN.out.mono ?_);rintro e w4 ⟨fv,rfl,sB,hg4⟩;obtain ⟨iU,mS,bQ,hrow,dM,dW⟩:=HS.out;obtain ⟨zv,zw,rfl⟩:=sB.slice;have zx:=hg4.heap mS;have cM:=Go.Gl.aK (Go.Gl.aK zx 1 (.int .i64 (gs.length:Int))) 2 (.slice zv (dV l).length zw);have BP:GX tb w4 ((w4.setCell ⟨tb,1,none⟩ (.int .i64 (gs.length:Int))).setCell ⟨tb,2,none⟩ (.slice zv (dV l).length zw)):=(Go.Gl.je _ _ _ _).trans (Go.Gl.je _ _ _ _);have zy:Below w.heap.size w ((w4.setCell ⟨tb,1,none⟩ (.int .i64 (gs.length:Int))).setCell ⟨tb,2,none⟩ (.slice zv (dV l).length zw)):=((dM.trans (hg4.mono dM.size)).setCell (p:=⟨tb,1,none⟩) Ru _).setCell (p:=⟨tb,2,none⟩) Ru _;have qo:cO w.heap.size NF ((w4.setCell ⟨tb,1,none⟩ (.int .i64 (gs.length:Int))).setCell ⟨tb,2,none⟩ (.slice zv (dV l).length zw)) (.slice ta ys.length tc) ys:=(cO.grow hrow hg4 (fun b h=>h.elim)).gx BP (fun cur t f hc=>by
    rw [zx] at hc;have:=(cE (bk hc)).2.1;subst this;exact ⟨by decide,by decide⟩)
   have Ez:ig w.heap.size ((w4.setCell ⟨tb,1,none⟩ (.int .i64 (gs.length:Int))).setCell ⟨tb,2,none⟩ (.slice zv (dV l).length zw)) (.slice ka gs.length kc) (lW 0 gs):=by
    have hk4:=iU.grow hg4;exact hk4.keep (fun g hg=>BP.block g (hk4.lt hg).2.1 (fun e=>by
     obtain ⟨_,_,cur,h3⟩:=hk4.lt hg;cases e;rw [zx] at h3;exact absurd (cE (bk h3)).2.1 (by decide)))
   have EA:aI w.heap.size ((w4.setCell ⟨tb,1,none⟩ (.int .i64 (gs.length:Int))).setCell ⟨tb,2,none⟩ (.slice zv (dV l).length zw)) (.slice zv (dV l).length zw) (dV l):=by
    have h1:=sB.mono dM.size;exact h1.keep (fun g hg=>BP.block g (h1.lt hg).2 (fun e=>by
     obtain ⟨cur,h3⟩:=h1.block hg;cases e;rw [zx] at h3;exact absurd (cE (bk h3)).2.1 (by decide)))
   have t1:w4.cell? ⟨tb,1,none⟩=some (.int .i64 0):=by simp [World.cell?,zx]
   have t2:w4.cell? ⟨tb,2,none⟩=some (.slice none 0 0):=by simp [World.cell?,zx]
   have lt4:=af zx;have ft4:=bG zx;have H5:=ae (ag cM (ag zy (ag qo (ag Ez (ag EA (ag bQ dW))))));clear cM BP zy qo Ez EA zx iU mS bQ hrow dM dW sB hg4 HS LN t0 Yt
   go_upto_region 21 with fail
   obtain ⟨w5,nR⟩:∃ W,(w4.setCell ⟨tb,1,none⟩ (.int .i64 (gs.length:Int))).setCell ⟨tb,2,none⟩ (.slice zv (dV l).length zw)=W:=⟨_,rfl⟩
   rw [nR] at H5 ⊢;clear nR t1 t2 lt4 ft4;obtain ⟨cM,zy,qo,Ez,EA,bQ,dW⟩:=H5.out;obtain ⟨ad6,ajS⟩:∃ ad,Option.map (fun x=>Addr.add x fr) ba=ad:=⟨_,rfl⟩
   have Yu:=QS (HB.out.grow (w':=w5) zy) (i:=fr) (j:=th) (k:=th) (by omega) (by omega) (aw _) (by omega);rw [if_neg (show ¬ th=fr by omega),ajS,HP.out.idx] at Yu;have aBZ:(if th=fr then ba else ad6)=ad6:=if_neg (by omega);have hbl:=GV gs;rw [Ro.out] at hbl;obtain ⟨mO,Jr,ed,hpl,Rn,hD,tH,hen,kQ⟩:=Hf.out;have eV:=QE gs 0 Rp.out;rw [Ro.out,DN] at eV;have GW:∀ g∈gs,(bh g).length≤(bh l).length:=fun g hg=>by
    rw [←Ro.out,←aip];exact Xz (aZ.2 ⟨g,hg,rfl⟩)
   have kZ:=Xx gs 0 (fun g hg=>⟨Rp.out g hg,by have:=GW g hg;omega⟩) (by rw [Ha.out];omega);have pH:=fun W (hg:Grow w5 W)=>aha (Ez.grow hg) kZ (by rw [sj];omega) (by rw [DN];omega)
   rw [DN] at pH;have Bu:=ae pH;have EB:=ae Yu;have c1:(0:Int)≤(fr:Int):=by omega
   have c2:(fr:Int)≤(th:Int):=by omega
   have c3:(th:Int)≤(bc:Int):=by omega
   have ml:(jI 0 gs).length≤67108864:=by omega
   clear pH Yu hbl mO Jr ed hpl Rn hD tH hen kQ eV GW kZ cM zy qo Ez EA bQ dW;refine dz (fun V=>Below w5.heap.size w5 V) [6,0,0] (by kernel_rfl) (bK fun _ _ _ _ _ h=>h) (by ((repeat (first|exact bS _ _|assumption|refine cz ?_|refine cA ?_|refine cj ?_ ?_ _|refine cy ?_ ?_ _))<;>try (first|omega|(simp<;>omega)))) ?_;simp only [cF]
   repeat ((first|(refine aA (v:= ?_) (by rfl) ?_ ?_;rotate_left;rintro W hW;go_simp;with_reducible rfl)|refine aB (by rfl) ?_);simp only [ai,List.set])
   clear c1 c2 c3 ajS aBZ;have hgd:=az w5;refine bp (by rfl) (by go_simp) (Bu.out w5.drew hgd) ?_;rintro e w6 ⟨xv,rfl,qi,cx⟩;have EC:=hgd.trans cx;refine ⟨_,rfl,EC,?_⟩
   try simp only [ai,List.set,aC]
   refine bp (by rfl) (by go_simp) (Cz (cI qi) ml) ?_;rintro e w7 ⟨Yv,rfl,ED,cG⟩;have om:=EC.trans cG;refine ⟨_,rfl,om,?_⟩
   try simp only [ai,List.set,aC]
   refine bp (by rfl) (by go_simp) (TV (EB.out.grow om) (cI ED)) ?_;rintro e w8 ⟨rfl,di⟩;have Yw:=om.trans di;refine ⟨_,rfl,Yw,?_⟩
   try simp only [ai,List.set,aC]
   try rw [decide_eq_true (rfl:bB aq (jI 0 gs)=bB aq (jI 0 gs))]
   obtain ⟨DR,xL,DT,rfl⟩:∃ a L c,xv= .slice a L c:=by obtain ⟨a,c,h⟩:=qi.slice;exact ⟨_,_,_,h⟩
   obtain ⟨yya,yL,yyc,rfl⟩:∃ a L c,Yv= .slice a L c:=by obtain ⟨a,c,h⟩:=ED.slice;exact ⟨_,_,_,h⟩
   repeat ((first|(refine aA (v:= ?_) (by rfl) ?_ ?_;rotate_left;rintro W hW;go_simp;with_reducible rfl)|refine aB (by rfl) ?_);simp only [ai,List.set])
   refine bj ?_;have Rx:=ae Yw;clear Yw di om cG EC cx hgd qi ED Bu EB ml
   go_upto_region 23 with fail
   obtain ⟨cM,zy,qo,Ez,EA,bQ,dW⟩:=H5.out;have qp:=Rx.out.heap cM;have uf:=zy.trans (Rx.out.mono zy.size);have lB:=cO.grow qo Rx.out (fun b h=>h.elim);have ajT:=EA.grow Rx.out;obtain ⟨ad7,ajV⟩:∃ ad,Option.map (fun x=>Addr.add x th) ba=ad:=⟨_,rfl⟩
   have aCc:(if en=th then ba else ad7)=ad7:=if_neg (by omega);have Gv:=QS (HB.out.grow (w':=w8) uf) (i:=th) (j:=en) (k:=en) (by omega) (by omega) (aw _) (by omega);rw [if_neg (show ¬ en=th by omega),ajV,HP.out.fil] at Gv;have ed:=Hf.out.2.2.1;have ajW:(dV l).length≤67108864:=by
    rw [ed];have:=GK l l.length;unfold gV;omega
   have s0:w8.cell? ⟨tb,0,none⟩=some (.slice ta ys.length tc):=by simp [World.cell?,qp]
   have s2:w8.cell? ⟨tb,2,none⟩=some (.slice zv (dV l).length zw):=by simp [World.cell?,qp]
   have lt8:=af qp;have HC7:=ae Gv;have ajZ:=ae ajT;have H8:=ae (ag qp (ag uf (ag lB (ag bQ dW))));have c1:(0:Int)≤(th:Int):=by omega
   have c2:(th:Int)≤(en:Int):=by omega
   have c3:(en:Int)≤(bc:Int):=by omega
   have aCd:=Grow.cells (w:=w8);clear cM zy qo Ez EA qp uf lB ajT Gv ed bQ dW s0;refine dz (fun V=>Below w8.heap.size w8 V) [9,0] (by kernel_rfl) (bK fun _ _ _ _ _ h=>h) (by ((repeat (first|exact bS _ _|assumption|refine cz ?_|refine cA ?_|refine cj ?_ ?_ _|refine cy ?_ ?_ _))<;>try (first|omega|(simp<;>omega)))) ?_;simp only [cF]
   repeat ((first|(refine aA (v:= ?_) (by rfl) ?_ ?_;rotate_left;rintro W hW;go_simp;with_reducible rfl)|refine aB (by rfl) ?_);simp only [ai,List.set])
   clear c1 c2 c3 ajV aCc s2 lt8 aCd;have hgd:=az w8;refine bp (by rfl) (by go_simp) (Cz (cI (ajZ.out.grow hgd)) ajW) ?_;rintro e w9 ⟨Yv,rfl,ED,vx⟩;have pD:=hgd.trans vx;refine ⟨_,rfl,pD,?_⟩
   try simp only [ai,List.set,aC]
   refine bp (by rfl) (by go_simp) (TV (HC7.out.grow pD) (cI ED)) ?_;rintro e py ⟨rfl,tV⟩;have Yx:=pD.trans tV;refine ⟨_,rfl,Yx,?_⟩
   try simp only [ai,List.set,aC]
   try rw [decide_eq_true (rfl:bB aq (dV l)=bB aq (dV l))]
   obtain ⟨yya,yL,yyc,rfl⟩:∃ a L c,Yv= .slice a L c:=by obtain ⟨a,c,h⟩:=ED.slice;exact ⟨_,_,_,h⟩
   repeat ((first|(refine aA (v:= ?_) (by rfl) ?_ ?_;rotate_left;rintro W hW;go_simp;with_reducible rfl)|refine aB (by rfl) ?_);simp only [ai,List.set])
   refine bj ?_;have Yy:=ae Yx;clear Yx tV pD vx hgd ED HC7 ajZ ajW
   go_upto_region 25 with fail
   obtain ⟨qp,uf,lB,bQ,dW⟩:=H8.out;obtain ⟨zt,zu,BO⟩:=He.out;have Io:=uf.trans (Yy.out.mono uf.size);obtain ⟨ad8,aka⟩:∃ ad,(if bc=vB then ba else ba.map (fun x=>x.add vB))=ad:=⟨_,rfl⟩
   have nJ:=sS (HB.out.grow (w':=py) Io) (i:=vB) (j:=pC) (by omega) (by omega);have p3:=HP.out.n3;rw [←zu,←zt] at p3;rw [aka,p3] at nJ;have jf:=fun W (hg:Grow py W)=>PW (nJ.grow hg) (by rw [mq];decide)
   rw [PV 8 _ (by omega)] at jf;have mZ:=ae jf;have Ip:=Yy.out.heap qp;have s0:py.cell? ⟨tb,0,none⟩=some (.slice ta ys.length tc):=by simp [World.cell?,Ip]
   have age:=af Ip;have Ry:=cO.grow lB Yy.out (fun b h=>h.elim);have H10:=ae (ag Ip (ag Io (ag Ry bQ)));rw [dW] at s0;have Rs:IntKind.i64.wrap ((en:Int)+16)=(vB:Int):=by rw [aS _ (by omega)];omega
   have Rq:IntKind.i64.wrap ((en:Int)+24)=(pC:Int):=by rw [aS _ (by omega)];omega
   have wul:=vo (n:=l.length) (by omega);have c1:(0:Int)≤(vB:Int):=by omega
   have c2:(vB:Int)≤(pC:Int):=by omega
   have c3:(pC:Int)≤(bc:Int):=by omega
   have aCg:=Grow.cells (w:=py);clear qp uf lB bQ dW zt zu BO Io nJ p3 jf Ip Ry;refine ou (fun V=>Below py.heap.size py V) [(0,false),(1,false),(2,false),(3,false),(4,false),(5,false),(7,false),(8,false),(9,false),(10,false),(11,false),(12,false),(6,true),(13,false),(14,false)] (by kernel_rfl) (by kernel_rfl) (bK fun _ _ _ _ _ h=>h) (by ((repeat (first|exact bS _ _|assumption|refine cz ?_|refine cA ?_|refine cj ?_ ?_ _|refine cy ?_ ?_ _))<;>try (first|omega|(simp<;>omega)))) ?_;simp only [cm,nth]
   repeat ((first|(refine aA (v:= ?_) (by rfl) ?_ ?_;rotate_left;rintro W hW;go_simp;with_reducible rfl)|refine aB (by rfl) ?_);simp only [ai,List.set])
   clear c1 c2 c3 aka s0 age aCg Rs Rq wul;refine bp (by rfl) (by go_simp) (mZ.out py.drew (az py)) ?_;rintro e qj ⟨rfl,akb⟩;have aCh:=akb.symm;subst aCh;clear akb;refine ⟨_,rfl,az py,?_⟩
   try simp only [ai,List.set,aC]
   repeat ((first|(refine aA (v:= ?_) (by rfl) ?_ ?_;rotate_left;rintro W hW;go_simp;with_reducible rfl)|refine aB (by rfl) ?_);simp only [ai,List.set])
   refine bj ?_;go_wp2;go_ret2;obtain ⟨Ip,Io,Ry,bQ⟩:=H10.out;exact ⟨tb,rfl,⟨_,_,_,ys,(az py).heap Ip,Ru,bQ,cO.grow Ry (az py) (fun b h=>h.elim)⟩,Io.trans ((az py).mono Io.size)⟩
  |cons g g2=>
   have kQ:g≠ []:=Rp.out g (by rw [eT];simp);have GW:(bh g).length≤(bh l).length:=by
    rw [←gB,List.flatten_cons,sf,sf,aJ,aJ];omega
   have aLb:g.length≤l.length:=by rw [←gB];simp;omega
   have sD:ys.length≤l.length:=by
    have h1:=congrArg List.length bQ;rw [bF] at h1;rw [h1,←gB];simp
   have hyg:ys.length+g.length≤l.length:=by
    have h1:=congrArg List.length bQ;rw [bF] at h1;rw [h1,←gB];simp
   have aLd:fr<a:=by
    have:=Jo aq (bh g);rw [bq];simp only [bV,List.flatMap_cons,aJ,gy];omega
   obtain ⟨ad4,aCi⟩:∃ ad,Option.map (fun x=>Addr.add x fr) ba=ad:=⟨_,rfl⟩
   have hcb:=QS (HB.out.grow (w':=wr) dM) (i:=fr) (j:=a) (k:=a) (by omega) (by omega) (aw _) (by omega);rw [if_neg (show ¬ a=fr by omega),aCi,hblk] at hcb;have nZ:(bV (g::g2)).length=a-fr:=by omega
   have pL:=aBH (by rw [←nZ] at hcb;exact hcb) (aBP g g2 (by omega)) (by have:=my aq (bh g);unfold gy;omega) (by simp [bV]) (by omega);rw [aBQ,nZ] at pL;have mD:=ae pL;have m1:(fr:Int)≤(a:Int):=by omega
   have m2:(a:Int)≤(bc:Int):=by omega
   have m0:(0:Int)≤(fr:Int):=by omega
   have m3:(fr:Int)<(a:Int):=by omega
   have HS:=ae (ag eT (ag iU (ag mS (ag bQ (ag hrow (ag dM (ag gB eY)))))));clear hcb pL hblk bq eT iU mS bQ hrow dM gB eY nZ
   go_wp2_with fail
   (with_reducible refine mD.out.mono ?_);rintro e w4 ⟨pv,rfl,hop,hg4⟩;have xt:=aBG (cI hop) kQ (fun x hx=>iR x (by rw [←HS.out.2.2.2.2.2.2.1];simp [hx])) (by omega) (by omega);have Ep:=ae xt;obtain ⟨pa,pc,rfl⟩:=hop.slice;have EE:=ae hg4;clear hop xt hg4 mD
   go_wp2_with fail
   (with_reducible refine Ep.out.mono ?_);rintro e w5 ⟨ev,zs,rfl,hzs,Yz,br⟩;obtain ⟨eT,iU,mS,bQ,hrow,dM,gB,eY⟩:=HS.out;have BQ:=EE.out.trans br;have hzl:zs.length=g.length:=by have:=congrArg List.length hzs;rwa [bF] at this
   have hgp:0<g.length:=List.length_pos_iff.2 kQ;have qo:cO w.heap.size NF w5 tv ys:=cO.grow hrow BQ (fun b h=>h.elim);have Iq:cO w.heap.size NF w5 ev zs:=Yz.mono (aM dM.size EE.out.size);have EF:=BQ.heap mS;obtain ⟨ta,tc,rfl⟩:=hrow.slice;obtain ⟨za,zc,rfl⟩:=Yz.slice;have t0:w5.cell? ⟨tb,0,none⟩=some (.slice ta ys.length tc):=by simp [World.cell?,EF]
   have lR:=af EF;obtain ⟨m,hm⟩:∃ m,m=ys.length-1:=⟨_,rfl⟩
   have hmx:max (IntKind.i64.wrap ((ys.length:Int)-1)) 0=(m:Int):=by rw [aS _ (by omega)];omega
   have Rz:IntKind.i64.wrap ((ys.length:Int)-1)=(ys.length:Int)-1:=aS _ (by omega);have akc:max ((ys.length:Int)-1) 0=(m:Int):=by omega
   have hyc:ys.length≤tc:=by
    obtain ⟨⟨_,_,he,hl,_⟩,_⟩:=qo.any;cases he;exact hl
   obtain ⟨ad5,akd⟩:∃ ad,(if ys.length=m then ta else ta.map (fun x=>x.add (m*4)))=ad:=⟨_,rfl⟩
   have hcut:=Ww qo.any (i:=m) (j:=ys.length) (k:=ys.length) (by omega) (aw _) (aw _) hyc;rw [akd] at hcut;have aQ:((ys.drop m).take (ys.length-m))=ys.drop m:=List.take_of_length_le (by simp);rw [aQ] at hcut;have ic:(ys.drop m).length=ys.length-m:=by simp
   rw [←ic] at hcut;have ake:cn ((ys.drop m++zs).map Ev.e):=by
    rw [dD,List.map_drop,bQ,hzs];rw [←gB,List.flatten_cons] at ho;exact aBS ho m
   have akf:yZ ((ys.drop m++zs).map Ev.e):=by
    rw [dD,List.map_drop,bQ,hzs];intro x hx;refine jh x ?_;rw [←gB,List.flatten_cons];rcases cU.1 hx with h1|h1
    ·exact jw _ (List.mem_of_mem_drop h1)
    ·exact mX _ (jw _ h1)
   have bm:∀ W,Grow w5 W→∃ v' w',(Builtin.append_ #[57,57] 57 #[.slice ad5 (ys.length-m) (ys.length-m),.slice za g.length zc]).run Tryz.prog W= .ok v' w'∧Es NT w' v' (ys.drop m++zs)∧Grow W w':=fun W hg=>by
    have:=aBJ (hcut.grow hg) (Iq.any.grow hg) (by omega) (by simp;omega);rw [ic] at this;rw [←hzl];exact this
   have HRd:=ae bm;have Hop:=ae (ag ake akf);have HW5:=ae (ag qo (ag Iq (ag EF (ag BQ (ag hzs hzl)))));have n0:(0:Int)≤(m:Int):=by omega
   have n1:(m:Int)≤(ys.length:Int):=by omega
   have n2:(ys.length:Int)≤(tc:Int):=by omega
   have Hm:=ae hm;clear eT iU mS bQ hrow dM gB eY qo Iq EF hcut aQ ic ake akf bm Yz BQ br hzs Ep hm;have aCl:=Grow.cells (w:=w5)
   go_upto_region 15 with fail
   refine dz (fun V=>Below w5.heap.size w5 V) [30,0] (by kernel_rfl) (bK fun _ _ _ _ _ h=>h) (by ((repeat (first|exact bS _ _|assumption|refine cz ?_|refine cA ?_|refine cj ?_ ?_ _|refine cy ?_ ?_ _))<;>try (first|omega|(simp<;>omega)))) ?_;simp only [cF]
   repeat ((first|(refine aA (v:= ?_) (by rfl) ?_ ?_;rotate_left;rintro W hW;go_simp;with_reducible rfl)|refine aB (by rfl) ?_);simp only [ai,List.set])
   clear t0 lR aCl;have hgd:=az w5;obtain ⟨av,w6,r1,Mh,cx⟩:=HRd.out w5.drew hgd;have EC:=hgd.trans cx;refine sR (by rfl) (Cu rfl rfl rfl r1) EC ?_
   try simp only [ai,List.set,aC]
   refine bp (by rfl) (by go_simp) (Xu Mh (by simp;have:=HW5.out.2.2.2.2.2;omega) Hop.out.1 Hop.out.2) ?_;rintro e w7 ⟨rfl,cG⟩;have om:=EC.trans cG;refine ⟨_,rfl,om,?_⟩
   try simp only [ai,List.set,aC]
   obtain ⟨aa,aL,ac,rfl⟩:∃ a L c,av= .slice a L c:=by obtain ⟨a,c,h⟩:=Mh.slice;exact ⟨_,_,_,h⟩
   repeat ((first|(refine aA (v:= ?_) (by rfl) ?_ ?_;rotate_left;rintro W hW;go_simp;with_reducible rfl)|refine aB (by rfl) ?_);simp only [ai,List.set])
   refine bj ?_;have EG:=ae om;clear om EC hgd cx cG Mh r1 HRd Hop n0 n1 n2 akd hmx Rz akc;obtain ⟨eT,iU,mS,bQ,hrow,dM,gB,eY⟩:=HS.out;obtain ⟨qo,Iq,EF,BQ,hzs,YA⟩:=HW5.out;have EH:=cO.grow qo EG.out (fun b h=>h.elim);have RA:=cO.grow Iq EG.out (fun b h=>h.elim);have RB:=EG.out.heap EF;have Ir:ig w.heap.size w7 (.slice ka g1.length kc) (lW 0 g1):=iU.grow (BQ.trans EG.out);have RD:Below w.heap.size w w7:=dM.trans ((BQ.trans EG.out).mono dM.size);have aki:=RA.any;rw [YA] at aki;have akj:=RA.any;obtain ⟨x,xb,xo,xc',xa,xcc,hx0,cN,il,_,_,q0,_,_,_⟩:=akj.read (aV w7) (i:=0) (by omega);cases cN;rw [show xo+0*4=xo by omega] at q0;have hfk:x.e.key=lu g:=by
    rw [←hzs];cases zs with
    |nil=>simp at hx0
    |cons z zs=>simp at hx0;subst hx0;rfl
   rw [hfk] at q0;have aLi:g1.length≤1000000:=by
    have h1:=sj g1 0;have h2:∀ (gg:List (List En)),(∀ u∈gg,u≠ [])→gg.length≤gg.flatten.length:=by
     intro gg
     induction gg with
     |nil=>intro _;simp
     |cons u gg ih=>
      intro hu;have h3:=ih (fun v hv=>hu v (fk _ hv));have h4:0<u.length:=List.length_pos_iff.2 (hu u (dR ..));rw [List.flatten_cons,aJ,dH];omega
    have h3:=h2 g1 (fun u hu=>Rp.out u (by rw [eT];exact jw _ hu));have h4:g1.flatten.length≤l.length:=by rw [←gB];simp
    omega
   obtain ⟨kg,XE,w8,r8,AB,sF⟩:=agX Ir ⟨lu g,fr,(gy g).length⟩ RD.size (by rw [sj];omega);rw [sj] at r8 AB;dsimp only [GH,gy] at r8;have lB:=EH.Em Ir sF;have akl:=RA.Em Ir sF;have uf:Below w.heap.size w w8:=Below.grown RD sF RD.size (fun g hg=>(Ir.lt hg).1);have qp:w8.heap[tb]?=some (.cells #[.slice ta ys.length tc,.int .i64 0,.slice none 0 0] 251 (0,0)):=(sF.block tb (af RB) (fun e=>by
    obtain ⟨_,_,cur,h3⟩:=Ir.lt e.symm;rw [RB] at h3;exact absurd (cE (bk h3)).2.1 (by decide))).trans RB
   obtain ⟨eg,YB,w9,r9,Mi,RG⟩:=aBK lB akl (by omega) uf.size (by omega);rw [YA] at r9 Mi;have RH:=AB.aBR lB RG;have akm:Below w.heap.size w w9:=Below.grown uf RG uf.size (fun g hg=>(sw lB hg).1);have EI:w9.heap[tb]?=some (.cells #[.slice ta ys.length tc,.int .i64 0,.slice none 0 0] 251 (0,0)):=(RG.block tb (af qp) (fun e=>by
    obtain ⟨_,cur,h3⟩:=sw lB e.symm;rw [qp] at h3;exact absurd (cE (bk h3)).2.1 (by decide))).trans qp
   have akn:=Go.Gl.aK EI 0 (.slice (some ⟨eg,0,none⟩) (ys.length+g.length) YB);have BP:GX tb w9 (w9.setCell ⟨tb,0,none⟩ (.slice (some ⟨eg,0,none⟩) (ys.length+g.length) YB)):=Go.Gl.je _ _ _ _;have hrel:Yq w gs tb (.slice (some ⟨kg,0,none⟩) (g1.length+1) XE) (.int .i64 ((fr:Int)+((gy g).length:Int))) (w9.setCell ⟨tb,0,none⟩ (.slice (some ⟨eg,0,none⟩) (ys.length+g.length) YB)):=by
    refine ⟨g1++ [g],g2,_,ys++zs,by rw [eT];simp,?_,?_,akn,?_,?_,akm.setCell (p:=⟨tb,0,none⟩) Ru _⟩
    ·rw [KS,aJ,eY];simp [bV,gy]
    ·rw [WJ,eY,Nat.zero_add]
     exact RH.keep (fun g hg=>BP.block g (RH.lt hg).2.1 (fun e=>by
      obtain ⟨_,_,cur,h3⟩:=RH.lt hg;cases e;rw [EI] at h3;exact absurd (cE (bk h3)).2.1 (by decide)))
    ·rw [dD,bQ,hzs];simp
    ·exact Mi.gx BP (fun cur t f hc=>by
      rw [EI] at hc;have:=(cE (bk hc)).2.1;subst this;exact ⟨by decide,by decide⟩)
   have R8:=ae r8;have R9:=ae r9;have aX:=ae hrel;have rT:w8.cell? ⟨tb,0,none⟩=some (.slice ta ys.length tc):=by simp [World.cell?,qp]
   have lt8:=af qp;have xB:w9.cell? ⟨tb,0,none⟩=some (.slice ta ys.length tc):=by simp [World.cell?,EI]
   have Vn:=af EI;have Vo:=bG EI;have aLj:(gy g).length≤60000000:=by
    have h1:=Xv g;omega
   have aLk:0<(gy g).length:=Jo aq (bh g);have wfr:IntKind.i64.wrap ((fr:Int)+((gy g).length:Int))=(fr:Int)+((gy g).length:Int):=aS _ (by omega);have hg0:(0:Int)<(g.length:Int):=by omega
   clear eT iU mS bQ hrow dM gB eY qo Iq EF BQ hzs YA EH RA RB Ir RD aki akj hx0 hfk r8 AB sF lB akl uf qp r9 Mi RG RH akm EI akn BP hrel hzl
   go_upto_region 18 with (at_builtin;refine fI rfl rfl rfl rfl R8.out ?_)
   go_wp2_with (at_builtin;refine fI rfl rfl rfl rfl R9.out ?_)
   go_roundw
   case rel=>exact aX.out
   case measure=>simp [intOf];omega
abbrev encI:Int→Value:=Value.int .i64
structure RI (w:World) (tm:Nat) (g:Int→Option Value) (m n:Nat) (l:List En) (w':World) (tb:Nat):Prop where
 map:fj w' tm encI (lX g (n:Int) (.pointer (some ⟨tb,0,none⟩))) (m+1)
 sst:ue w.heap.size w' tb l
 gx:GX tm w w'
theorem ue.gx {l:List En} (h:ue B W tb l) (hg:GX r W W') (hr:∀ cur t f,W.heap[r]?≠some (.cells cur t f)):ue B W' tb l:=by
 obtain ⟨v,fv,nb,ys,h1,h2,h3,h4⟩:=h;refine ⟨v,fv,nb,ys,hg.heap h1 (fun e=>hr _ _ _ (e ▸ h1)),h2,h3,h4.keep hg.size (fun _ hb=>hb.elim) (fun b cur t f _ _ hc=>hg.heap hc (fun e=>hr _ _ _ (e ▸ hc)))⟩
theorem fj.Iu {enc:Int→Value} {g:Int→Option Value} {m:Nat} (h:fj w r enc g m):∀ cur t f,w.heap[r]?≠some (.cells cur t f):=by
 obtain ⟨l,c,h1,_⟩:=h;intro cur t f e;unfold Go.Gl.MapAt at h1;rw [h1] at e;cases e
theorem akp {N:Nat} {f:Lk} {o:Od} {drv:Value} {V:bI} {k:Int} (hC:ep w db sb o drv lv mb tm seq hm) (hS:eh w sb p tv V k) (hD:Dl Z B w p r f T K F) (hN:dn N B w) {n:Nat} (hn:n<N) (h6:n<1000000)
  {l:List En} {size:Nat} (hf:f (eH n)=some (gS (eN size [] l) l.length (dV l),(gS (eN size [] l) l.length (dV l)).length)) (hne:l≠ []) (ho:cn l) (jh:yZ l) (iR:∀ x∈l,BN x) (hlen:l.length≤1000000) (nd:(bh l).length+30*l.length≤50000000)
  {g:Int→Option Value} {m:Nat} (hM:fj w tm encI g m):
  Calls Tryz.prog 51 #[.pointer (some ⟨db,0,none⟩),.int .i64 (n:Int)] w fun e w'=>e= .returned .nilIface∧∃ tb,RI w tm g m n l w' tb:=by
 have Hf:=ae hf;have hop:=fun (W:World) (bv:Value) (hb:Bv W bv (gS (eN size [] l) l.length (dV l)))=>aBT hb hne ho jh iR hlen nd
 have Hop:=ae hop;obtain ⟨c0,_,_,_,_,_,_,bu⟩:=hC.cells;obtain ⟨s0,_,_,_,_,_,nr⟩:=hS.cells;have HC:=ae hC;have HS:=ae hS;have HD:=ae hD;have HN:=ae hN;have HM:=ae hM;clear hC hS hD hN hM hf hop ho jh iR nd;generalize gS (eN size [] l) l.length (dV l)=D at*;go_enter Tryz.func51,Tryz.ntmps51
 go_wp2_with fail
 refine dz (fun W=>W.cell? ⟨db,0,none⟩=some (.pointer (some ⟨sb,0,none⟩))∧db<W.heap.size∧W.cell? ⟨sb,0,none⟩=some (.pointer (some ⟨p,0,none⟩))∧sb<W.heap.size) [8,0] (by kernel_rfl) (bK fun _ _ _ _ _ h=>h) ⟨by simpa using c0,by simpa using bu,by simpa using s0,by simpa using nr⟩ ?_;simp only [cF];clear c0 bu s0 nr
 repeat ((first|(refine aA (v:= ?_) (by rfl) ?_ ?_;rotate_left;rintro W ⟨hW0,hW1,hW2,hW3⟩;go_simp;with_reducible rfl)|refine aB (by rfl) ?_);simp only [ai,List.set])
 have hgd:=az w;refine bp (by rfl) (by go_simp) (XP (HN.out.grow hgd HD.out.base) hn h6) ?_;rintro e w1 ⟨rfl,hg1⟩;have ug:=hgd.trans hg1;obtain ⟨c0,_,_,_,_,_,_,bu⟩:=(HC.out.grow ug).cells;obtain ⟨s0,_,_,_,_,_,nr⟩:=(HS.out.grow ug).cells;refine ⟨_,rfl,⟨c0,bu,s0,nr⟩,?_⟩
 try simp only [ai,List.set,aC]
 have bm:=JZ (HD.out.grow ug) (eH n);rw [Hf.out] at bm;refine bp (by rfl) (by go_simp) bm ?_;rintro e w2 ⟨⟨bv,rfl,bC⟩,hg2⟩;have jr:=ug.trans hg2;obtain ⟨c0,_,_,_,_,_,_,bu⟩:=(HC.out.grow jr).cells;obtain ⟨s0,_,_,_,_,_,nr⟩:=(HS.out.grow jr).cells;refine ⟨_,rfl,⟨c0,bu,s0,nr⟩,?_⟩;have Hc:=ae (Hop.out w2 bv (cI bC));obtain ⟨ba,bL,bc,rfl⟩:∃ a L c,bv= .slice a L c:=by obtain ⟨a,c,h⟩:=bC.slice;exact ⟨_,_,_,h⟩
 have RJ:=ae jr;clear bm bC hg2 jr ug hg1 hgd c0 bu s0 nr
 try simp only [ai,List.set,aC]
 repeat ((first|(refine aA (v:= ?_) (by rfl) ?_ ?_;rotate_left;rintro W ⟨hW0,hW1,hW2,hW3⟩;go_simp;with_reducible rfl)|refine aB (by rfl) ?_);simp only [ai,List.set])
 refine bj ?_
 go_wp2_with fail
 (with_reducible refine Hc.out.mono ?_);rintro e w3 ⟨tb,rfl,hst,hg3⟩;have zA:=RJ.out.trans hg3;obtain ⟨_,_,_,_,c9,_,_,bu⟩:=(HC.out.grow zA).cells;obtain ⟨w4,BR,qW,hgx⟩:=Yn Yl Tryz.underlying90 (HM.out.grow zA) (n:Int) (.pointer (some ⟨tb,0,none⟩));have oG:=(HM.out.grow zA).Iu;obtain ⟨sv,sfv,snb,sys,sh1,sh2,sh3,RM⟩:=hst;have akt:ue w.heap.size w3 tb l:=⟨sv,sfv,snb,sys,sh1,aM RJ.out.size sh2,sh3,⟨⟨RM.1.1,by
  rcases RM.1.2 with h1|⟨g',cap,cur,h1,hB,kR⟩
  ·exact .inl h1
  ·exact .inr ⟨g',cap,cur,h1,aM RJ.out.size hB,kR⟩⟩,fun y hy=>by
   obtain ⟨q1,q2⟩:=RM.2 y hy;exact ⟨q1,q2.imp id (fun q3 b hb=>(q3 b hb).imp id (fun q4=>⟨aM RJ.out.size q4.1,q4.2⟩))⟩⟩⟩
 have hl:RI w tm g m n l w4 tb:=⟨qW,akt.gx hgx oG,(GX.of zA).trans hgx⟩
 have Hl:=ae hl;clear akt hl qW hgx oG hg3 zA sh1 sh2 sh3 RM;go_wp2;go_ret;exact ⟨rfl,tb,Hl.out⟩
theorem Tryz.aku:(Tryz.prog.info? 113).map (fun i=>(i.zero,i.size,i.bytes))=some (some .nilIface,1,16):=by kernel_rfl
def nK (mb:Nat) (tbs:List Nat):List Value:= .iface 89 (.pointer (some ⟨mb,0,none⟩))::tbs.map (fun t=>Value.iface 143 (.pointer (some ⟨t,0,none⟩)))
structure YC (w w1:World) (mb:Nat) (tv:Value) (tabs:List Tb) (tbs:List Nat) (i:Nat) (sv:Value) (wr:World):Prop where
 row:Go.Gl.Row1 113 w.heap.size wr sv (nK mb (tbs.take i))
 grow:Grow w wr
 tabs:Mn.Own w.heap.size wr tv tabs
theorem aCo (h:Go.Gl.Row1 113 B w v xs) (hB:B≤w.heap.size) (hl:xs.length≤1000000) (x:Value) (hx:x.oneCell'=true):
  ∃ v' w',(Builtin.append_ #[110,110] 110 #[v,.slice (some ⟨w.heap.size,0,none⟩) 1 1]).run Tryz.prog (w.alloc (.cells #[x] 113))= .ok v' w'∧Go.Gl.Row1 113 B w' v' (xs++ [x])∧w.grownBy w' v.ownBlock:=by
 have eK:(w.alloc (.cells #[x] 113)).heap[w.heap.size]?=some (.cells #[x] 113 (0,0)):=ax _ _;have lH:Src Tryz.prog 1 110 (.slice (some ⟨w.heap.size,0,none⟩) 1 1) 1 [x] (w.alloc (.cells #[x] 113)):=
  Src.ofSlice _ Tryz.underlying110 ⟨w.heap.size,0,none⟩ 1 1 [x] rfl (fun j u hu=>World.news_of_block eK j u (by simpa using hu)) (fun u hu=>by rw [cY.1 hu];exact hx)
 obtain ⟨v',w',h1,h2,h3,_⟩:=yb (ty:=110) Tryz.underlying110 Tryz.aku rfl (h.grow (ar _ _)) lH (by simp;omega) (by unfold maxLen;omega) (by omega);obtain ⟨a,b,c,d,e⟩:=h3;exact ⟨v',w',h1,h2,⟨a,b,c,aM (by simp) d,fun k hk hn=>by rw [e k (by simp;omega) hn];exact heap_alloc_old _ _ hk⟩⟩
theorem aCp (tv:Value) (s n wl:Int) (w:World):(Instr.field 85 (.agg (bP tv s n wl)) 0).run Tryz.prog w= .ok tv w:=by kernel_rfl
theorem aCq (tv:Value) (s n wl:Int) (w:World):(Instr.field 85 (.agg (bP tv s n wl)) 2).run Tryz.prog w= .ok (.int .i64 n) w:=by kernel_rfl
def aCr (w w1:World) (mb:Nat) (tv:Value) (tabs:List Tb) (tbs:List Nat) (sv iv:Value) (wr:World):Prop:=
 ∃ i:Nat,iv= .int .i64 (i:Int)∧i≤tabs.length∧YC w w1 mb tv tabs tbs i sv wr
theorem akv {o:Od} {drv:Value} {V:bI} {k:Int} (hC:ep w db sb o drv lv mb tm seq hm) (hS:eh w sb p tv V k) (hown:Mn.Own B' w tv V.tabs) (qu:V.tabs.length≤100000)
  {g:Int→Option Value} {m:Nat} (hM:fj w tm encI g m) {tbs:List Nat} (ib:tbs.length=V.tabs.length) (dY:∀ (i:Nat) (t:Tb) (b:Nat),V.tabs[i]?=some t→tbs[i]?=some b→g t.file=some (.pointer (some ⟨b,0,none⟩))):
  Calls Tryz.prog 45 #[.pointer (some ⟨db,0,none⟩)] w fun e w'=>∃ v,e= .returned v∧Go.Gl.Row1 113 w.heap.size w' v (nK mb tbs)∧Grow w w':=by
 obtain ⟨c0,_,_,c8,_,_,_,bu⟩:=hC.cells;have ah:=ar w (.cells #[.iface 89 (.pointer (some ⟨mb,0,none⟩))] 113);have dJ:=ax w (.cells #[.iface 89 (.pointer (some ⟨mb,0,none⟩))] 113);have hrow:Go.Gl.Row1 113 w.heap.size (w.alloc (.cells #[.iface 89 (.pointer (some ⟨mb,0,none⟩))] 113)) (.slice (some ⟨w.heap.size,0,none⟩) 1 1) [.iface 89 (.pointer (some ⟨mb,0,none⟩))]:=
  .inr ⟨w.heap.size,1,_,rfl,aw _,dJ,by simp,by simp,by unfold maxLen;omega,rfl⟩
 have uh:=VN (hS.grow ah) (eM hown ah) (by omega);have BS:=ae uh;have ox:=ae hrow;have cQ:=ae ah;have HC:=ae hC;have HM:=ae hM;have kX:=ae dY;have aQ:(w.alloc (.cells #[.iface 89 (.pointer (some ⟨mb,0,none⟩))] 113)).cell? ⟨db,0,none⟩=some (.pointer (some ⟨sb,0,none⟩)):=by rw [World.cell?_alloc_lt _ _ _ bu];exact c0
 have aCs:=cf bu ah.size;clear uh hrow ah dJ hC hM hS hown dY;go_enter Tryz.func45,Tryz.ntmps45
 go_upto_region 2 with fail
 generalize w.alloc (.cells #[.iface 89 (.pointer (some ⟨mb,0,none⟩))] 113)=w1 at*;clear c0 c8 bu;obtain ⟨wb,vz⟩:∃ wb,wb=w.heap.size:=⟨_,rfl⟩
 rw [←vz] at ox;rw [←vz];have Hwb:=ae vz;clear vz
 go_wp2_with fail
 (with_reducible refine BS.out.mono ?_);rintro e w2 ⟨tv2,rfl,hown2,hg2⟩;have hst:YC w w1 mb tv2 V.tabs tbs 0 (.slice (some ⟨wb,0,none⟩) 1 1) w2:=⟨by rw [←Hwb.out];exact ox.out.grow hg2,cQ.out.trans hg2,qK hown2 cQ.out.size⟩
 have bJ:=ae hst;obtain ⟨ta,tc,rfl⟩:=jL hown2;have hvt:=aCp (.slice ta V.tabs.length tc) V.seq V.next V.wal w2;clear hst hown2 hg2 aQ aCs BS ox
 go_wp2_with fail
 go_loopw [3,19] (fun sv iv wr=>aCr w w1 mb (.slice ta V.tabs.length tc) V.tabs tbs sv iv wr) (fun _ iv _=>V.tabs.length-(intOf iv).toNat)
 case atStart=>exact ⟨0,rfl,aY _,bJ.out⟩
 case round=>
  clear bJ;obtain ⟨i,rfl,hi,hs⟩:=hrel;by_cases hlt:i<V.tabs.length
  ·obtain ⟨t,ht⟩:∃ t,V.tabs[i]?=some t:=⟨V.tabs[i],by simp [hlt]⟩
   obtain ⟨b,hb⟩:∃ b,tbs[i]?=some b:=⟨tbs[i]'(by omega),by simp [ib,hlt]⟩
   have hgk:=kX.out i t b ht hb;obtain ⟨gT,aCv,aCw,lA,hBT,Mj,kR⟩:∃ (g cap:Nat) (cur:Array Value),(Value.slice ta V.tabs.length tc)= .slice (some ⟨g,0,none⟩) V.tabs.length cap∧w.heap.size≤g∧wr.heap[g]?=some (.cells cur 101 (0,0))∧Rd wr g 0 ji 5 V.tabs:=by
    rcases id hs.tabs.2 with ⟨h1,h0⟩|⟨g,cap,cur,h1,h2,h3,h4⟩
    ·omega
    ·exact ⟨g,cap,cur,h1,h2,h3,wC qL (h1 ▸ hs.tabs)⟩
   cases lA;have iX:=kR i t ht;have hlk:=Md Yl Tryz.underlying90 (z:= .pointer none) (by kernel_rfl) (HM.out.grow hs.grow) t.file;rw [hgk] at hlk;obtain ⟨f0,f1,f2,f3,f4⟩:=t;have a0:=iX 0 _ rfl;have a1:=iX 1 _ rfl;have a2:=iX 2 _ rfl;have a3:=iX 3 _ rfl;have a4:=iX 4 _ rfl;simp only [Nat.add_zero,Nat.zero_add] at a0 a1 a2 a3 a4;have lT:gT<wr.heap.size:=af Mj;have eB:(i:Int)<(V.tabs.length:Int):=by omega
   have bO:(0:Int)≤(i:Int):=by omega
   have fE:IntKind.i64.wrap ((i:Int)+1)=(i:Int)+1:=aS _ (by omega);have aU:Grow wr (wr.alloc (.cells #[.int .i64 f0,.int .i64 f1,.string f2,.string f3,.int .i64 f4] 101)):=ar _ _;have dJ:=ax wr (.cells #[.int .i64 f0,.int .i64 f1,.string f2,.string f3,.int .i64 f4] 101);obtain ⟨sa,sc,rfl⟩:=hs.row.slice;have nU:(nK mb (tbs.take i)).length=i+1:=by simp [nK];omega
   rw [nU] at hs ⊢;have Hs:=ae hs;have Dr:=ae aU;have HbI:=ae hb;clear hlk iX kR Mj hs hb
   go_upto_region 5 with fail
   clear a0 a1 a2 a3 a4 lT;generalize wr.alloc (.cells #[.int .i64 f0,.int .i64 f1,.string f2,.string f3,.int .i64 f4] 101)=w5 at*;generalize wr.heap.size=xb at*;obtain ⟨_,_,_,_,c9,_,_,bu⟩:=((HC.out.grow Hs.out.grow).grow Dr.out).cells;obtain ⟨t0,t1,t2,t3,t4⟩:=dw dJ;have lR:=af dJ;refine dz (fun W=>W.cell? ⟨db,9,none⟩=some (.map (some tm))∧db<W.heap.size∧W.cell? ⟨xb,0,none⟩=some (.int .i64 f0)∧xb<W.heap.size) [7,1,0] (by kernel_rfl) (bK fun _ _ _ _ _ h=>h) ⟨by simpa using c9,by simpa using bu,by simpa using t0,by simpa using lR⟩ ?_;simp only [cF];clear c9 bu t0 t1 t2 t3 t4 lR aU
   repeat ((first|(refine aA (v:= ?_) (by rfl) ?_ ?_;rotate_left;rintro W ⟨hW0,hW1,hW2,hW3⟩;go_simp;with_reducible rfl)|refine aB (by rfl) ?_);simp only [ai,List.set])
   have hgd:=Dr.out.trans (az w5);have hlk:=Md Yl Tryz.underlying90 (z:= .pointer none) (by kernel_rfl) ((HM.out.grow Hs.out.grow).grow hgd) f0;rw [hgk] at hlk;obtain ⟨_,_,_,_,c9,_,_,bu⟩:=((HC.out.grow Hs.out.grow).grow hgd).cells;have Mk:=(az w5).heap dJ;obtain ⟨t0,t1,t2,t3,t4⟩:=dw Mk;have lR:=af Mk;refine fO (by rfl) (fun K hK=> ?_);go_simp;refine hK _ _ ⟨⟨c9,bu,t0,lR⟩,?_⟩;clear hK K hlk
   try simp only [ai,List.set,aC]
   repeat ((first|(refine aA (v:= ?_) (by rfl) ?_ ?_;rotate_left;rintro W ⟨hW0,hW1,hW2,hW3⟩;go_simp;with_reducible rfl)|refine aB (by rfl) ?_);simp only [ai,List.set])
   obtain ⟨v',w6,hrun,hrow,hgr⟩:=aCo (Hs.out.row.grow hgd) (aM Hs.out.grow.size hgd.size) (by rw [nU];omega) (.iface 143 (.pointer (some ⟨b,0,none⟩))) rfl;have pY:=ar w5.drew (.cells #[.iface 143 (.pointer (some ⟨b,0,none⟩))] 113);have zB:=Hs.out.row.grow hgd;have kp:∀ (c:Nat) (arr:Array Value) (ty:TypeId) (fz:Nat×Nat),w5.drew.heap[c]?=some (.cells arr ty fz)→ty≠113→w6.heap[c]?=some (.cells arr ty fz):=fun c arr ty fz hc hne=>
    (hgr.block c (af hc) (fun e=>zB.apart hc hne e.symm)).trans hc
   have Ri:w5.drew.heap[db]?=some (.cells (ru sb o drv lv mb tm seq hm) 93 (0,0)):=(HC.out.grow Hs.out.grow).grow hgd;have akx:ep w6 db sb o drv lv mb tm seq hm:=kp _ _ _ _ Ri (by decide);have YD:=kp _ _ _ _ Mk (by decide);have fP:YC w w1 mb (.slice (some ⟨gT,0,none⟩) V.tabs.length tc) V.tabs tbs (i+1) v' w6:=by
    refine ⟨?_,?_,wG (eM Hs.out.tabs hgd) (fun g' eR=> ?_)⟩
    ·have:nK mb (tbs.take (i+1))=nK mb (tbs.take i)++ [.iface 143 (.pointer (some ⟨b,0,none⟩))]:=by
      unfold nK;rw [take_one HbI.out];simp
     rw [this];exact hrow
    ·exact (Hs.out.grow.trans hgd).grown hgr (aM Hs.out.grow.size hgd.size) (fun k e=>(zB.lt e).1)
    ·obtain ⟨cur,hc,_⟩:=rP (eM Hs.out.tabs hgd) eR
     exact (kp _ _ _ _ hc (by decide)).trans hc.symm
   have kr:=ae fP;obtain ⟨va,vL,vc,rfl⟩:∃ a L c,v'= .slice a L c:=by obtain ⟨a,c,h⟩:=hrow.slice;exact ⟨_,_,_,h⟩
   refine sR (by rfl) (sQ (v:= .iface 143 (.pointer (some ⟨b,0,none⟩))) rfl Tryz.underlying110 Tryz.aku rfl rfl rfl) ⟨by rw [World.cell?_alloc_lt _ _ _ bu];exact c9,cf bu pY.size,by rw [World.cell?_alloc_lt _ _ _ lR];exact t0,cf lR pY.size⟩ ?_
   try simp only [ai,List.set,aC]
   obtain ⟨_,_,_,_,d9,_,_,aky⟩:=akx.cells;obtain ⟨x0,_,_,_,_⟩:=dw YD;refine sR (by rfl) (Cu rfl rfl rfl hrun) ⟨d9,aky,x0,af YD⟩ ?_;clear fP hrun hrow hgr pY zB kp Ri akx YD c9 bu t0 t1 t2 t3 t4 lR d9 aky x0 Mk hgd
   try simp only [ai,List.set,aC]
   repeat ((first|(refine aA (v:= ?_) (by rfl) ?_ ?_;rotate_left;rintro W ⟨hW0,hW1,hW2,hW3⟩;go_simp;with_reducible rfl)|refine aB (by rfl) ?_);simp only [ai,List.set])
   refine bj ?_;go_wp2;go_roundw
   case rel=>exact ⟨i+1,by simp,hlt,kr.out⟩
   case measure=>simp [intOf];omega
  ·obtain rfl:i=V.tabs.length:=by omega
   have Hs:=ae hs;have hr:=hs.row;rw [←ib,ij] at hr;obtain ⟨sa,sc,rfl⟩:=hr.slice;have Hr:=ae hr;clear hs hr;go_wp2;go_ret;exact ⟨_,rfl,Hr.out,Hs.out.grow⟩
abbrev vC:Int→Value:=Value.int .u64
def BU (h:Int→Option Value) (k:Nat) (n:Nat):Prop:=(h (k:Int)).getD (.int .i64 0)= .int .i64 (n:Int)
theorem aCy {o:Od} {drv:Value} {seq hm:Nat} (hC:ep w db sb o drv lv mb tm seq hm) {g:Int→Option Value} {m:Nat} (hM:fj w hm vC g m) {n:Nat} (hn:BU g seq n) (RN:n<1000000000):
  Calls Tryz.prog 26 #[.pointer (some ⟨db,0,none⟩)] w fun e w'=>e= .returned (.int .u64 (seq:Int))∧fj w' hm vC (lX g (seq:Int) (.int .i64 ((n+1:Nat):Int))) (m+1)∧GX hm w w':=by
 obtain ⟨_,_,_,_,_,c10,c11,bu⟩:=hC.cells;have oG:=hM.Iu;have fE:IntKind.i64.wrap ((n:Int)+1)=(n:Int)+1:=aS _ (by omega);have e1:((n+1:Nat):Int)=(n:Int)+1:=by omega
 rw [e1];clear e1;have HC:=ae hC;have HM:=ae hM;have Hn:=ae hn;have Hnc:=ae oG;clear hC hM hn oG;go_enter Tryz.func26,Tryz.ntmps26
 go_upto_region 1 with fail
 refine dz (fun W=>W.cell? ⟨db,10,none⟩=some (.int .u64 (seq:Int))∧W.cell? ⟨db,11,none⟩=some (.map (some hm))∧db<W.heap.size) [8,1] (by kernel_rfl) (bK fun _ _ _ _ _ h=>h) ⟨by simpa using c10,by simpa using c11,by simpa using bu⟩ ?_;simp only [cF];clear c10 c11 bu
 repeat ((first|(refine aA (v:= ?_) (by rfl) ?_ ?_;rotate_left;rintro W ⟨hW0,hW1,hW2⟩;go_simp;with_reducible rfl)|refine aB (by rfl) ?_);simp only [ai,List.set])
 have hgd:=az w;have hlk:=Md Im Tryz.underlying91 (z:= .int .i64 0) (by kernel_rfl) (HM.out.grow hgd) (seq:Int);have hn:=Hn.out;unfold BU at hn;rw [hn] at hlk;clear hn;obtain ⟨_,_,_,_,_,c10,c11,bu⟩:=(HC.out.grow hgd).cells;refine fO (by rfl) (fun K hK=> ?_);go_simp;refine hK _ _ ⟨⟨c10,c11,bu⟩,?_⟩;clear hK K hlk
 try simp only [ai,List.set,aC]
 repeat ((first|(refine aA (v:= ?_) (by rfl) ?_ ?_;rotate_left;rintro W ⟨hW0,hW1,hW2⟩;go_simp;with_reducible rfl)|refine aB (by rfl) ?_);simp only [ai,List.set])
 obtain ⟨w4,BR,qW,hgx⟩:=Yn Im Tryz.underlying91 (HM.out.grow hgd) (seq:Int) (.int .i64 ((n:Int)+1));have oG:=(HM.out.grow hgd).Iu;have zC:ep w4 db sb o drv lv mb tm seq hm:=by
  have h:=HC.out.grow hgd;exact hgx.heap h (fun e=>oG _ _ _ (e ▸ h))
 obtain ⟨_,_,_,_,_,d10,d11,akz⟩:=zC.cells;have bw:=ae (ag qW ((GX.of hgd).trans hgx));refine fO (by rfl) (fun K hK=> ?_);go_simp;refine hK _ _ ⟨⟨d10,d11,akz⟩,?_⟩;clear hK K BR qW hgx oG zC hgd c10 c11 bu;refine bj ?_;go_wp2;go_ret;exact ⟨rfl,bw.out⟩
def aCz (w:World) (hm:Nat) (g:Int→Option Value) (m s n:Nat) (e:Ending) (w':World):Prop:=
 (n=0∧e= .returned (.int .i64 4)∧w'=w)∨
 (n=1∧e= .returned (.int .i64 0)∧fj w' hm vC (Mc (lX g (s:Int) (.int .i64 0)) (s:Int)) (m+1)∧GX hm w w')∨
 (2≤n∧e= .returned (.int .i64 0)∧fj w' hm vC (lX g (s:Int) (.int .i64 ((n:Int)-1))) (m+1)∧GX hm w w')
theorem aCA {o:Od} {drv:Value} (hC:ep w db sb o drv lv mb tm seq hm) {g:Int→Option Value} {m:Nat} (hM:fj w hm vC g m) {s:Nat} (hn:BU g s n) (RN:n<1000000000):
  Calls Tryz.prog 25 #[.pointer (some ⟨db,0,none⟩),.int .u64 (s:Int)] w (aCz w hm g m s n):=by
 obtain ⟨_,_,_,_,_,_,c11,bu⟩:=hC.cells;have oG:=hM.Iu;have fE:IntKind.i64.wrap ((n:Int)-1)=(n:Int)-1:=aS _ (by omega);have hlk:=Md Im Tryz.underlying91 (z:= .int .i64 0) (by kernel_rfl) hM (s:Int);unfold BU at hn;rw [hn] at hlk;obtain ⟨w4,BR,qW,hgx⟩:=Yn Im Tryz.underlying91 hM (s:Int) (.int .i64 ((n:Int)-1));have zC:ep w4 db sb o drv lv mb tm seq hm:=by
  have h:=hC;exact hgx.heap h (fun e=>oG _ _ _ (e ▸ h))
 have akA:=Md Im Tryz.underlying91 (z:= .int .i64 0) (by kernel_rfl) qW (s:Int);have hp:(lX g (s:Int) (.int .i64 ((n:Int)-1)) (s:Int)).getD (.int .i64 0)= .int .i64 ((n:Int)-1):=by unfold lX;rw [if_pos rfl];rfl
 rw [hp] at akA;obtain ⟨w5,Wh,AZ,Eu⟩:=aBF (ty:=0) (kt':=37) Im Tryz.underlying91 qW (s:Int);obtain ⟨_,_,_,_,_,_,d11,akz⟩:=zC.cells;have Hm4:=ae (ag qW hgx);have Hm5:=ae (ag AZ (hgx.trans Eu));clear hC hM hn oG hp qW hgx zC AZ Eu;rcases (by omega:n=0∨n=1∨2≤n) with h0|h1|h2
 ·subst h0
  go_enter Tryz.func25,Tryz.ntmps25;go_wp2;go_ret;exact .inl ⟨rfl,rfl,rfl⟩
 ·subst h1
  simp only [show ((1:Nat):Int)=1 from rfl,show (1:Int)-1=0 from rfl] at hlk BR akA fE;go_enter Tryz.func25,Tryz.ntmps25;go_wp2;go_ret;exact .inr (.inl ⟨rfl,rfl,Hm5.out⟩)
 ·have e1:¬ (n:Int)=0:=by omega
  have e2:¬ (n:Int)-1=0:=by omega
  have FJ:((n:Int)==0)=false:=by simpa using e1
  have e2':((n:Int)-1==0)=false:=by simpa using e2
  go_enter Tryz.func25,Tryz.ntmps25;go_wp2;go_ret;exact .inr (.inr ⟨h2,rfl,Hm4.out⟩)
theorem aCD {ns:List Nd} (h:dQ N w tb ha ns aU dv ds):
  Calls Tryz.prog 44 #[.pointer (some ⟨tb,0,none⟩)] w fun e w'=>e= .returned (.int .i64 ((costs (ns.map (fun n=>n.x.e)):Nat):Int))∧w'=w:=by
 have c9:w.cell? ⟨tb,9,none⟩=some (.int .i64 ((costs (ns.map (fun n=>n.x.e)):Nat):Int)):=by simp [World.cell?,h.self]
 have lt:=af h.self;clear h;generalize ((costs (ns.map (fun n=>n.x.e)):Nat):Int)=c at*;go_enter Tryz.func44,Tryz.ntmps44;go_wp2;go_ret;exact ⟨rfl,rfl⟩
theorem aCE {ns:List Nd} (h:dQ N w tb ha ns aU dv ds):
  Calls Tryz.prog 74 #[.pointer (some ⟨tb,0,none⟩)] w fun e w'=>e= .returned (.int .i64 (ns.length:Int))∧w'=w:=by
 have c7:w.cell? ⟨tb,7,none⟩=some (.int .i64 (ns.length:Int)):=by simp [World.cell?,h.self]
 have lt:=af h.self;clear h;go_enter Tryz.func74,Tryz.ntmps74;go_wp2;go_ret;exact ⟨rfl,rfl⟩
theorem aCF (h:n<1000000):kC (eH n):=by
 have hl:=yn h;refine JW (by simp) (by simp [hl]) ?_;intro c hc;rcases cU.1 hc with hc|hc
 ·exact (by decide:∀ c∈Hu,zX c=true) c hc
 ·rcases cU.1 hc with hc|hc
  ·rw [(List.mem_replicate.1 hc).2];decide
  ·exact Uv (JV n c hc)
theorem Dl.Ml {f:Lk} (h:Dl Z B w p r f T K F) (fC:w.heap[rb]?=some (.cells cs 101 fz)) (j:Nat) (v:Value):Dl Z B (w.setCell ⟨rb,j,none⟩ v) p r f T K F:=by
 have xj:=h.apart fC (by decide) (by decide) (by decide);obtain ⟨V,h1,h2⟩:=h;exact ⟨V,h1.keep (by simp) (fun b hb=>aP _ _ _ _ (fun e=>xj (by have e':b=rb:=e;rw [←e'];exact hb))),h2⟩
theorem oH.OY {f:Lk} (h:oH Z B w p r F w' f T K) (fC:w'.heap[rb]?=some (.cells cs 101 fz)) (hw:w.heap.size≤rb) (v0 v1 v2 v3 v4:Value):
  oH Z B w p r F (((((w'.setCell ⟨rb,0,none⟩ v0).setCell ⟨rb,1,none⟩ v1).setCell ⟨rb,2,none⟩ v2).setCell ⟨rb,3,none⟩ v3).setCell ⟨rb,4,none⟩ v4) f T K:=by
 obtain ⟨F',h1,h2⟩:=h;have b1:=Go.Gl.aK fC 0 v0;have b2:=Go.Gl.aK b1 1 v1;have b3:=Go.Gl.aK b2 2 v2;have b4:=Go.Gl.aK b3 3 v3;exact ⟨F',((((h1.Ml fC 0 v0).Ml b1 1 v1).Ml b2 2 v2).Ml b3 3 v3).Ml b4 4 v4,((((h2.yV hw 0 v0).yV hw 1 v1).yV hw 2 v2).yV hw 3 v3).yV hw 4 v4⟩
def aCG (Z B:Nat) (w:World) (p r:Nat) (f:Lk) (T K:Nat) (F:Nat→Prop) (n:Nat) (lvl:Int) (D:List UInt8) (k0 k1:ByteArray) (e:Ending) (w':World):Prop:=
 (T+D.length≤Z∧e= .returned (.tuple #[.agg #[.int .i64 (n:Int),.int .i64 lvl,.string k0,.string k1,.int .i64 (D.length:Int)],.bool true])∧oH Z B w p r F w' (f.set (eH n) (D,D.length)) (T+D.length) (K+1))∨
 (Z<T+D.length∧e= .returned (.tuple #[.agg #[.int .i64 0,.int .i64 0,.string ⟨#[]⟩,.string ⟨#[]⟩,.int .i64 0],.bool false])∧oH Z B w p r F w' f T (K+1))
theorem aCH {N:Nat} {f:Lk} {o:Od} {drv:Value} {V:bI} {k:Int} (hC:ep w db sb o drv lv mb tm seq hm) (hS:eh w sb p tv V k) (hD:Dl Z B w p r f T K F) (hN:dn N B w) {n:Nat} (hn:n<N) (h6:n<1000000) (hf:f (eH n)=none) {lvl:Int} {ys:List Ev} (hE:Es M w v ys) (hM:∀ b,M b→¬ F b) (hlen:ys.length≤1000000) (ho:cn (ys.map Ev.e)) (jh:yZ (ys.map Ev.e)) {size:Nat} (hsz:o.block=(size:Int)) (hz1:1≤size) (hz2:size≤67108864)
  (BH:∀ y∈ys,y.e.key.size≤65535∧y.e.seq<18446744073709551616∧y.e.val.length≤33554432) (nd:(bh (ys.map Ev.e)).length+30*ys.length≤50000000) (hDl:(gS (eN size [] (ys.map Ev.e)) ys.length (dV (ys.map Ev.e))).length≤1000000000000) {y0 y1:Ev} (qw:ys[0]?=some y0) (zD:ys[ys.length-1]?=some y1):
  Calls Tryz.prog 62 #[.pointer (some ⟨db,0,none⟩),v,.int .i64 (n:Int),.int .i64 lvl] w (aCG Z B w p r f T K F n lvl (gS (eN size [] (ys.map Ev.e)) ys.length (dV (ys.map Ev.e))) y0.e.key y1.e.key):=by
 have ah:=ar w (.cells #[.int .i64 0,.int .i64 0,.string ⟨#[]⟩,.string ⟨#[]⟩,.int .i64 0] 101);have RO:=aAv (hE.grow ah) hlen ho jh hz1 hz2 BH nd;rw [←hsz] at RO;obtain ⟨D,hDD⟩:∃ D,D=gS (eN size [] (ys.map Ev.e)) ys.length (dV (ys.map Ev.e)):=⟨_,rfl⟩
 rw [←hDD] at RO hDl ⊢;clear hDD;obtain ⟨c0,c1,_,_,_,_,_,bu⟩:=(hC.grow ah).cells;have c2:(w.alloc (.cells #[.int .i64 0,.int .i64 0,.string ⟨#[]⟩,.string ⟨#[]⟩,.int .i64 0] 101)).cell? ⟨db,2,none⟩=some (.int .i64 o.block):=by
  have:=hC.grow ah;unfold ep at this;simp [World.cell?,this]
 have Hbu:=ae RO;have HC:=ae (hC.grow ah);have HS:=ae (hS.grow ah);have HD:=ae (hD.grow ah);have HN:=ae (hN.grow ah hD.base);have HE:=ae hE;have HM:=ae hM;have Hf:=ae hf;have cQ:=ae ah;obtain ⟨va,vc,rfl⟩:=hE.slice;have fC:=ax w (.cells #[.int .i64 0,.int .i64 0,.string ⟨#[]⟩,.string ⟨#[]⟩,.int .i64 0] 101);have lO:=ae fC;clear hC hS hD hN hE hM hf RO ho jh BH nd ah fC hsz;go_enter Tryz.func62,Tryz.ntmps62
 go_wp2_with fail
 generalize w.alloc (.cells #[.int .i64 0,.int .i64 0,.string ⟨#[]⟩,.string ⟨#[]⟩,.int .i64 0] 101)=w1 at*;obtain ⟨rb,YE⟩:∃ rb,rb=w.heap.size:=⟨_,rfl⟩
 rw [←YE] at lO ⊢;have YF:=ae YE;clear YE c0 c1 c2 bu;(with_reducible refine Hbu.out.mono ?_);rintro e w2 ⟨bv,rfl,bC,hg2⟩;have Hfi:=ae (XP (HN.out.grow hg2 HD.out.base) hn h6);have Xd:=ae bC;have fA:=ae hg2;obtain ⟨ba,bc,rfl⟩:=bC.slice;clear bC hg2 Hbu
 go_wp2_with fail
 (with_reducible refine Hfi.out.mono ?_);rintro e w3 ⟨rfl,hg3⟩;have pS:=fA.out.trans hg3;obtain ⟨c0,_,_,_,_,_,_,bu⟩:=(HC.out.grow pS).cells;obtain ⟨s0,_,_,_,_,_,nr⟩:=(HS.out.grow pS).cells;have iQ:=ae hg3;have BJ:=ae pS;clear hg3 pS Hfi
 go_wp2_with fail
 have ah:=ar w3 (.cells #[.string (eH n)] 9);(with_reducible refine (adC (HD.out.grow (BJ.out.trans ah)) Hf.out (ax _ _)).mono ?_);rintro e w4 ⟨rfl,hg4⟩;have qd:=(BJ.out.trans ah).trans hg4;have im:=(iQ.out.trans ah).trans hg4;clear c0 bu s0 nr;obtain ⟨c0,_,_,_,_,_,_,bu⟩:=(HC.out.grow qd).cells;obtain ⟨s0,_,_,_,_,_,nr⟩:=(HS.out.grow qd).cells;have Mm:=ae qd;have aCI:=ae (cI (Xd.out.grow im));clear qd im hg4 ah
 go_wp2_with fail
 have hgb:=ar w4 (.cells #[.slice ba D.length bc] 49);(with_reducible refine (VW (HD.out.grow (Mm.out.trans hgb)) (aCF h6) (ax _ _) (aCI.out.grow hgb) hDl).mono ?_);rintro e w5 ⟨c5,f5,T5,rfl,hc5,F5,iG,hs5⟩;have rf:=Mm.out.trans hgb;have uX:=(HS.out.grow rf).sep (HD.out.grow rf) hs5;have kp:∀ (c:Nat) (arr:Array Value) (ty:TypeId) (fz:Nat×Nat),w1.heap[c]?=some (.cells arr ty fz)→ty≠125→ty≠165→ty≠5→w5.heap[c]?=some (.cells arr ty fz):=fun c arr ty fz hc h1 h2 h3=>
  (hs5.out c (af (rf.heap hc)) ((HD.out.grow rf).apart (rf.heap hc) h1 h2 h3)).trans (rf.heap hc)
 have Ij:w1.heap[db]?=some (.cells (ru sb o drv lv mb tm seq hm) 93 (0,0)):=HC.out;have BV:ep w5 db sb o drv lv mb tm seq hm:=kp _ _ _ _ Ij (by decide) (by decide) (by decide);have BW:=kp _ _ _ _ lO.out (by decide) (by decide) (by decide);have RP:Sep F w w5 F5:=(Sep.bT (cQ.out.trans rf)).trans hs5;clear c0 bu s0 nr;obtain ⟨c0,_,_,_,_,_,_,bu⟩:=BV.cells;obtain ⟨s0,_,_,_,_,_,nr⟩:=uX.cells;obtain ⟨r0,r1,r2,r3,r4⟩:=dw BW;have lrb:=af BW;have frb:=bG BW;rcases hc5 with ⟨rfl,hroom,rfl,rfl⟩|⟨rfl,qH,rfl,rfl⟩
 rotate_left
 ·have hend:=(show oH Z B w p r F w5 f5 T5 (K+1) from ⟨F5,iG,RP⟩).OY BW (by have:=YF.out;omega) (.int .i64 0) (.int .i64 0) (.string ⟨#[]⟩) (.string ⟨#[]⟩) (.int .i64 0)
  have aQ:=Go.Gl.aK (Go.Gl.aK (Go.Gl.aK (Go.Gl.aK (Go.Gl.aK BW 0 (.int .i64 0)) 1 (.int .i64 0)) 2 (.string ⟨#[]⟩)) 3 (.string ⟨#[]⟩)) 4 (.int .i64 0);have bw:=ae hend;have gp:=ae (dw aQ);have Mo:=ae qH;clear hend aQ qH BV uX kp Ij BW RP iG hs5 rf hgb;go_wp2;obtain ⟨z0,z1,z2,z3,z4⟩:=gp.out;refine bodyPost_ret (v:= .tuple #[.agg #[.int .i64 0,.int .i64 0,.string ⟨#[]⟩,.string ⟨#[]⟩,.int .i64 0],.bool false]) (by simp [results,Tryz.results62,go_sem,z0,z1,z2,z3,z4]) rfl ?_;exact .inr ⟨Mo.out,rfl,bw.out⟩
 ·have KO:=ae hroom
  have pU:=ae iG;have akF:=ae RP;have HC5:=ae BV;have rY:=ae uX;have YG:=ae BW;clear hroom iG RP BV uX BW kp Ij hs5 rf hgb
  go_wp2_with fail
  have ui:=ar w5 (.cells #[.string (eH n)] 9);have mM:f.add (eH n) D=f.set (eH n) (D,0):=by unfold Lk.add;rw [Hf.out]
  have rF:=Ka (q:=(D,0)) (pU.out.grow ui) (n:=eH n) (by rw [mM,rI]) (ax _ _);rw [mM,Oz] at rF;(with_reducible refine rF.mono ?_);rintro e w6 ⟨rfl,F6,oU,pR⟩;have YH:=(akF.out.trans (Sep.bT ui)).trans pR;have hE6:=HE.out.kp (Kp.axS YH HM.out);have RQ:=(pR.out rb (af (ui.heap YG.out)) ((pU.out.grow ui).apart (ui.heap YG.out) (by decide) (by decide) (by decide))).trans (ui.heap YG.out);obtain ⟨eb,eo,ec,lA,hMb,hbl,bm⟩:=HE.out.addr qw;obtain ⟨eb',eo',ec',akH,aCM,akI,Ey⟩:=hE6.addr qw;rw [lA] at akH;cases akH;cases lA;obtain ⟨a0,_,_,_⟩:=KU Ey qw;obtain ⟨b0,_,_,_⟩:=KU Ey zD;have hne:eb≠rb:=by have:=YF.out;omega
  have yh:0<ys.length:=(dG.1 qw).1;have w1e:IntKind.i64.wrap ((ys.length:Int)-1)=((ys.length-1:Nat):Int):=(aS _ (by omega)).trans (by omega);have lE:=af RQ;have YI:eb<w6.heap.size:=akI;simp only [Nat.zero_mul,Nat.add_zero] at a0;have Iy:=(az w6).heap RQ;have hend:=(show oH Z B w p r F w6.drew (f.set (eH n) (D,D.length)) (T+D.length) (K+1) from ⟨F6,oU.grow (az w6),YH.trans (Sep.bT (az w6))⟩).OY Iy (by have:=YF.out;omega) (.int .i64 (n:Int)) (.int .i64 lvl) (.string y0.e.key) (.string y1.e.key) (.int .i64 (D.length:Int));have aQ:=Go.Gl.aK (Go.Gl.aK (Go.Gl.aK (Go.Gl.aK (Go.Gl.aK Iy 0 (.int .i64 (n:Int))) 1 (.int .i64 lvl)) 2 (.string y0.e.key)) 3 (.string y1.e.key)) 4 (.int .i64 (D.length:Int));have aLt:=bG Iy;clear r0 r1 r2 r3 r4 lrb;obtain ⟨r0,r1,r2,r3,r4⟩:=dw Iy;have lrb:=af Iy;have bw:=ae hend;have gp:=ae (dw aQ);have aLu:=ae RQ;clear hend aQ bm Ey rF pR oU YH hE6 RQ ui mM pU akF hMb aCM hbl akI c0 s0 frb bu nr Iy lE;obtain ⟨i1,eB⟩:∃ i1,i1=ys.length-1:=⟨_,rfl⟩
  rw [←eB] at b0 w1e;have i1l:(i1:Int)<(ys.length:Int):=by omega
  have i1g:(0:Int)≤(i1:Int):=by omega
  have i0l:(0:Int)<(ys.length:Int):=by omega
  clear eB
  go_upto_region 7 with fail
  refine dz (fun W=>W.cell? ⟨eb,eo,none⟩=some (.string y0.e.key)∧W.cell? ⟨eb,eo+i1*4,none⟩=some (.string y1.e.key)∧eb<W.heap.size) [16] (by kernel_rfl) (bK fun _ _ _ _ _ h=>h) ⟨by simpa using a0,by simpa using b0,by simpa using YI⟩ ?_;simp only [cF]
  repeat ((first|(refine aA (v:= ?_) (by rfl) ?_ ?_;rotate_left;rintro W ⟨hW0,hW1,hW2⟩;go_simp;with_reducible rfl)|refine aB (by rfl) ?_);simp only [ai,List.set])
  have a0d:w6.drew.cell? ⟨eb,eo,none⟩=some (.string y0.e.key):=by simpa using a0
  have b0d:w6.drew.cell? ⟨eb,eo+i1*4,none⟩=some (.string y1.e.key):=by simpa using b0
  have lb7:eb<w6.drew.heap.size:=by simpa using YI
  clear a0 b0 YI;generalize w6.drew=w7 at*;have ne:∀ (W:World) (i j:Nat) (u:Value),(W.setCell ⟨rb,j,none⟩ u).cell? ⟨eb,i,none⟩=W.cell? ⟨eb,i,none⟩:=fun W i j u=>by
   simp only [World.cell?,aP W ⟨rb,j,none⟩ u eb hne]
  refine fO (by rfl) (fun K hK=> ?_);go_simp;refine hK _ _ ⟨?_,?_⟩
  ·refine ⟨?_,?_,by simpa using lb7⟩
   ·rw [ne,ne,ne,ne,ne];exact a0d
   ·rw [ne,ne,ne,ne,ne];exact b0d
  clear hK K
  repeat ((first|(refine aA (v:= ?_) (by rfl) ?_ ?_;rotate_left;rintro W ⟨hW0,hW1,hW2⟩;go_simp;with_reducible rfl)|refine aB (by rfl) ?_);simp only [ai,List.set])
  refine bj ?_;obtain ⟨z0,z1,z2,z3,z4⟩:=gp.out;go_wp2;refine bodyPost_ret (v:= .tuple #[.agg #[.int .i64 (n:Int),.int .i64 lvl,.string y0.e.key,.string y1.e.key,.int .i64 (D.length:Int)],.bool true]) (by simp [results,Tryz.results62,go_sem,z0,z1,z2,z3,z4]) rfl ?_;exact .inl ⟨KO.out,rfl,bw.out⟩
theorem YJ:∀ (gs:List (List En)) (k:Nat),(∀ g∈gs,g≠ [])→(jI k gs).length≤(bh gs.flatten).length+30*gs.length
 | [],_,_=>by simp [jI]
 |g::gs,k,h=>by
  have h1:=YJ gs (k+(gy g).length) (fun x hx=>h x (fk _ hx));have h2:=nz (lu g).data.toList;have h3:=Xw (h g (dR ..));have h4:=cB k;have h5:=cB (gy g).length;have e1:(lu g).data.toList.length=(lu g).size:=by rw [gO];rfl
  rw [List.flatten_cons,sf,aJ];simp only [jI,aJ,dH] at*;omega
theorem akJ {size:Nat} {l:List En} (hne:l≠ []) (_hlen:l.length≤1000000) (nd:(bh l).length+30*l.length≤50000000):(gS (eN size [] l) l.length (dV l)).length≤300000000:=by
 have h1:=GV (eN size [] l);have h2:=LI size l [];have h3:=KQ size l [] hne;have h5:=YJ (eN size [] l) 0 (KR size l []);rw [iq] at h3;rw [h3] at h1 h5;have h4:=Lg l;have h6:=GK l l.length;have h7:gV l≤8+(10*l.length+7) / 8:=by unfold gV;omega
 have h8:=my aq (jI 0 (eN size [] l));have h9:=my aq (dV l);have h10:=cB (jI 0 (eN size [] l)).length;have h11:=cB (dV l).length;unfold gS ek;simp only [aJ,PU,mq];omega
abbrev uj:List UInt8:=((⟨cr.toArray⟩:ByteArray)++⟨#[45]⟩).data.toList
theorem gK.RS {f:Lk} {L:List (List UInt8)} (h:gK f a L) {n:ByteArray} (hn:Lib.hasPrefix n.data.toList uj=false) (q:List UInt8×Nat):gK (f.set n q) a L:=by
 have hne:∀ m:ByteArray,Lib.hasPrefix m.data.toList uj=true→m≠n:=fun m hm e=>by rw [e,hn] at hm;cases hm
 refine ⟨fun i q' hq=> ?_,fun m hm hs=> ?_⟩
 ·rw [ik _ (hne _ (PE _))];exact h.there i q' hq
 ·rw [ik _ (hne m hm)] at hs;exact h.only m hm hs
theorem vD (n:Nat):Lib.hasPrefix (eH n).data.toList uj=false:=by
 have:(eH n).data.toList=116::45::fF n:=rfl;rw [this];rfl
theorem BX (n:Nat):Lib.hasPrefix (cX n).data.toList uj=false:=by
 have:(cX n).data.toList=rG++fF n:=rfl;rw [this];rfl
theorem gK.Mp {f:Lk} {L:List (List UInt8)} (h:gK f a L):gK (f.set (bD cr (a+L.length)) ([],0)) a (L++ [[]]):=by
 refine ⟨fun i q hq=> ?_,fun n hn hs=> ?_⟩
 ·by_cases hi:i<L.length
  ·rw [sO hi] at hq
   rw [ik _ (fun e=>by have:=Dy e;omega)];exact h.there i q hq
  ·rw [ur (by omega)] at hq
   have Oj:i=L.length:=by
    have:=(dG.1 hq).1;simp at this;omega
   subst Oj;rw [Nat.sub_self] at hq;cases hq;exact rI _ _ _
 ·by_cases he:n=bD cr (a+L.length)
  ·exact ⟨L.length,by simp,he⟩
  ·rw [ik _ he] at hs
   obtain ⟨i,hi,e⟩:=h.only n hn hs;exact ⟨i,by rw [aJ];omega,e⟩
theorem gK.app {f:Lk} {L:List (List UInt8)} {q:List UInt8} (h:gK f a (L++ [q])) (x:List UInt8):gK (f.set (bD cr (a+L.length)) (q++x,(q++x).length)) a (L++ [q++x]):=by
 refine ⟨fun i q' hq=> ?_,fun n hn hs=> ?_⟩
 ·by_cases hi:i<L.length
  ·rw [sO hi] at hq
   rw [ik _ (fun e=>by have:=Dy e;omega)];exact h.there i q' (by rw [sO hi];exact hq)
  ·rw [ur (by omega)] at hq
   have Oj:i=L.length:=by
    have:=(dG.1 hq).1;simp at this;omega
   subst Oj;rw [Nat.sub_self] at hq;cases hq;exact rI _ _ _
 ·by_cases he:n=bD cr (a+L.length)
  ·exact ⟨L.length,by simp,he⟩
  ·rw [ik _ he] at hs
   obtain ⟨i,hi,e⟩:=h.only n hn hs;exact ⟨i,by simpa using hi,e⟩
abbrev gF (PP:List (List (List UInt8))):List (List UInt8):=PP.map (bZ aq)
theorem akK:∀ (PP:List (List (List UInt8))),(∀ ps∈PP,∀ p∈ps,p.length≤67108864)→mN (gF PP)=PP.flatten
 | [],_=>rfl
 |ps::PP,h=>by
  have h1:=akK PP (fun x hx=>h x (fk _ hx));have h2:=TJ aq ps (h ps (dR ..));unfold mN gF at h1 ⊢;rw [cg,cg,List.flatten_cons,h1,h2,List.flatten_cons]
theorem aCR {PP:List (List (List UInt8))} (h:∀ ps∈PP,∀ p∈ps,p.length≤67108864):∀ q∈gF PP,(lF aq q).2.2=0:=fun q hq=>by
 obtain ⟨ps,fw,rfl⟩:=aZ.1 hq;rw [TJ aq ps (h ps fw)]
theorem aCS (ps:List (List UInt8)) (p:List UInt8):bZ aq (ps++ [p])=bZ aq ps++bB aq p:=by simp [bZ]
theorem aCT {f:Lk} {PP:List (List (List UInt8))} {ps:List (List UInt8)} (h:gK f a (gF (PP++ [ps]))) (p:List UInt8):gK (f.set (bD cr (a+PP.length)) (bZ aq (ps++ [p]),(bZ aq (ps++ [p])).length)) a (gF (PP++ [ps++ [p]])):=by
 have h1:gK f a (gF PP++ [bZ aq ps]):=by simpa [gF] using h
 have h2:=h1.app (bB aq p);rw [←aCS,show (gF PP).length=PP.length by simp [gF]] at h2;simpa [gF] using h2
theorem YK (x:En) (l:List En):(gD x l).length≤l.length:=by
 have:=congrArg List.length (tL x l);rw [aJ] at this;omega
theorem aCU {x:En} {l:List En} {i:Nat} (hi:i<l.length) (h:i<(gD x l).length):dU l[i] x<0:=by
 have h1:(gD x l)[i]?=l[i]?:=by
  conv=>rhs;rw [←tL x l]
  rw [sO h]
 rw [dZ h,dZ hi] at h1;have h2:=KP _ (List.getElem_mem h);rw [bk h1] at h2;exact (yS _ _).2 h2
theorem aCV {x:En} {l:List En} (ho:cn l) {i:Nat} (hi:i<l.length) (h:(gD x l).length≤i):¬ dU l[i] x<0:=by
 have h1:(ej x l)[i-(gD x l).length]?=l[i]?:=by
  conv=>rhs;rw [←tL x l]
  rw [ur h]
 rw [dZ hi] at h1;intro h3;exact DF ho _ (dB h1) ((yS _ _).1 h3)
theorem RT (x y:Ev) {xa ya:Option Addr} {xl xc yl yc:Nat} (_hx:x.v= .slice xa xl xc) (_hy:y.v= .slice ya yl yc) (W:World):
  Calls Tryz.prog 133 #[.agg #[.string x.e.key,.int .u64 x.e.seq,.bool x.e.gone,.slice xa xl xc],.agg #[.string y.e.key,.int .u64 y.e.seq,.bool y.e.gone,.slice ya yl yc]] W fun e w'=>e= .returned (.int .i64 (dU x.e y.e))∧Grow W w':=
 agI x.e.key x.e.seq x.e.gone (.slice xa xl xc) y.e.key y.e.seq y.e.gone (.slice ya yl yc) W
def aCW (w1:World) (n lo0:Nat) (iv jv:Value) (wr:World):Prop:=∃ lo hi:Nat,iv= .int .i64 (lo:Int)∧jv= .int .i64 (hi:Int)∧lo≤lo0∧lo0≤hi∧hi≤n∧Grow w1 wr
theorem aCX {w:World} {ys:List Ev} (h:Es N w v ys) (hlen:ys.length≤1000000000) (ho:cn (ys.map Ev.e)) (x:Ev) {xa:Option Addr} {xl xc:Nat} (hx:x.v= .slice xa xl xc):
  Calls Tryz.prog 201 #[v,.agg (bW x),.func (.func 133) #[] #[]] w fun e w'=>∃ b,e= .returned (.tuple #[.int .i64 ((gD x.e (ys.map Ev.e)).length:Nat),.bool b])∧Grow w w':=by
 have hL:=YK x.e (ys.map Ev.e);rw [bF] at hL;have hlo:=fun (i:Nat) (hi:i<(ys.map Ev.e).length)=> @aCU x.e (ys.map Ev.e) i hi
 have nH:=fun (i:Nat) (hi:i<(ys.map Ev.e).length)=> @aCV x.e (ys.map Ev.e) ho i hi
 generalize (gD x.e (ys.map Ev.e)).length=L at*;obtain ⟨va,vc,rfl⟩:=h.slice;have hex:bW x=#[.string x.e.key,.int .u64 x.e.seq,.bool x.e.gone,.slice xa xl xc]:=by rw [←hx]
 rw [hex];have ah:=ar w (.cells #[.string x.e.key,.int .u64 x.e.seq,.bool x.e.gone,.slice xa xl xc] 60);have dK:=ax w (.cells #[.string x.e.key,.int .u64 x.e.seq,.bool x.e.gone,.slice xa xl xc] 60);have H:=ae (h.grow ah);have cQ:=ae ah;have pQ:=ae dK;have Hlo:=ae hlo;have Hhi:=ae nH;have Hx:=ae hx;clear h ah dK hlo nH hx hex;go_enter Tryz.func201,Tryz.ntmps201
 go_wp2_with fail
 generalize w.alloc (.cells #[.string x.e.key,.int .u64 x.e.seq,.bool x.e.gone,.slice xa xl xc] 60)=w1 at*;generalize w.heap.size=eb at*
 go_loopw [9,10] (fun iv jv wr=>aCW w1 ys.length L iv jv wr) (fun iv jv _=>(intOf jv).toNat-(intOf iv).toNat)
 case atStart=>exact ⟨0,ys.length,rfl,rfl,aY _,hL,aw _,aV _⟩
 case round=>
  obtain ⟨lo,hi,rfl,rfl,h1,h2,h3,hg⟩:=hrel;have hb:=hg.heap pQ.out;obtain ⟨t0,t1,t2,t3⟩:=cS hb;have lb:=af hb;by_cases hlt:lo<hi
  ·obtain ⟨m,hm⟩:∃ m,m=(lo+hi) / 2:=⟨_,rfl⟩
   have gq:m<ys.length:=by omega
   obtain ⟨y,b,o,c,ya,yc,hy,hv,dX,fH,rh,c0,c1,c2,c3⟩:=H.out.read hg gq;cases hv;have fS:=fun W=>RT y x fH Hx.out W
   obtain ⟨d,hd⟩:∃ d,dU y.e x.e=d:=⟨_,rfl⟩
   rw [hd] at fS;have Ek:(ys.map Ev.e)[m]'(by simpa using gq)=y.e:=by
    rw [List.getElem_map];rw [dZ gq] at hy;rw [bk hy]
   have ic:(d<0→m<L)∧(¬ d<0→L≤m):=by
    have k1:=Hlo.out m (by simpa using gq);have k2:=Hhi.out m (by simpa using gq);rw [Ek,hd] at k1 k2;have k2':L≤m→¬ d<0:=fun h5=>by have:=k2 h5;omega
    constructor
    ·intro h4
     rcases Nat.lt_or_ge m L with h5|h5
     ·exact h5
     ·exact absurd h4 (k2' h5)
    ·intro h4
     rcases Nat.lt_or_ge m L with h5|h5
     ·exact absurd (k1 h5) h4
     ·exact h5
   have kh:=ae fS;have Hg:=ae hg;have YL:=ae ic;have i1:(lo:Int)<(hi:Int):=by omega
   have ws:IntKind.i64.wrap ((lo:Int)+(hi:Int))=((lo+hi:Nat):Int):=by rw [aS _ (by omega)];omega
   have wu:=vo (n:=lo+hi) (by omega);have gH:((lo+hi:Nat):Int) / 2=(m:Int):=by omega
   have wm:IntKind.i64.wrap (m:Int)=(m:Int):=aS _ (by omega);have wm1:IntKind.i64.wrap ((m:Int)+1)=((m+1:Nat):Int):=by rw [aS _ (by omega)];omega
   have m0:(0:Int)≤(m:Int):=by omega
   have m1:(m:Int)<(ys.length:Int):=by omega
   have Hm:=ae hm;generalize hsm:((lo+hi:Nat):Int)=sm at*;have aQ:=Grow.cells (w:=wr);clear fS hg ic hd Ek hy fH rh hb hm hsm
   go_upto_region 5 with fail
   refine dz (fun V=>Below wr.heap.size wr V) [6] (by kernel_rfl) (bK fun _ _ _ _ _ h=>h) (by ((repeat (first|exact bS _ _|assumption|refine cz ?_|refine cA ?_|refine cj ?_ ?_ _|refine cy ?_ ?_ _))<;>try (first|omega|(simp<;>omega)))) ?_;simp only [cF]
   repeat ((first|(refine aA (v:= ?_) (by rfl) ?_ ?_;rotate_left;rintro W hW;go_simp;with_reducible rfl)|refine aB (by rfl) ?_);simp only [ai,List.set])
   clear t0 t1 t2 t3 c0 c1 c2 c3;refine bp (by rfl) (by go_simp) (kh.out _) ?_;rintro e w2 ⟨rfl,hg2⟩;have hg3:=(az wr).trans hg2;refine ⟨_,rfl,hg3,?_⟩
   try simp only [ai,List.set,aC]
   have iQ:=ae (Hg.out.trans hg3);clear hg2 hg3 aQ;obtain ⟨bb,dX⟩:∃ bb,decide (d<0)=bb:=⟨_,rfl⟩
   repeat ((first|(refine aA (v:= ?_) (by rfl) ?_ ?_;rotate_left;rintro W hW;go_simp;with_reducible rfl)|refine aB (by rfl) ?_);simp only [ai,List.set])
   refine bj ?_;cases bb with
   |true=>
    have nG:=YL.out.1 (of_decide_eq_true dX);clear dX;go_wp2;go_roundw
    case rel=>exact ⟨m+1,hi,rfl,rfl,nG,h2,h3,iQ.out⟩
    case measure=>have:=Hm.out;simp [intOf];omega
   |false=>
    have nG:=YL.out.2 (of_decide_eq_false dX);clear dX;go_wp2;go_roundw
    case rel=>exact ⟨lo,m,rfl,rfl,h1,nG,by omega,iQ.out⟩
    case measure=>have:=Hm.out;simp [intOf];omega
  ·obtain rfl:lo=L:=by omega
   obtain rfl:hi=lo:=by omega
   have Hg:=ae hg;by_cases lJ:hi<ys.length
   ·obtain ⟨y,b,o,c,ya,yc,hy,hv,dX,fH,rh,c0,c1,c2,c3⟩:=H.out.read hg lJ
    cases hv;have fS:=fun W=>RT y x fH Hx.out W
    generalize dU y.e x.e=d at*;have kh:=ae fS;have m0:(0:Int)≤(hi:Int):=by omega
    have m1:(hi:Int)<(ys.length:Int):=by omega
    have aQ:=Grow.cells (w:=wr);clear fS hg hy fH rh hb
    go_upto_region 8 with fail
    refine dz (fun V=>Below wr.heap.size wr V) [11] (by kernel_rfl) (bK fun _ _ _ _ _ h=>h) (by ((repeat (first|exact bS _ _|assumption|refine cz ?_|refine cA ?_|refine cj ?_ ?_ _|refine cy ?_ ?_ _))<;>try (first|omega|(simp<;>omega)))) ?_;simp only [cF]
    repeat ((first|(refine aA (v:= ?_) (by rfl) ?_ ?_;rotate_left;rintro W hW;go_simp;with_reducible rfl)|refine aB (by rfl) ?_);simp only [ai,List.set])
    clear t0 t1 t2 t3 c0 c1 c2 c3;refine bp (by rfl) (by go_simp) (kh.out _) ?_;rintro e w2 ⟨rfl,hg2⟩;have hg3:=(az wr).trans hg2;refine ⟨_,rfl,hg3,?_⟩
    try simp only [ai,List.set,aC]
    have iQ:=ae (Hg.out.trans hg3);clear hg2 hg3 aQ
    repeat ((first|(refine aA (v:= ?_) (by rfl) ?_ ?_;rotate_left;rintro W hW;go_simp;with_reducible rfl)|refine aB (by rfl) ?_);simp only [ai,List.set])
    refine bj ?_;go_wp2;go_ret2;exact ⟨_,rfl,cQ.out.trans iQ.out⟩
   ·have m1:¬ (hi:Int)<(ys.length:Int):=by omega
    have m2:decide (hi<ys.length)=false:=decide_eq_false lJ;clear hb hg
    go_upto_region 8 with fail
    refine dz (fun V=>Below wr.heap.size wr V) [11] (by kernel_rfl) (bK fun _ _ _ _ _ h=>h) (by ((repeat (first|exact bS _ _|assumption|refine cz ?_|refine cA ?_|refine cj ?_ ?_ _|refine cy ?_ ?_ _))<;>try (first|omega|(simp<;>omega)))) ?_;simp only [cF]
    repeat ((first|(refine aA (v:= ?_) (by rfl) ?_ ?_;rotate_left;rintro W hW;go_simp;with_reducible rfl)|refine aB (by rfl) ?_);simp only [ai,List.set])
    refine Fw (by rfl) (by ((repeat (first|exact bS _ _|assumption|refine cz ?_|refine cA ?_|refine cj ?_ ?_ _|refine cy ?_ ?_ _))<;>try (first|omega|(simp<;>omega)))) ?_
    try simp only [ai,List.set,aC]
    repeat ((first|(refine aA (v:= ?_) (by rfl) ?_ ?_;rotate_left;rintro W hW;go_simp;with_reducible rfl)|refine aB (by rfl) ?_);simp only [ai,List.set])
    refine bj ?_;go_wp2;go_ret2;exact ⟨by simp,cQ.out.trans (Hg.out.trans (az wr))⟩
structure qx (N:Nat→Prop) (w:World) (tb:Nat) (l:List En):Prop where
 cells:∃ (v fv:Value) (nb:Int) (ys:List Ev),w.heap[tb]?=some (.cells #[v,.int .i64 nb,fv] 251 (0,0))∧ys.map Ev.e=l∧Es N w v ys
 own:N tb
 ord:cn l
 len:l.length≤1000000
 vals:∀ x∈l,x.val.length≤33554432
theorem qx.kp {l:List En} (h:qx N w tb l) (k:Kp N w w'):qx N w' tb l:=by
 obtain ⟨v,fv,nb,ys,h1,h2,h3⟩:=h.cells;exact ⟨⟨v,fv,nb,ys,(k.same tb h.own (af h1)).trans h1,h2,h3.kp k⟩,h.own,h.ord,h.len,h.vals⟩
theorem qx.mono {l:List En} (h:qx N w tb l) (hM:∀ b,N b→M b):qx M w tb l:=by
 obtain ⟨v,fv,nb,ys,h1,h2,h3⟩:=h.cells;exact ⟨⟨v,fv,nb,ys,h1,h2,h3.mono hM⟩,hM _ h.own,h.ord,h.len,h.vals⟩
theorem akN {l:List En} (h:qx N w tb l) (key:ByteArray) {up:Nat}:
  Calls Tryz.prog 154 #[.pointer (some ⟨tb,0,none⟩),.string key,.int .u64 up] w fun e w'=>e= .returned (.int .i64 ((gD (spot key up) l).length:Nat))∧Grow w w':=by
 obtain ⟨v,fv,nb,ys,h1,h2,h3⟩:=h.cells;have hb:=aCX h3 (by have:=h.len;rw [←h2,bF] at this;omega) (by rw [h2];exact h.ord) (xr key up) (xa:=none) (xl:=0) (xc:=0) rfl;rw [h2] at hb;have Hb:=ae hb;have c0:w.cell? ⟨tb,0,none⟩=some v:=by simp [World.cell?,h1]
 have lt:=af h1;obtain ⟨va,vc,rfl⟩:=h3.slice;clear h h1 h2 h3 hb;go_enter Tryz.func154,Tryz.ntmps154
 go_wp2_with fail
 (with_reducible refine Hb.out.mono ?_);rintro e w2 ⟨b,rfl,hg⟩;have Hg:=ae hg;clear hg;go_wp2;go_ret;exact ⟨rfl,Hg.out⟩
theorem akO (x:En) (l:List En):ej x l=l.drop (gD x l).length:=by
 conv=>rhs;rw [←tL x l]
 rw [tL x l];have h:=tL x l;have:(gD x l++ej x l).drop (gD x l).length=ej x l:=List.drop_left;rw [h] at this;exact this.symm
def aDb (w:World) (b:Option En) (e:Ending) (w':World):Prop:=
 (match b with
  |none=>e= .returned (.tuple #[.agg #[.string ⟨#[]⟩,.int .u64 0,.bool false,.slice none 0 0],.bool false])
  |some x=>∃ sv,e= .returned (.tuple #[.agg (bW ⟨x,sv⟩),.bool true])∧aI w.heap.size w' sv x.val)∧Grow w w'
theorem aDc {l:List En} (h:qx N w tb l) (key:ByteArray) {up:Nat}:
  Calls Tryz.prog 275 #[.pointer (some ⟨tb,0,none⟩),.string key,.int .u64 up] w (aDb w (fT key up l)):=by
 have ah:=ar w (.cells #[.string ⟨#[]⟩,.int .u64 0,.bool false,.slice none 0 0] 60);have fC:=ax w (.cells #[.string ⟨#[]⟩,.int .u64 0,.bool false,.slice none 0 0] 60);have xw:=agC (key:=key) (up:=up) h.ord;rw [akO] at xw;have hpl:=fun W (hg:Grow w W)=>akN (h.kp (.bT hg)) key (up:=up)
 have nk:=YK (spot key up) l;have akP:=h.vals;have lJ:=h.len;generalize (gD (spot key up) l).length=i at*;obtain ⟨v,fv,nb,ys,h1,h2,h3⟩:=h.cells;have dW:ys.length=l.length:=by rw [←h2,bF]
 have DX:=ae hpl;have cQ:=ae ah;have lO:=ae fC;have Hb:=ae xw;have H:=ae (ag h1 (ag h2 (ag h3 dW)));have Hv:=ae akP;obtain ⟨va,vc,rfl⟩:=h3.slice;clear h h1 h2 h3 hpl ah fC xw dW akP;go_enter Tryz.func275,Tryz.ntmps275
 go_wp2_with fail
 generalize w.alloc (.cells #[.string ⟨#[]⟩,.int .u64 0,.bool false,.slice none 0 0] 60)=w1 at*;(with_reducible refine (DX.out w1 cQ.out).mono ?_);rintro e w2 ⟨rfl,hg2⟩;have jr:=cQ.out.trans hg2;obtain ⟨h1,h2,h3,dW⟩:=H.out;have dY:=jr.heap h1;have s0:w2.cell? ⟨tb,0,none⟩=some (.slice va ys.length vc):=by simp [World.cell?,dY]
 have lt:=af dY;have Ar:=hg2.heap lO.out;obtain ⟨r0,r1,r2,r3⟩:=cS Ar;have lr:=af Ar;have fr:=bG Ar;have kY:=ae jr;rcases Nat.lt_or_ge i l.length with ml|ml
 ·obtain ⟨y,b,o,c,ya,yc,hy,hv,dX,fH,rh,c0,c1,c2,c3⟩:=h3.read jr (i:=i) (by omega)
  cases hv;have hle:l[i]=y.e:=by
   have:(ys.map Ev.e)[i]?=some y.e:=by rw [gZ,hy];rfl
   rw [h2,dZ ml] at this;exact bk this
  have ql:fT key up l=if y.e.key=key then some y.e else none:=by
   rw [Hb.out,mh ml,hle]
  have hap:=fun W (hg:Grow w2 W)=>agP (rh.grow hg) (by have:=Hv.out y.e (by rw [←h2];exact aZ.2 ⟨y,dB hy,rfl⟩);omega)
  have ey:bW y=#[.string y.e.key,.int .u64 y.e.seq,.bool y.e.gone,.slice ya y.e.val.length yc]:=by rw [←fH]
  rw [ey] at hap;have gh:=ae (hap w2 (aV w2));have i0:(0:Int)≤(i:Int):=by omega
  have i1:(i:Int)<(ys.length:Int):=by omega
  have rp:=ae ql;have vF:=ae Ar;clear h1 h2 h3 jr hg2 dY hy fH rh hle ql hap ey Ar dW;by_cases hk:y.e.key=key
  ·have uu:(y.e.key.toList==key.toList)=true:=by rw [hk];simp
   have Hk:=ae hk;clear hk
   go_wp2_with fail
   (with_reducible refine gh.out.mono ?_);rintro e w3 ⟨sv,rfl,ho,hg3⟩;obtain ⟨sa,sc,rfl⟩:=ho.slice;have Mq:=hg3.heap vF.out;obtain ⟨r0,r1,r2,r3⟩:=cS Mq;have VI:=af Mq;have fr3:=bG Mq;have y1:=Bo (v0:= .string y.e.key) (v1:= .int .u64 y.e.seq) (v2:= .bool y.e.gone) (v3:= .slice sa y.e.val.length sc) Mq;have hle:w.heap.size≤w.heap.size:=aw _;have dM:Below w.heap.size w w3:=kY.out.trans hg3;have fB:aI w.heap.size (jC w3 w.heap.size (.string y.e.key) (.int .u64 y.e.seq) (.bool y.e.gone) (.slice sa y.e.val.length sc)) (.slice sa y.e.val.length sc) y.e.val∧Below w.heap.size w (jC w3 w.heap.size (.string y.e.key) (.int .u64 y.e.seq) (.bool y.e.gone) (.slice sa y.e.val.length sc)):=by
    refine ⟨(ho.mono kY.out.size).keep (fun g hg=>si (fun e=> ?_) _ _ _ _),(((dM.setCell (p:=⟨w.heap.size,0,none⟩) hle _).setCell (p:=⟨w.heap.size,1,none⟩) hle _).setCell (p:=⟨w.heap.size,2,none⟩) hle _).setCell (p:=⟨w.heap.size,3,none⟩) hle _⟩;have h5:=(ho.lt hg).1;have h6:=af vF.out;omega
   have cJ:=ae fB;have Hy:=ae (cS y1);clear fB y1 dM ho hg3 Mq;go_wp2;obtain ⟨z0,z1,z2,z3⟩:=Hy.out;refine bodyPost_ret (v:= .tuple #[.agg #[.string y.e.key,.int .u64 y.e.seq,.bool y.e.gone,.slice sa y.e.val.length sc],.bool true]) (by simp [results,Tryz.results275,go_sem,z0,z1,z2,z3]) rfl ?_;refine ⟨?_,cJ.out.2⟩;rw [rp.out,if_pos Hk.out];exact ⟨_,rfl,cJ.out.1⟩
  ·have uu:(y.e.key.toList==key.toList)=false:=by
    simp only [beq_eq_false_iff_ne,ne_eq];intro e;rw [jd,jd] at e;exact hk (Bh e)
   have Hk:=ae hk;clear hk;have q0:=eO (v:= .string ⟨#[]⟩) (i:=0) vF.out rfl;have q1:=eO (v:= .int .u64 0) (i:=1) vF.out rfl;have q2:=eO (v:= .bool false) (i:=2) vF.out rfl;have q3:=eO (v:= .slice none 0 0) (i:=3) vF.out rfl;go_wp2;refine bodyPost_ret (v:= .tuple #[.agg #[.string ⟨#[]⟩,.int .u64 0,.bool false,.slice none 0 0],.bool false]) (by simp [results,Tryz.results275,go_sem,r0,r1,r2,r3]) rfl ?_;refine ⟨?_,kY.out⟩;rw [rp.out,if_neg Hk.out]
 ·have ql:fT key up l=none:=by rw [Hb.out,List.drop_of_length_le ml]
  have rp:=ae ql;have vF:=ae Ar;have i1:¬ (i:Int)<(ys.length:Int):=by omega
  have i2:decide (i<ys.length)=false:=decide_eq_false (by omega);clear h1 h2 h3 jr hg2 dY ql Ar dW;have q0:=eO (v:= .string ⟨#[]⟩) (i:=0) vF.out rfl;have q1:=eO (v:= .int .u64 0) (i:=1) vF.out rfl;have q2:=eO (v:= .bool false) (i:=2) vF.out rfl;have q3:=eO (v:= .slice none 0 0) (i:=3) vF.out rfl;go_wp2;refine bodyPost_ret (v:= .tuple #[.agg #[.string ⟨#[]⟩,.int .u64 0,.bool false,.slice none 0 0],.bool false]) (by simp [results,Tryz.results275,go_sem,r0,r1,r2,r3]) rfl ?_;refine ⟨?_,kY.out⟩;rw [rp.out]
end Go.Proofs.YtoolkdapflaeeaaGreatDoor
