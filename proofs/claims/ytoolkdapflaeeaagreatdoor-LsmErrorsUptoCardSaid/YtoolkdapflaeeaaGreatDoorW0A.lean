/- Helpers. -/
import Derived.Test.YtoolkdapflaeeaaGreatDoorW09
import Derived.Test.YtoolkdapflaeeaaGreatDoorW00
import Derived.RangeFuncNested
import Derived.RangeFuncBound
import Derived.RangeFuncCalls
import Derived.RangeFuncLeaves
import Derived.ControlIn
import Derived.Test.YtoolkdapflaeeaaGreatDoorW06
import Derived.Shelf.Abstract
import Derived.Shelf.RegionOpen
import Derived.WalkKit
import Derived.OwnWalkIn
import Derived.TacticsInMore
import Derived.LoopNIn
import Derived.LoopIn
import Derived.Deep.CutRange
import Derived.Deep.DeepCutAuto
import Derived.Test.YtoolkdapflaeeaaGreatDoorW05
set_option maxRecDepth 100000
set_option maxHeartbeats 16000000
set_option linter.unusedSimpArgs false
open Go
variable {B B' b g ha aU i n q tb : Nat} {M N : Nat → Prop} {W W' w w' w0 wr wr' : World} {bv dv fv pv u v xv : Value} {cur : Array Value} {ds : List Int} {f : Nat × Nat} {l : List UInt8} {t : TypeId}
namespace Go.Proofs.YtoolkdapflaeeaaGreatDoor
open Go.RowKit Go.Gl Go.aF Mn
section
def Xc (e:En):En:=⟨e.key,e.seq,e.gone,if e.gone then [] else e.val⟩
def azD (N:Nat→Prop) (w:World) (tb ha:Nat) (ns:List Nd) (dv:Value) (ds:List Int) (x:En) (e:Ending) (w':World):Prop:=
 e= .returned (.tuple #[])∧∃ bN eI,dQ (fun b=>N b∨(w.heap.size≤b∧b<w'.heap.size∧¬ FM tb ha bN b)) w' tb ha bN eI dv ds∧
  bN.map (fun n=>n.x.e)=kn x (ns.map (fun n=>n.x.e))∧Sep (FM tb ha ns) w w' (FM tb ha bN)
theorem pZ.base {N:Nat→Prop} {w w':World} {tb ha:Nat} {ns bN:List Nd} {dv:Value} {x:Ev} {eI:Nat} (h:pZ N W tb ha ns dv x bN eI w') (hg:Grow w W):pZ N w tb ha ns dv x bN eI w':=
 ⟨h.list,h.self,h.aU,h.skip,(Sep.bT hg).trans h.sep⟩
theorem pZ.grow {N:Nat→Prop} {w w' w'':World} {tb ha:Nat} {ns bN:List Nd} {dv:Value} {x:Ev} {eI:Nat} (h:pZ N w tb ha ns dv x bN eI w') (hg:Grow w' w''):pZ N w tb ha ns dv x bN eI w'':=
 ⟨h.list,hg.heap h.self,h.aU,h.skip.grow hg,h.sep.trans (Sep.bT hg)⟩
theorem pZ.store {N:Nat→Prop} {w w':World} {tb ha:Nat} {ns bN:List Nd} {dv:Value} {x:Ev} {eI:Nat} (h:pZ N w tb ha ns dv x bN eI w') (hq:¬ FM tb ha bN q) (hN:¬ N q) (hw:w.heap.size≤q) (v0 v1 v2 v3:Value):pZ N w tb ha ns dv x bN eI (jC w' q v0 v1 v2 v3):=
 ⟨h.list,(si (fun e=>hq (.inl e.symm)) _ _ _ _).trans h.self,h.aU,h.skip.keep (fun b hb=>si (fun e=>hq (.inr (by rw [←e];exact hb))) _ _ _ _) ⟨by simp,fun b hb _=>si (fun e=>hN (by rw [←e];exact hb)) _ _ _ _⟩,h.sep.agR hw v0 v1 v2 v3⟩
abbrev ahK (ha aU cnt:Nat) (dv:Value) (z:Int):Array Value:=#[.string ByteArray.empty,.int .u64 0,.bool false,.slice none 0 0,.slice (some ⟨ha,0,none⟩) 12 12,.func (.func 93) #[] #[],.int .i64 aU,.int .i64 cnt,dv,.int .i64 z]
structure Ec (N:Nat→Prop) (w:World) (tb ha:Nat) (ns:List Nd) (dv:Value) (x:Ev) (bN:List Nd) (eI:Nat) (z:Int) (w':World):Prop where
 list:bN.map (fun n=>n.x.e)=kn x.e (ns.map (fun n=>n.x.e))
 self:w'.heap[tb]?=some (.cells (ahK ha eI bN.length dv z) 181 (0,0))
 aU:eI≤12
 skip:kq N w' tb ha bN
 sep:Sep (FM tb ha ns) w w' (FM tb ha bN)
section
variable {N:Nat→Prop} {w w' w'':World} {tb ha:Nat} {ns bN:List Nd} {dv:Value} {x:Ev} {eI:Nat} {zz:Int}
theorem pZ.toZ (h:pZ N w tb ha ns dv x bN eI w'):Ec N w tb ha ns dv x bN eI ((costs (ns.map (fun n=>n.x.e)):Nat):Int) w':=⟨h.list,h.self,h.aU,h.skip,h.sep⟩
theorem Ec.grow (h:Ec N w tb ha ns dv x bN eI zz w') (hg:Grow w' w''):Ec N w tb ha ns dv x bN eI zz w'':=⟨h.list,hg.heap h.self,h.aU,h.skip.grow hg,h.sep.trans (Sep.bT hg)⟩
theorem Ec.size (h:Ec N w tb ha ns dv x bN eI zz w') (hN:¬ N tb) (z':Int):Ec N w tb ha ns dv x bN eI z' (w'.setCell ⟨tb,9,none⟩ (.int .i64 z')):=by
 have h1:=Go.Gl.aK h.self 9 (.int .i64 z');simp only [ahK,mf,List.set_cons_zero,kz] at h1;have hne:∀ b,(b=ha∨∃ n∈bN,b=n.blk∨b=n.arr)→b≠tb:=fun b hb e=>by
  have hs:=h.self;rcases hb with rfl|⟨n,hn,rfl|rfl⟩
  ·have h2:=h.skip.iZ.1
   rw [show (bM tb b).arr=b from rfl,e,hs] at h2;exact absurd (cE (bk h2)).2.1 (by decide)
  ·have h2:=h.skip.node n hn
   rw [e,hs] at h2;exact absurd (cE (bk h2)).2.1 (by decide)
  ·obtain ⟨p1,p2,e3⟩:=sN hn
   have h2:=h.skip.iZ.2.at e3;rw [e,hs] at h2;exact absurd (cE (bk h2)).2.1 (by decide)
 exact ⟨h.list,h1,h.aU,h.skip.keep (fun b hb=>aP _ _ _ _ (hne b hb)) ⟨by simp,fun b hb _=>aP _ _ _ _ (fun e=>hN (by have e':b=tb:=e;rw [←e'];exact hb))⟩,h.sep.trans (Sep.WW _ w' (.inl rfl) 9 _)⟩
end
def azE (s4:Nat) (N:Nat→Prop) (w:World) (tb ha:Nat) (ns:List Nd) (dv:Value) (x:Ev) (pv bv:Value) (wx:World):Prop:=
 ∃ (q:Nat) (bN:List Nd) (eI:Nat),pv=au q∧q≠w.heap.size∧w.heap.size≤q∧pZ N w tb ha ns dv x bN eI wx∧wx.heap[w.heap.size]?=some (.cells (bW x) 60 (0,0))∧
  (s4≤wx.heap.size∧∀ b,w.heap.size≤b→b<s4→¬ FM tb ha bN b)∧
  ((∃ (y:Ev) (ya:Option Addr) (yc:Nat),y.v= .slice ya y.e.val.length yc∧wx.heap[q]?=some (.cells (bW y) 60 (0,0))∧bv= .bool true∧costs (bN.map (fun n=>n.x.e))+jq y.e=costs (ns.map (fun n=>n.x.e))+jq x.e)∨
   (bv= .bool false∧costs (bN.map (fun n=>n.x.e))=costs (ns.map (fun n=>n.x.e))+jq x.e))
theorem azF {N Na:Nat→Prop} {w:World} {tb ha:Nat} {ns:List Nd} {dv:Value} (h:dQ N w tb ha ns aU dv ds) (hN:∀ b,N b→b<w.heap.size∧¬ FM tb ha ns b) (hlen:ns.length≤1000000000) (x:Ev) (hx:kJ Na w x) (dp:x.e.seq<18446744073709551616)
  (Qv:costs (ns.map (fun n=>n.x.e))+jq x.e≤1000000000000):Calls Tryz.prog 84 #[au tb,.agg (bW x)] w (azD N w tb ha ns dv ds (Xc x.e)):=by
 obtain ⟨⟨xk,xs,xg,xd⟩,xv⟩:=x;obtain ⟨xa,xc,cN⟩:=hx.slice;have bC:=hx.1;simp only at cN bC;subst cN;have jH:xk.size+xd.length+16≤1000000000000:=by unfold jq at Qv;simp only at Qv;omega
 obtain ⟨yd,Qw⟩:∃ yd,yd=(if xg then [] else xd):=⟨_,rfl⟩
 have dW:yd.length≤xd.length:=by rw [Qw];split<;>simp
 have ahM:Xc ⟨xk,xs,xg,xd⟩=⟨xk,xs,xg,yd⟩:=by unfold Xc;rw [Qw]
 rw [ahM];have ah:=ar w (.cells (bW ⟨⟨xk,xs,xg,xd⟩,.slice xa xd.length xc⟩) 60);have hb:=ax w (.cells (bW ⟨⟨xk,xs,xg,xd⟩,.slice xa xd.length xc⟩) 60);obtain ⟨w1,cp⟩:∃ w1,w.alloc (.cells (bW ⟨⟨xk,xs,xg,xd⟩,.slice xa xd.length xc⟩) 60)=w1:=⟨_,rfl⟩
 rw [cp] at ah hb;obtain ⟨b0,b1,b2,b3⟩:=cS hb;have lb:=af hb;have f1:=bG hb;have H:=ae h;have HX:=ae (ag hx (ag dp (ag hN (ag hlen (ag Qv jH)))));have Hy:=ae (ag Qw dW);have Hg:=ae (ag ah hb);clear h hx dp hN hlen Qv jH Qw dW ahM ah hb;go_enter Tryz.func84,Tryz.ntmps84;have Xd:=ae bC;have aKa:=ae (ag b2 (ag lb f1));clear bC
 go_upto_if 7 with fail
 go_cut [] from 8 to 8 (fun wx=>∃ sa sc,Grow w wx∧wx.heap[w.heap.size]?=some (.cells #[.string xk,.int .u64 xs,.bool xg,.slice sa yd.length sc] 60 (0,0))∧Bv wx (.slice sa yd.length sc) yd)
 case first=>
  cases xg with
  |false=>
   obtain rfl:yd=xd:=by have:=Hy.out.1;simpa using this
   go_wp2;go_meet;exact ⟨_,_,Hg.out.1,Hg.out.2,Xd.out.grow Hg.out.1⟩
  |true=>
   obtain rfl:yd= []:=by have:=Hy.out.1;simpa using this
   have hb2:=Go.Gl.aK Hg.out.2 3 (.slice none 0 0);simp only [bW,mf,List.set_cons_zero,kz] at hb2;have qO:=ae hb2;clear hb2;go_wp2;go_meet;exact ⟨_,_,Hg.out.1.setCell (p:=⟨w.heap.size,3,none⟩) (aw _) _,qO.out,(KT (fun _=>True) _).1⟩
 case rest=>
 obtain ⟨sa,sc,hg2,hb2,Ed⟩:=hcut;generalize wc=w2 at*;have gp:=ae (vX Ed (by have:=Hy.out.2;have:=HX.out.2.2.2.2.2;omega));obtain ⟨c0,c1,c2,c3⟩:=cS hb2;have l2:=af hb2;have qE:=ae (ag hg2 hb2);clear Ed hg2 hb2
 go_wp2_with fail
 (with_reducible refine gp.out.mono ?_);rintro e w3 ⟨v,rfl,ho,hg3⟩;have eA:=ho;obtain ⟨va,vc,rfl⟩:=Go.Gl.Row1.slice ho;rw [jF] at eA ⊢;have hb3:=hg3.heap qE.out.2;have hb4:=Go.Gl.aK hb3 3 (.slice va yd.length vc);simp only [mf,List.set_cons_zero,kz] at hb4;have hg4:Grow w (w3.setCell ⟨w.heap.size,3,none⟩ (.slice va yd.length vc)):=(qE.out.1.trans hg3).setCell (p:=⟨w.heap.size,3,none⟩) (aw _) _;have s2:=qE.out.1.size;have ki:aI w.heap.size (w3.setCell ⟨w.heap.size,3,none⟩ (.slice va yd.length vc)) (.slice va yd.length vc) yd:=by
  refine (eA.mono s2).keep (fun g hgb=> ?_);have h9:=(eA.lt hgb).1;exact aP _ _ _ _ (fun e=>by have e':g=w.heap.size:=e;omega)
 obtain ⟨d0,d1,d2,d3⟩:=cS hb3;have l3:=af hb3;have f3:w3.frozen? ⟨w.heap.size,3,none⟩=false:=by simp [World.frozen?,hb3]
 have Lq:=ae (ag hg4 (ag hb4 ki));clear hb3 hb4 hg4 ki ho eA hg3 gp c0 c1 c2 c3 l2
 go_upto_region 4 with fail
 have jW:=Lq.out;generalize w3.setCell ⟨w.heap.size,3,none⟩ (.slice va yd.length vc)=w4 at*;obtain ⟨c0,c1,c2,c3⟩:=cS jW.2.1;have l4:=af jW.2.1;have hgd:=az w4;have h4:=H.out.grow jW.1;have hN4:∀ W,Grow w4 W→∀ b,(N b∨(w.heap.size≤b∧b<w4.heap.size))→b<W.heap.size∧¬ FM tb ha ns b:=fun W hW b hb=>by
  have s4:=hW.size;rcases hb with hb|⟨hb1,hb2⟩
  ·exact ⟨cf (HX.out.2.2.1 b hb).1 (aM jW.1.size s4),(HX.out.2.2.1 b hb).2⟩
  ·exact ⟨by omega,fun hf=>by have:=H.out.lt hf;omega⟩
 have qf:kJ (fun b=>N b∨(w.heap.size≤b∧b<w4.heap.size)) w4 ⟨⟨xk,xs,xg,yd⟩,.slice va yd.length vc⟩:=⟨cI jW.2.2,.inr (fun b hb=> .inr (jW.2.2.lt hb))⟩
 have GN:=ae (fun W (hW:Grow w4 W)=>azi (((H.out.grow jW.1).mono (M:=(fun b=>N b∨(w.heap.size≤b∧b<w4.heap.size))) (fun b hb=> .inl hb)).grow hW) (hN4 W hW) HX.out.2.2.2.1 ⟨⟨xk,xs,xg,yd⟩,.slice va yd.length vc⟩ (qf.grow hW) HX.out.2.1);have Lr:=ae (ag jW.1 (ag jW.2.1 h4.self));have BB:jq ⟨xk,xs,xg,yd⟩≤jq ⟨xk,xs,xg,xd⟩:=by have:=Hy.out.2;unfold jq;simp only;omega
 have azG:=ae BB;clear hN4 qf h4 jW Lq d0 d1 d2 d3 l3 f3 BB
 go_cut [4,5] from 13 to 22 (fun pv bv wx=>azE w4.heap.size (fun b=>N b∨(w.heap.size≤b∧b<w4.heap.size)) w tb ha ns dv ⟨⟨xk,xs,xg,yd⟩,.slice va yd.length vc⟩ pv bv wx)
 case first=>
  refine Xa (fun V=>V.cell? ⟨w.heap.size,0,none⟩=some (.string xk)∧V.cell? ⟨w.heap.size,1,none⟩=some (.int .u64 xs)∧V.cell? ⟨w.heap.size,2,none⟩=some (.bool xg)∧V.cell? ⟨w.heap.size,3,none⟩=some (.slice va yd.length vc)∧w.heap.size<V.heap.size) [(0,false),(1,false),(2,false),(3,false),(4,false),(5,false)] 6 10 [(7,false),(8,false),(9,false),(10,true),(11,true),(12,false)] [(6,true),(7,false),(8,false),(9,false),(11,true),(12,false)] (by kernel_rfl) (by kernel_rfl) (bK fun _ _ _ _ _ h=>h) ⟨c0,c1,c2,c3,l4⟩ ?_;simp only [cm,nth]
  repeat ((first|(refine aA (v:= ?_) (by rfl) ?_ ?_;rotate_left;rintro W ⟨k0,k1,k2,k3,k4⟩;go_simp;with_reducible rfl)|refine aB (by rfl) ?_);simp only [ai,List.set])
  refine bj (Xb ?_ ?_)
  ·simp only [cm,nth]
   refine bp (by rfl) (by go_simp) (GN.out w4.drew hgd) ?_;rintro e' w5 ⟨bN,eI,hP,vd⟩;have tS:w5.heap[w.heap.size]?=some (.cells #[.string xk,.int .u64 xs,.bool xg,.slice va yd.length vc] 60 (0,0)):=
    (hP.sep.out _ l4 (fun hf=>by have:=H.out.lt hf;omega)).trans Lr.out.2.1
   obtain ⟨e0,e1,e2,e3⟩:=cS tS;have l5:=af tS;have Ls:=hP.sep.size;have Lt:∀ b,w.heap.size≤b→b<w4.heap.size→¬ FM tb ha bN b:=fun b h1 h2 hf=>by
    rcases hP.sep.foot b hf with h3|h3
    ·have:=H.out.lt h3;omega
    ·have h4:w4.heap.size≤b:=by simp at h3;omega
     omega
   have HP:=ae (hP.base (Lr.out.1.trans hgd));clear GN hP;have xn:=ar w5 (.cells #[.string ⟨#[]⟩,.int .u64 0,.bool false,.slice none 0 0] 60);obtain ⟨g0,g1,g2,g3⟩:=cS (xn.heap tS);rcases vd with ⟨⟨⟨yk,ys,yg,yl⟩,yv⟩,⟨ya,yc,fH⟩,rfl,Lu,hc'⟩|⟨rfl,Lu,hc'⟩
   ·simp only at fH
    subst fH;refine ⟨_,rfl,⟨e0,e1,e2,e3,l5⟩,?_⟩
    try simp only [ai,List.set,aC]
    repeat ((first|(refine aA (v:= ?_) (by rfl) ?_ ?_;rotate_left;rintro W ⟨k0,k1,k2,k3,k4⟩;go_simp;with_reducible rfl)|refine aB (by rfl) ?_);simp only [ai,List.set])
    refine fO (by rfl) (fun K hK=> ?_);go_simp;refine hK _ _ ⟨⟨g0,g1,g2,g3,by simp;omega⟩,?_⟩;clear hK K
    try simp only [ai,List.set,aC]
    have vu:=ar w5 (.cells #[.string yk,.int .u64 ys,.bool yg,.slice ya yl.length yc] 60);have Qx:=ax w5 (.cells #[.string yk,.int .u64 ys,.bool yg,.slice ya yl.length yc] 60);obtain ⟨j0,j1,j2,j3⟩:=cS (vu.heap tS);refine fO (by rfl) (fun K hK=> ?_);go_simp;refine hK _ _ ⟨⟨j0,j1,j2,j3,by simp;omega⟩,?_⟩;clear hK K
    try simp only [ai,List.set,aC]
    repeat ((first|(refine aA (v:= ?_) (by rfl) ?_ ?_;rotate_left;rintro W ⟨k0,k1,k2,k3,k4⟩;go_simp;with_reducible rfl)|refine aB (by rfl) ?_);simp only [ai,List.set])
    refine bj ?_;have su:=vu.heap tS;have zf:=HP.out.grow vu
    go_wp2_with fail
    go_meet;exact ⟨w5.heap.size,bN,eI,rfl,by omega,by omega,zf,su,⟨by have h9:=Ls;simp at h9 ⊢;omega,Lt⟩,.inl ⟨⟨⟨yk,ys,yg,yl⟩,.slice ya yl.length yc⟩,ya,yc,rfl,Qx,rfl,hc'⟩⟩
   ·refine ⟨_,rfl,⟨e0,e1,e2,e3,l5⟩,?_⟩
    try simp only [ai,List.set,aC]
    repeat ((first|(refine aA (v:= ?_) (by rfl) ?_ ?_;rotate_left;rintro W ⟨k0,k1,k2,k3,k4⟩;go_simp;with_reducible rfl)|refine aB (by rfl) ?_);simp only [ai,List.set])
    refine fO (by rfl) (fun K hK=> ?_);go_simp;refine hK _ _ ⟨⟨g0,g1,g2,g3,by simp;omega⟩,?_⟩;clear hK K
    try simp only [ai,List.set,aC]
    have vu:=ar w5 (.cells #[.string ⟨#[]⟩,.int .u64 0,.bool false,.slice none 0 0] 60);obtain ⟨j0,j1,j2,j3⟩:=cS (vu.heap tS);refine fO (by rfl) (fun K hK=> ?_);go_simp;refine hK _ _ ⟨⟨j0,j1,j2,j3,by simp;omega⟩,?_⟩;clear hK K
    try simp only [ai,List.set,aC]
    repeat ((first|(refine aA (v:= ?_) (by rfl) ?_ ?_;rotate_left;rintro W ⟨k0,k1,k2,k3,k4⟩;go_simp;with_reducible rfl)|refine aB (by rfl) ?_);simp only [ai,List.set])
    refine bj ?_;have su:=vu.heap tS;have zf:=HP.out.grow vu
    go_wp2_with fail
    go_meet;exact ⟨w5.heap.size,bN,eI,rfl,by omega,by omega,zf,su,⟨by have h9:=Ls;simp at h9 ⊢;omega,Lt⟩,.inr ⟨rfl,hc'⟩⟩
  ·simp only [cm,nth]
   have Qy:=ar w4.drew (.cells #[.string ⟨#[]⟩,.int .u64 0,.bool false,.slice none 0 0] 60);have GP:=ax w4.drew (.cells #[.string ⟨#[]⟩,.int .u64 0,.bool false,.slice none 0 0] 60);have pq:=Qy.heap (hgd.heap Lr.out.2.1);obtain ⟨g0,g1,g2,g3⟩:=cS pq;have Xe:=af pq;refine fO (by rfl) (fun K hK=> ?_);go_simp;refine hK _ _ ⟨⟨g0,g1,g2,g3,Xe⟩,?_⟩;clear hK K
   try simp only [ai,List.set,aC]
   have s4:=Lr.out.1.size;have nX:w.heap.size≠w4.heap.size:=by have:=l4;omega
   refine bp (by rfl) (by go_simp) (GN.out _ (hgd.trans Qy)) ?_;rintro e' w5 ⟨bN,eI,hP,vd⟩;have tS:w5.heap[w.heap.size]?=some (.cells #[.string xk,.int .u64 xs,.bool xg,.slice va yd.length vc] 60 (0,0)):=
    (hP.sep.out _ Xe (fun hf=>by have:=H.out.lt hf;omega)).trans pq
   have pd:w5.heap[w4.heap.size]?=some (.cells #[.string ⟨#[]⟩,.int .u64 0,.bool false,.slice none 0 0] 60 (0,0)):=(hP.sep.out _ (af GP) (fun hf=>by have:=H.out.lt hf;have e:w4.drew.heap.size=w4.heap.size:=rfl;omega)).trans GP;have hqF:¬ FM tb ha bN w4.heap.size:=fun hf=>by
    rcases hP.sep.foot _ hf with h1|h1
    ·have:=H.out.lt h1;omega
    ·have h2:w4.heap.size+1≤w4.heap.size:=by simpa using h1
     omega
   obtain ⟨e0,e1,e2,e3⟩:=cS tS;have l5:=af tS;have Ls:=hP.sep.size;have Lt:∀ b,w.heap.size≤b→b<w4.heap.size→¬ FM tb ha bN b:=fun b h1 h2 hf=>by
    rcases hP.sep.foot b hf with h3|h3
    ·have:=H.out.lt h3;omega
    ·have h4:w4.heap.size≤b:=by simp at h3;omega
     omega
   have HP:=ae (ag (hP.base ((Lr.out.1.trans hgd).trans Qy)) hqF);have WV:¬ (N w4.heap.size∨(w.heap.size≤w4.heap.size∧w4.heap.size<w4.heap.size)):=fun h=>by
    rcases h with h|h
    ·have:=(HX.out.2.2.1 _ h).1;omega
    ·omega
   clear GN hP Qy GP pq g0 g1 g2 g3 Xe hqF;obtain ⟨r0,r1,r2,r3⟩:=cS pd;have lq:=af pd;have frq:=bG pd;rcases vd with ⟨⟨⟨yk,ys,yg,yl⟩,yv⟩,⟨ya,yc,fH⟩,rfl,Lu,hc'⟩|⟨rfl,Lu,hc'⟩
   ·simp only at fH
    subst fH;refine ⟨_,rfl,⟨e0,e1,e2,e3,l5⟩,?_⟩
    try simp only [ai,List.set,aC]
    repeat ((first|(refine aA (v:= ?_) (by rfl) ?_ ?_;rotate_left;rintro W ⟨k0,k1,k2,k3,k4⟩;go_simp;with_reducible rfl)|refine aB (by rfl) ?_);simp only [ai,List.set])
    have Qx:=Bo (v0:= .string yk) (v1:= .int .u64 ys) (v2:= .bool yg) (v3:= .slice ya yl.length yc) pd;have su:=(si (w:=w5) nX (.string yk) (.int .u64 ys) (.bool yg) (.slice ya yl.length yc)).trans tS;obtain ⟨j0,j1,j2,j3⟩:=cS su;have l6:=af su;have zf:=HP.out.1.store HP.out.2 WV s4 (.string yk) (.int .u64 ys) (.bool yg) (.slice ya yl.length yc);refine fO (by rfl) (fun K hK=> ?_);go_simp;refine hK _ _ ⟨⟨j0,j1,j2,j3,l6⟩,?_⟩;clear hK K
    try simp only [ai,List.set,aC]
    have bw:=ae (ag Qx (ag su zf));clear Qx su zf
    repeat ((first|(refine aA (v:= ?_) (by rfl) ?_ ?_;rotate_left;rintro W ⟨k0,k1,k2,k3,k4⟩;go_simp;with_reducible rfl)|refine aB (by rfl) ?_);simp only [ai,List.set])
    refine bj ?_
    go_wp2_with fail
    go_meet;exact ⟨w4.heap.size,bN,eI,rfl,fun e=>nX e.symm,s4,bw.out.2.2,bw.out.2.1,⟨by have h9:=Ls;simp at h9 ⊢;omega,Lt⟩,.inl ⟨⟨⟨yk,ys,yg,yl⟩,.slice ya yl.length yc⟩,ya,yc,rfl,bw.out.1,rfl,hc'⟩⟩
   ·refine ⟨_,rfl,⟨e0,e1,e2,e3,l5⟩,?_⟩
    try simp only [ai,List.set,aC]
    repeat ((first|(refine aA (v:= ?_) (by rfl) ?_ ?_;rotate_left;rintro W ⟨k0,k1,k2,k3,k4⟩;go_simp;with_reducible rfl)|refine aB (by rfl) ?_);simp only [ai,List.set])
    have su:=(si (w:=w5) nX (.string ⟨#[]⟩) (.int .u64 0) (.bool false) (.slice none 0 0)).trans tS;obtain ⟨j0,j1,j2,j3⟩:=cS su;have l6:=af su;have zf:=HP.out.1.store HP.out.2 WV s4 (.string ⟨#[]⟩) (.int .u64 0) (.bool false) (.slice none 0 0);refine fO (by rfl) (fun K hK=> ?_);go_simp;refine hK _ _ ⟨⟨j0,j1,j2,j3,l6⟩,?_⟩;clear hK K
    try simp only [ai,List.set,aC]
    have bw:=ae (ag su zf);clear su zf
    repeat ((first|(refine aA (v:= ?_) (by rfl) ?_ ?_;rotate_left;rintro W ⟨k0,k1,k2,k3,k4⟩;go_simp;with_reducible rfl)|refine aB (by rfl) ?_);simp only [ai,List.set])
    refine bj ?_
    go_wp2_with fail
    go_meet;exact ⟨w4.heap.size,bN,eI,rfl,fun e=>nX e.symm,s4,bw.out.2,bw.out.1,⟨by have h9:=Ls;simp at h9 ⊢;omega,Lt⟩,.inr ⟨rfl,hc'⟩⟩
 case rest=>
  obtain ⟨q,bN,eI,rfl,nX,hqw,hP,gL,hP4,vd⟩:=hcut;have Xf:¬ (N tb∨(w.heap.size≤tb∧tb<w4.heap.size)):=fun h=>by
   rcases h with h|h
   ·exact (HX.out.2.2.1 _ h).2 (.inl rfl)
   ·have:=H.out.lt (.inl rfl);omega
  have ahP:=HX.out.2.2.2.2.1;have Kg:=azG.out;have pX:w4.heap.size≤wc.heap.size∧∀ b,w.heap.size≤b→b<w4.heap.size→¬ FM tb ha bN b:=hP4
  have pw:jq ⟨xk,xs,xg,yd⟩=xk.size+yd.length+16:=rfl;rcases vd with ⟨⟨⟨yk,ys,yg,yl⟩,yv⟩,ya,yc,fH,hq,rfl,hc'⟩|⟨rfl,hc'⟩
  ·simp only at fH
   subst fH;have hyy:jq ⟨yk,ys,yg,yl⟩=yk.size+yl.length+16:=rfl;simp only at hc';generalize hC:costs (ns.map (fun n=>n.x.e))=C at*;generalize Lv:costs (bN.map (fun n=>n.x.e))=C' at*;have ly:=hP.toZ;rw [hC] at ly;have eW:=ly.self;obtain ⟨t9,lt⟩:wc.cell? ⟨tb,9,none⟩=some (.int .i64 (C:Int))∧tb<wc.heap.size:=⟨by simp [World.cell?,eW],af eW⟩
   obtain ⟨q0,q1,q2,q3⟩:=cS hq;have lq:=af hq;have mF:IntKind.i64.wrap ((C:Int)-((yk.size+yl.length+16:Nat):Int))=(C:Int)-((yk.size+yl.length+16:Nat):Int):=aS _ (by omega);have Xg:yk.size≤1000000000000∧yl.length≤1000000000000:=by omega
   have BC:=ae (fun W=>WH W yk ys yg ya yl.length yc Xg.1 Xg.2);generalize hS:yk.size+yl.length+16=sy at*;have ahR:=hyy;have Lx:C'≤2000000000000:=by omega
   have Xh:=pX;obtain ⟨z,hz⟩:∃ z,(C:Int)-(sy:Int)=z:=⟨_,rfl⟩
   replace mF:IntKind.i64.wrap ((C:Int)-(sy:Int))=z:=mF.trans hz;have gj:=ae (ag ly (ag gL (ag hz (ag hC (ag Lv hc')))));clear ly gL hz hC Lv hc' hP hq eW hS Xg ahP Kg pw hyy
   go_upto_region 6 with fail
   have aQ:=Grow.cells (w:=wc);refine uz (fun V=>Below wc.heap.size wc V) [(0,false),(1,false),(2,false),(3,false),(4,false),(5,true),(6,false),(7,false),(8,false)] 9 (by kernel_rfl) (by kernel_rfl) (bK fun _ _ _ _ _ h=>h) (by ((repeat (first|exact bS _ _|assumption|refine cz ?_|refine cA ?_|refine cj ?_ ?_ _|refine cy ?_ ?_ _))<;>try (first|omega|(simp<;>omega)))) ?_;simp only [cm,nth]
   repeat ((first|(refine aA (v:= ?_) (by rfl) ?_ ?_;rotate_left;rintro W hW;go_simp;with_reducible rfl)|refine aB (by rfl) ?_);simp only [ai,List.set])
   refine bp (by rfl) (by go_simp) (BC.out wc.drew) ?_;rintro e' w7 ⟨rfl,cG⟩;have hgx:=(az wc).trans cG;refine ⟨_,rfl,hgx,?_⟩
   try simp only [ai,List.set,aC]
   repeat ((first|(refine aA (v:= ?_) (by rfl) ?_ ?_;rotate_left;rintro W hW;go_simp;with_reducible rfl)|refine aB (by rfl) ?_);simp only [ai,List.set])
   refine bj (uA (by rfl) (fun K hK=> ?_));have ly:=gj.out.1.grow hgx;have eW:=ly.self;have f9:=bG eW;have Lz:w7.cell? ⟨tb,9,none⟩=some (.int .i64 (C:Int)):=by simp [World.cell?,eW]
   have LA:=af eW;go_simp;refine hK _ _ ?_;clear hK K
   try simp only [Act.put,mf,List.set_cons_zero,kz]
   have BD:=ly.size Xf z;have ahS:=(aP w7 ⟨tb,9,none⟩ (.int .i64 z) w.heap.size (fun e=>by have e':w.heap.size=tb:=e;have:=H.out.lt (.inl rfl:FM tb ha ns tb);omega)).trans (hgx.heap gj.out.2.1);have azI:w4.heap.size≤(w7.setCell ⟨tb,9,none⟩ (.int .i64 z)).heap.size:=by have h1:=hgx.size;have h2:=Xh.1;simp;omega
   have bJ:=ae (ag BD ahS);generalize w7.setCell ⟨tb,9,none⟩ (.int .i64 z)=wz at*;clear ly eW f9 Lz LA BD ahS aQ t9 lt q0 q1 q2 q3 lq cG hgx;have Xi:Hid (z+((xk.size+yd.length+16:Nat):Int)=(C':Int)):=ae (by
    have h1:=gj.out.2.2.1;have h2:=gj.out.2.2.2.2.2;have h3:jq ⟨yk,ys,yg,yl⟩=sy:=ahR;have h4:jq ⟨xk,xs,xg,yd⟩=xk.size+yd.length+16:=rfl;omega)
   have Xj:Hid (C'≤2000000000000):=ae Lx;have Xk:=ae gj.out.2.2.2.2.1;have LB:=ae (ag azI Xh.2);clear gj BC ahR Lx Xh;have eW:=bJ.out.1.self;obtain ⟨t9,lt⟩:wz.cell? ⟨tb,9,none⟩=some (.int .i64 z)∧tb<wz.heap.size:=⟨by simp [World.cell?,eW],af eW⟩
   obtain ⟨q0,q1,q2,q3⟩:=cS bJ.out.2;have lq:=af bJ.out.2;have jH:=HX.out.2.2.2.2.2;have dW:=Hy.out.2;have BC:=ae (fun W=>WH W xk xs xg va yd.length vc (by omega) (by omega));obtain ⟨sx,zg⟩:∃ sx,xk.size+yd.length+16=sx:=⟨_,rfl⟩
   rw [zg] at BC;have mM:IntKind.i64.wrap (z+(sx:Int))=(C':Int):=by
    have h1:z+(sx:Int)=(C':Int):=by rw [←zg];exact Xi.out
    rw [h1];have h2:=Xj.out;exact aS _ (by omega)
   clear eW jH dW zg
   go_upto_region 7 with fail
   have aQ:=Grow.cells (w:=wz);refine uz (fun V=>Below wz.heap.size wz V) [(0,false),(1,false),(2,false),(3,false),(4,false),(5,true),(6,false),(7,false),(8,false)] 9 (by kernel_rfl) (by kernel_rfl) (bK fun _ _ _ _ _ h=>h) (by ((repeat (first|exact bS _ _|assumption|refine cz ?_|refine cA ?_|refine cj ?_ ?_ _|refine cy ?_ ?_ _))<;>try (first|omega|(simp<;>omega)))) ?_;simp only [cm,nth]
   repeat ((first|(refine aA (v:= ?_) (by rfl) ?_ ?_;rotate_left;rintro W hW;go_simp;with_reducible rfl)|refine aB (by rfl) ?_);simp only [ai,List.set])
   refine bp (by rfl) (by go_simp) (BC.out wz.drew) ?_;rintro e' w8 ⟨rfl,di⟩;have hgx:=(az wz).trans di;refine ⟨_,rfl,hgx,?_⟩
   try simp only [ai,List.set,aC]
   repeat ((first|(refine aA (v:= ?_) (by rfl) ?_ ?_;rotate_left;rintro W hW;go_simp;with_reducible rfl)|refine aB (by rfl) ?_);simp only [ai,List.set])
   refine bj (uA (by rfl) (fun K hK=> ?_));have ly:=bJ.out.1.grow hgx;have eW:=ly.self;have f9:=bG eW;have Lz:w8.cell? ⟨tb,9,none⟩=some (.int .i64 z):=by simp [World.cell?,eW]
   have LA:=af eW;go_simp;refine hK _ _ ?_;clear hK K
   try simp only [Act.put,mf,List.set_cons_zero,kz]
   have BD:=ly.size Xf (C':Int);have rj:Hid (w4.heap.size≤(w8.setCell ⟨tb,9,none⟩ (.int .i64 (C':Int))).heap.size):=ae (by have h1:=hgx.size;have h2:=LB.out.1;simp;omega);have bw:=ae BD;generalize w8.setCell ⟨tb,9,none⟩ (.int .i64 (C':Int))=wf at*;clear ly eW f9 Lz LA BD aQ t9 lt q0 q1 q2 q3 lq di hgx mM;go_wp2;refine bodyPost_ret (results_none rfl _ _ _) rfl ?_;have hE:=bw.out;have hdr:Iw N wf dv ds:=H.out.draws.kp ⟨hE.sep.size,fun b hb hl=>hE.sep.out b hl (HX.out.2.2.1 b hb).2⟩;refine ⟨rfl,bN,eI,?_,hE.list,hE.sep⟩;have Xl:∀ b,(N b∨(w.heap.size≤b∧b<w4.heap.size))→(N b∨(w.heap.size≤b∧b<wf.heap.size∧¬ FM tb ha bN b)):=fun b hb=>by
    rcases hb with hb|⟨hb1,hb2⟩
    ·exact .inl hb
    ·have s1:=rj.out
     refine .inr ⟨hb1,by omega,fun hf=> ?_⟩;exact LB.out.2 b hb1 hb2 hf
   exact ⟨by rw [Xk.out];exact hE.self,hE.skip.mono Xl,hE.aU,hdr.mono (fun b hb=> .inl hb)⟩
  ·simp only at hc'
   generalize hC:costs (ns.map (fun n=>n.x.e))=C at*;generalize Lv:costs (bN.map (fun n=>n.x.e))=C' at*;have ly:=hP.toZ;rw [hC] at ly;have Lx:C'≤2000000000000:=by omega
   obtain ⟨z,hz⟩:∃ z:Int,(C:Int)=z:=⟨_,rfl⟩
   have Xi:Hid (z+((xk.size+yd.length+16:Nat):Int)=(C':Int)):=ae (by omega);rw [hz] at ly;have bJ:=ae (ag ly gL);have Xj:Hid (C'≤2000000000000):=ae Lx;have Xk:=ae Lv;have LB:=ae pX;clear ly gL hz hC Lv hc' hP ahP Kg pw pX Lx;have eW:=bJ.out.1.self;obtain ⟨t9,lt⟩:wc.cell? ⟨tb,9,none⟩=some (.int .i64 z)∧tb<wc.heap.size:=⟨by simp [World.cell?,eW],af eW⟩
   obtain ⟨q0,q1,q2,q3⟩:=cS bJ.out.2;have lq:=af bJ.out.2;have jH:=HX.out.2.2.2.2.2;have dW:=Hy.out.2;have BC:=ae (fun W=>WH W xk xs xg va yd.length vc (by omega) (by omega));obtain ⟨sx,zg⟩:∃ sx,xk.size+yd.length+16=sx:=⟨_,rfl⟩
   rw [zg] at BC;have mM:IntKind.i64.wrap (z+(sx:Int))=(C':Int):=by
    have h1:z+(sx:Int)=(C':Int):=by rw [←zg];exact Xi.out
    rw [h1];have h2:=Xj.out;exact aS _ (by omega)
   clear eW jH dW zg
   go_upto_region 7 with fail
   have aQ:=Grow.cells (w:=wc);refine uz (fun V=>Below wc.heap.size wc V) [(0,false),(1,false),(2,false),(3,false),(4,false),(5,true),(6,false),(7,false),(8,false)] 9 (by kernel_rfl) (by kernel_rfl) (bK fun _ _ _ _ _ h=>h) (by ((repeat (first|exact bS _ _|assumption|refine cz ?_|refine cA ?_|refine cj ?_ ?_ _|refine cy ?_ ?_ _))<;>try (first|omega|(simp<;>omega)))) ?_;simp only [cm,nth]
   repeat ((first|(refine aA (v:= ?_) (by rfl) ?_ ?_;rotate_left;rintro W hW;go_simp;with_reducible rfl)|refine aB (by rfl) ?_);simp only [ai,List.set])
   refine bp (by rfl) (by go_simp) (BC.out wc.drew) ?_;rintro e' w8 ⟨rfl,di⟩;have hgx:=(az wc).trans di;refine ⟨_,rfl,hgx,?_⟩
   try simp only [ai,List.set,aC]
   repeat ((first|(refine aA (v:= ?_) (by rfl) ?_ ?_;rotate_left;rintro W hW;go_simp;with_reducible rfl)|refine aB (by rfl) ?_);simp only [ai,List.set])
   refine bj (uA (by rfl) (fun K hK=> ?_));have ly:=bJ.out.1.grow hgx;have eW:=ly.self;have f9:=bG eW;have Lz:w8.cell? ⟨tb,9,none⟩=some (.int .i64 z):=by simp [World.cell?,eW]
   have LA:=af eW;go_simp;refine hK _ _ ?_;clear hK K
   try simp only [Act.put,mf,List.set_cons_zero,kz]
   have BD:=ly.size Xf (C':Int);have rj:Hid (w4.heap.size≤(w8.setCell ⟨tb,9,none⟩ (.int .i64 (C':Int))).heap.size):=ae (by have h1:=hgx.size;have h2:=LB.out.1;simp;omega);have bw:=ae BD;generalize w8.setCell ⟨tb,9,none⟩ (.int .i64 (C':Int))=wf at*;clear ly eW f9 Lz LA BD aQ t9 lt q0 q1 q2 q3 lq di hgx mM;go_wp2;refine bodyPost_ret (results_none rfl _ _ _) rfl ?_;have hE:=bw.out;have hdr:Iw N wf dv ds:=H.out.draws.kp ⟨hE.sep.size,fun b hb hl=>hE.sep.out b hl (HX.out.2.2.1 b hb).2⟩;refine ⟨rfl,bN,eI,?_,hE.list,hE.sep⟩;have Xl:∀ b,(N b∨(w.heap.size≤b∧b<w4.heap.size))→(N b∨(w.heap.size≤b∧b<wf.heap.size∧¬ FM tb ha bN b)):=fun b hb=>by
    rcases hb with hb|⟨hb1,hb2⟩
    ·exact .inl hb
    ·have s1:=rj.out
     refine .inr ⟨hb1,by omega,fun hf=> ?_⟩;exact LB.out.2 b hb1 hb2 hf
   exact ⟨by rw [Xk.out];exact hE.self,hE.skip.mono Xl,hE.aU,hdr.mono (fun b hb=> .inl hb)⟩
end
theorem azJ (w:World):(Instr.makeSlice 174 (.int .i64 12) (.int .i64 12)).run Tryz.prog w= .ok (.slice (some ⟨w.heap.size,0,none⟩) 12 12) (w.alloc (.cells #[.pointer none,.pointer none,.pointer none,.pointer none,.pointer none,.pointer none,.pointer none,.pointer none,.pointer none,.pointer none,.pointer none,.pointer none] 287)):=agT (k:=12) (aw _) w
theorem ahT {w:World} {ds:List Int} (h:Iw N w v ds):
  Calls Tryz.prog 50 #[v] w fun e w'=>∃ tb ha dv,e= .returned (au tb)∧dQ (fun b=>w.heap.size≤b∧b<w'.heap.size∧¬ FM tb ha [] b) w' tb ha [] 0 dv ds∧Grow w w'∧w.heap.size≤tb∧w.heap.size≤ha∧Go.Gl.Row1 3 w.heap.size w' dv (ds.map (fun x=> .int .i64 x)):=by
 have hlen:ds.length≤1000000000:=by obtain ⟨_,_,_,h,_⟩:=h;exact h
 have gp:=ae (agQ h);obtain ⟨va,vc,rfl,_⟩:=h;go_enter Tryz.func50,Tryz.ntmps50
 go_wp2_with fail
 (with_reducible refine gp.out.mono ?_);rintro e w1 ⟨dv,rfl,Xm,hg1⟩;have Qz:=Xm;obtain ⟨da,dc,rfl⟩:=Xm.slice;rw [bF] at Qz ⊢;have ahH:=azJ
 go_upto_region 2 with fail
 have ah:=ar w1 (.cells #[.string ⟨#[]⟩,.int .u64 0,.bool false,.slice none 0 0,.slice none 0 0,.nilFunc,.int .i64 0,.int .i64 0,.slice da ds.length dc,.int .i64 0] 181);have hb:=ax w1 (.cells #[.string ⟨#[]⟩,.int .u64 0,.bool false,.slice none 0 0,.slice none 0 0,.nilFunc,.int .i64 0,.int .i64 0,.slice da ds.length dc,.int .i64 0] 181);have s1:=hg1.size;have s2:(w1.alloc (.cells #[.string ⟨#[]⟩,.int .u64 0,.bool false,.slice none 0 0,.slice none 0 0,.nilFunc,.int .i64 0,.int .i64 0,.slice da ds.length dc,.int .i64 0] 181)).heap.size=w1.heap.size+1:=World.size_alloc _ _;generalize w1.alloc (.cells #[.string ⟨#[]⟩,.int .u64 0,.bool false,.slice none 0 0,.slice none 0 0,.nilFunc,.int .i64 0,.int .i64 0,.slice da ds.length dc,.int .i64 0] 181)=w2 at*;generalize dY:w1.heap.size=tb at*;have hgb:=ar w2 (.cells #[.pointer none,.pointer none,.pointer none,.pointer none,.pointer none,.pointer none,.pointer none,.pointer none,.pointer none,.pointer none,.pointer none,.pointer none] 287);have ha2:=ax w2 (.cells #[.pointer none,.pointer none,.pointer none,.pointer none,.pointer none,.pointer none,.pointer none,.pointer none,.pointer none,.pointer none,.pointer none,.pointer none] 287);have hb3:=hgb.heap hb;rw [s2] at ha2;have qE:=ae s2;have e4:w2.heap.size=tb+1:=s2;have kX:=ae dY;clear s2 dY;obtain ⟨w3,hw3⟩:∃ w3,w2.alloc (.cells #[.pointer none,.pointer none,.pointer none,.pointer none,.pointer none,.pointer none,.pointer none,.pointer none,.pointer none,.pointer none,.pointer none,.pointer none] 287)=w3:=⟨_,rfl⟩
 rw [hw3] at hgb ha2 hb3;have h4:=Go.Gl.aK hb3 4 (.slice (some ⟨tb+1,0,none⟩) 12 12);simp only [mf,List.set_cons_zero,kz] at h4;have h5:=Go.Gl.aK h4 5 (.func (.func 93) #[] #[]);simp only [mf,List.set_cons_zero,kz] at h5;have hle:w.heap.size≤tb:=by omega
 have hgr:Grow w ((w3.setCell ⟨tb,4,none⟩ (.slice (some ⟨tb+1,0,none⟩) 12 12)).setCell ⟨tb,5,none⟩ (.func (.func 93) #[] #[])):=((hg1.trans (ah.trans hgb)).setCell (p:=⟨tb,4,none⟩) hle _).setCell (p:=⟨tb,5,none⟩) hle _;have uT:((w3.setCell ⟨tb,4,none⟩ (.slice (some ⟨tb+1,0,none⟩) 12 12)).setCell ⟨tb,5,none⟩ (.func (.func 93) #[] #[])).heap[tb+1]?=some (.cells #[.pointer none,.pointer none,.pointer none,.pointer none,.pointer none,.pointer none,.pointer none,.pointer none,.pointer none,.pointer none,.pointer none,.pointer none] 287 (0,0)):=by
  rw [aP _ _ _ _ (by simp),aP _ _ _ _ (by simp)];exact ha2
 have iG:Go.Gl.Row1 3 w.heap.size ((w3.setCell ⟨tb,4,none⟩ (.slice (some ⟨tb+1,0,none⟩) 12 12)).setCell ⟨tb,5,none⟩ (.func (.func 93) #[] #[])) (.slice da ds.length dc) (ds.map (fun x=> .int .i64 x)):=by
  refine ((Qz.grow (ah.trans hgb))).keep (fun g hgb'=> ?_);have h9:=(Qz.lt hgb').2;rw [kX.out] at h9;have hne:g≠tb:=by omega
  rw [aP _ _ _ _ hne,aP _ _ _ _ hne]
 have Kl:=af hb3;obtain ⟨c4,c5⟩:w3.cell? ⟨tb,4,none⟩=some (.slice none 0 0)∧w3.cell? ⟨tb,5,none⟩=some .nilFunc:=by simp [World.cell?,hb3]
 have f3:=bG hb3;have bw:=ae (ag h5 (ag hgr (ag uT iG)));clear h4 h5 hgr uT iG hb3 ha2 ah hgb hb Xm Qz gp;have pO:∀ W,(store ⟨tb,5,none⟩ (.func (.func 93) #[] #[])).run Tryz.prog W=stored Tryz.prog W ⟨tb,5,none⟩ (.func (.func 93) #[] #[]) .plain:=fun W=>run_store Tryz.prog W ⟨tb,5,none⟩ (.func (.func 93) #[] #[]) .plain rfl
 go_wp2;go_ret;have hE:=bw.out;have ahU:(Value.slice (some ⟨tb+1,0,none⟩) 12 12)= .slice (some ⟨(bM tb (tb+1)).arr,0,none⟩) 12 12:=rfl;refine ⟨tb,tb+1,.slice da ds.length dc,rfl,⟨hE.1,⟨fun n hn=>(by cases hn),⟨hE.2.2.1,trivial⟩,fun n hn=>(by cases hn),List.nodup_nil,by simp,fun n hn=>(by cases hn),cn.nil⟩,aY _,?_⟩,hE.2.1,hle,by omega,hE.2.2.2⟩;refine Lb hE.2.2.2 hlen (fun g hg=> ?_);obtain ⟨h1,h2⟩:=hE.2.2.2.lt hg;refine ⟨h1,h2,fun hf=> ?_⟩;obtain ⟨cur,hc⟩:=hE.2.2.2.block hg;rcases hf with hf|hf|⟨n,hn,_⟩
 ·rw [hf,hE.1] at hc
  exact absurd (cE (bk hc)).2.1 (by decide)
 ·rw [hf,hE.2.2.1] at hc
  exact absurd (cE (bk hc)).2.1 (by decide)
 ·cases hn
theorem azK (h:Iw N w v ds):
  Calls Tryz.prog 50 #[v] w fun e w'=>∃ tb ha dv,e= .returned (au tb)∧dQ (fun b=>w.heap.size≤b∧b<w'.heap.size∧¬ FM tb ha [] b) w' tb ha [] 0 dv ds∧Grow w w'∧w.heap.size≤tb∧w.heap.size≤ha:=by
 refine (ahT h).mono ?_;rintro e w' ⟨tb,ha,dv,h1,h2,h3,h4,h5,_⟩;exact ⟨tb,ha,dv,h1,h2,h3,h4,h5⟩
end Go.Proofs.YtoolkdapflaeeaaGreatDoor
namespace Go.Proofs.YtoolkdapflaeeaaGreatDoor
open Go.RowKit Go.Gl
abbrev W0:Fence:=Fence.wide
def BF {α:Type} (P:Program) (f:FuncId) (lb:Array Value) (R:α→Array Value→World→Prop) (N:Nat→Prop) (xs:List α) (w:World):Prop:=
 ∀ (l:Nat) (J Jx:List α→World→Prop) (W:World),Kp N w W→OwnFrom W.heap.size J→OwnFrom W.heap.size Jx→
  (∀ pre x rest v W1,xs=pre++x::rest→J pre W1→R x v W1→YieldAt W0 3 P l v W1 fun e W'=>
   (e= .returned (.bool true)∧J (pre++ [x]) W'∧Kp N W1 W')∨(e= .returned (.bool false)∧Jx (pre++ [x]) W'))→
  J [] W→
  CallsIn W0 3 P f (#[.func (.yield l) #[] #[]]++lb) W fun e W'=>(∃ v,e= .returned v)∧(J xs W'∨∃ pre x rest,xs=pre++x::rest∧Jx (pre++ [x]) W')
theorem Kp.putObj {l:Nat} (o:Obj) (hl:¬ N l):Kp N W (W.putObj l o):=
 Kp.grown (grownBy_putObj' W l o) (fun b e=>by cases e;exact hl)
def azL {α:Type} (B:Nat) (N:Nat→Prop) (I:List α→World→Prop) (Ix:Code→List α→World→Prop) (xs:List α) (W:World):Exit→Act→World→Prop:=ownPostG B (Kp N) I Ix xs W
theorem Xn {α:Type} {P:Program} {g:Operand} {ps:Array Tmp} {assign body:Code} {Q:Exit→Act→World→Prop} {a:Act} {w:World} {gf:Nat} {lb:Array Value}
  (hg:a.eval g= .func (.func gf) #[] lb) (eg:∀ args w,(callFunc gf args).run P w= .ok (.enter gf args) w)
  {R:α→Array Value→World→Prop} {xs:List α} (hs:BF P gf lb R N xs w0) (hk:Kp N w0 w) (hN:∀ b,N b→b<w.heap.size)
  (fw:∀ x v W,R x v W→v.size=ps.size) (hR:∀ x v,OwnFrom w.heap.size (fun (_:Unit) W=>R x v W))
  (I:List α→World→Prop) (Ix:Code→List α→World→Prop) (hI:OwnFrom w.heap.size I) (Ee:∀ c,OwnFrom w.heap.size (Ix c)) (h0:I [] w)
  (azM:∀ (l:Nat) (pre:List α) (x:α) (rest:List α) (v:Array Value) (W:World),xs=pre++x::rest→w.heap.size≤l→w.heap.size≤W.heap.size→I pre W→R x v W→
   assign.wpIn (W0.inRound l) 3 P (Exit.then (fun a' W'=>Grow W W'∧∀ W2:World,W'.heap.size≤W2.heap.size→(∀ (b:Nat) arr t f,W'.heap[b]?=some (Obj.cells arr t f)→W2.heap[b]?=some (Obj.cells arr t f))→I pre W2→R x v W2→
    body.wpIn (W0.inRound l) 3 P (azL w.heap.size N I Ix (pre++ [x]) W2) a' W2) (fun _ _ _=>False)) {tmps:=(ps.zip v).foldl (fun t (p,v)=>t.setIfInBounds p v) a.tmps,defers:= []} W)
  (hdone:∀ (D:Nat) (W:World),w.heap.size≤D→I xs W→W.heap[D]?=some (.deferred (some []))→Q .normal {a with defers:={target:= .collected D,args:=#[]}::a.defers} W)
  (azN:∀ (D:Nat) (c:Code) (pre:List α) (x:α) (rest:List α) (W:World),w.heap.size≤D→xs=pre++x::rest→Ix c (pre++ [x]) W→W.heap[D]?=some (.deferred (some []))→c.wp P Q {a with defers:={target:= .collected D,args:=#[]}::a.defers} W):
  (Code.rangeFunc g ps assign body).wp P Q a w:=by
 refine (wpIn_wide (n:=4)).1 ?_;refine wpIn_rangeFunc ?_;intro fn hfn;obtain ⟨rec,qg⟩:∃ rec:LoopState→Option Code→Loop,rec=fun st pe=>{state:=st,pending:=pe,fn,tmps:=a.tmps,params:=ps,assign,body,defers:=w.heap.size}:=⟨_,rfl⟩
 obtain ⟨W1,hW1⟩:∃ W1,(w.alloc (.deferred (some []))).alloc (.loop (rec .ready none))=W1:=⟨_,rfl⟩
 have hL1:W1.heap[w.heap.size+1]?=some (.loop (rec .ready none)):=by
  rw [←hW1];have:=World.alloc_heap_new (w.alloc (.deferred (some []))) (.loop (rec .ready none));rwa [World.size_alloc] at this
 have QA:W1.heap[w.heap.size]?=some (.deferred (some [])):=by
  rw [←hW1];exact (Below.heap_alloc _ _ _ (by simp)).trans (World.alloc_heap_new w _)
 have hI1:I [] W1:=by rw [←hW1];exact hI.alloc _ (hI.alloc _ h0)
 have hz1:W1.heap.size=w.heap.size+2:=by rw [←hW1];simp
 have hb1:Kp N w0 W1:=by
  rw [←hW1];exact hk.trans (.bT ((ar w _).trans ((ar _ _))))
 have hNl:∀ b,w.heap.size≤b→¬ N b:=fun b hb hn=>by have:=hN b hn;omega
 refine ⟨w.heap.size+1,[{target:= .collected w.heap.size,args:=#[]}],W1,{target:= .fn (.func gf) lb,args:=#[.func (.yield (w.heap.size+1)) #[] #[]]},W1,gf,
  #[.func (.yield (w.heap.size+1)) #[] #[]]++lb,W1,?_,?_,?_,?_,(fun h=>by cases h),?_⟩
 ·rw [←hW1,qg];exact run_enterLoop_outer _ _ _ _ _
 ·simp only [resolve,hg]
  simp [go_sem]
 ·intro f' _;trivial
 ·simp [invoke,go_sem,eg]
 ·have eK:∀ {A B:World} {row:Option Nat},(∀ r,row=some r→W1.heap.size≤r∧∃ o:Obj,A.heap[r]?=some o∧o.isCells=false)→(∀ r,row=some r→w.heap.size≤r∧∃ o:Obj,A.heap[r]?=some o∧o.isCells=false):=
   fun hr r e=>⟨by have:=(hr r e).1;omega,(hr r e).2⟩
  have QB:∀ {A B:World} {row:Option Nat} (b:Nat) (o:Obj),b<W1.heap.size→A.grownBy B row→(∀ r,row=some r→W1.heap.size≤r∧∃ o:Obj,A.heap[r]?=some o∧o.isCells=false)→A.heap[b]?=some o→B.heap[b]?=some o:=
   fun {A B row} b o hb hg hr ho=>by rw [hg.block b (af ho) (fun e=>by have:=(hr b e.symm).1;omega)];exact ho
  refine (hs (w.heap.size+1)
   (fun pre W=>I pre W∧W.heap[w.heap.size+1]?=some (.loop (rec .ready none))∧W.heap[w.heap.size]?=some (.deferred (some [])))
   (fun pre W=>∃ c,Ix c pre W∧W.heap[w.heap.size+1]?=some (.loop (rec .done (some c)))∧W.heap[w.heap.size]?=some (.deferred (some [])))
   W1 hb1
   (fun s A B row hs eR hr=>⟨hI s A B row hs.1 eR (eK (B:=B) hr),QB _ _ (by omega) eR hr hs.2.1,QB _ _ (by omega) eR hr hs.2.2⟩)
   (fun s A B row hs eR hr=>by
    obtain ⟨c,hc,hl,hk⟩:=hs;exact ⟨c,Ee c s A B row hc eR (eK (B:=B) hr),QB _ _ (by omega) eR hr hl,QB _ _ (by omega) eR hr hk⟩)
   ?_ ⟨hI1,hL1,QA⟩).mono ?_
  ·rintro pre x rest v W dp ⟨hi,hl,Ef⟩ zh
   have hlt:w.heap.size+1<W.heap.size:=af hl;have hy:=run_yield (P:=P) (args:=v) hl (by rw [qg];exact fw x v W zh);rw [qg] at hy;refine ⟨fn,_,assign,body,hy,roundIn_of_wpIn hfn (wpIn_mono (azM (w.heap.size+1) pre x rest v W dp (by omega) (by omega) hi zh) ?_)⟩;clear hy;rintro e0 a' Wa yw;cases e0<;>try exact yw.elim
   obtain ⟨ah,azQ⟩:=yw;have hia:=hI pre W Wa none hi ⟨ah.os,ah.tape,ah.output,ah.size,fun b hb _=>ah.block b hb⟩ (fun r e=>by cases e);have hRa:=hR x v () W Wa none zh ⟨ah.os,ah.tape,ah.output,ah.size,fun b hb _=>ah.block b hb⟩ (fun r e=>by cases e);replace hl:=ah.heap hl;replace Ef:=ah.heap Ef;have GM:Kp N W Wa:= .bT ah;clear hi zh hlt;have hlt:w.heap.size+1<Wa.heap.size:=af hl;refine ⟨_,run_beginRound hl (by rw [qg]),?_⟩;have hl2:(Wa.putObj (w.heap.size+1) (.loop {rec .ready none with state:= .busy})).heap[w.heap.size+1]?=some (.loop {rec .ready none with state:= .busy}):=World.putObj_heap_same hlt;have hk2:(Wa.putObj (w.heap.size+1) (.loop {rec .ready none with state:= .busy})).heap[w.heap.size]?=some (.deferred (some [])):=(World.putObj_heap_other (by omega)).trans Ef;have hw2:Kp N W (Wa.putObj (w.heap.size+1) (.loop {rec .ready none with state:= .busy})):=GM.trans (Kp.putObj _ (hNl _ (by omega)));have afH:∀ (b:Nat) arr t f,Wa.heap[b]?=some (Obj.cells arr t f)→(Wa.putObj (w.heap.size+1) (.loop {rec .ready none with state:= .busy})).heap[b]?=some (Obj.cells arr t f):=fun b arr t f hb=>
    (World.putObj_heap_other (fun e=>by subst e;rw [hl] at hb;cases hb)).trans hb
   have QC:Wa.heap.size≤(Wa.putObj (w.heap.size+1) (.loop {rec .ready none with state:= .busy})).heap.size:=(grownBy_putObj' Wa _ _).size;refine wpIn_mono (azQ _ QC afH (hI.putObj _ hia (by omega) hl rfl) ((hR x v).putObj (s:=()) _ hRa (by omega) hl rfl)) ?_;have fin:∀ (jump:Option Code) (W3:World),KeepsFrom w.heap.size (Wa.putObj (w.heap.size+1) (.loop {rec .ready none with state:= .busy})) W3→
     (Instr.endRound (w.heap.size+1) jump).run P W3= .ok (.bool jump.isNone) (W3.putObj (w.heap.size+1) (.loop (rec (if jump.isNone then .ready else .done) jump)))∧
     W3.heap[w.heap.size+1]?=some (.loop {rec .ready none with state:= .busy})∧
     (W3.putObj (w.heap.size+1) (.loop (rec (if jump.isNone then .ready else .done) jump))).heap[w.heap.size+1]?=some (.loop (rec (if jump.isNone then .ready else .done) jump))∧
     (W3.putObj (w.heap.size+1) (.loop (rec (if jump.isNone then .ready else .done) jump))).heap[w.heap.size]?=some (.deferred (some [])):=fun jump W3 hk3=>by
    have px:=hk3.same _ _ (by omega) hl2 rfl;have:=run_endRound (P:=P) jump px;rw [qg] at this ⊢;exact ⟨this,by rw [qg] at px;exact px,World.putObj_heap_same (af px),(World.putObj_heap_other (by omega)).trans (hk3.same _ _ (aw _) hk2 rfl)⟩
   rintro e a3 W3 hp;cases e with
   |normal=>
    obtain ⟨hk3,azT,Eg⟩:=hp;obtain ⟨hr,px,hl4,hk4⟩:=fin none W3 hk3;exact ⟨_,_,hr,.inl ⟨rfl,⟨hI.putObj _ Eg (by omega) px rfl,hl4,hk4⟩,(hw2.trans azT).trans (Kp.putObj _ (hNl _ (by omega)))⟩⟩
   |ret=>
    obtain ⟨hk3,Eg⟩:=hp;obtain ⟨hr,px,hl4,hk4⟩:=fin (some .ret) W3 hk3;exact ⟨_,_,hr,.inr ⟨rfl,.ret,(Ee _).putObj _ Eg (by omega) px rfl,hl4,hk4⟩⟩
   |exit id=>
    obtain ⟨hk3,Eg⟩:=hp;obtain ⟨hr,px,hl4,hk4⟩:=fin (some (.exit id)) W3 hk3;exact ⟨_,_,hr,.inr ⟨rfl,.exit id,(Ee _).putObj _ Eg (by omega) px rfl,hl4,hk4⟩⟩
   |goto t=>
    obtain ⟨hk3,Eg⟩:=hp;obtain ⟨hr,px,hl4,hk4⟩:=fin (some (.goto t)) W3 hk3;exact ⟨_,_,hr,.inr ⟨rfl,.goto t,(Ee _).putObj _ Eg (by omega) px rfl,hl4,hk4⟩⟩
   |panic ch=>exact hp.elim
   |outgrown=>exact hp.elim
  ·rintro e W2 ⟨⟨v,rfl⟩,(⟨hi,hl,Ef⟩|⟨pre,x,rest,dp,c,hi,hl,Ef⟩)⟩
   ·exact ⟨none,_,by have:=run_endLoop (P:=P) hl (by rw [qg];simp);rw [qg] at this;exact this,hdone _ _ (aw _) (hI.putObj _ hi (by omega) hl rfl) ((World.putObj_heap_other (by omega)).trans Ef)⟩
   ·exact ⟨some c,_,by have:=run_endLoop (P:=P) hl (by rw [qg];simp);rw [qg] at this;exact this,wpIn_wide.2 (azN _ c pre x rest _ (aw _) dp ((Ee c).putObj _ hi (by omega) hl rfl) ((World.putObj_heap_other (by omega)).trans Ef))⟩
end Go.Proofs.YtoolkdapflaeeaaGreatDoor
namespace Go.Proofs.YtoolkdapflaeeaaGreatDoor
open Go.RowKit Go.Gl Go.aF Mn
section
attribute [local go_sem] Oper.semAt_some
def Rt (N:Nat→Prop) (y:Ev) (v:Array Value) (W:World):Prop:=v=#[.agg (bW y)]∧kJ N W y
theorem ahW {m:Nat} (m':Nat) {P:Program} {l:Nat} {f:FuncId} {tmps:Array Value} {assign body:Code} {R:Ending→World→Prop} (h:RoundIn W0 m P l f tmps assign body w R):RoundIn W0 m' P l f tmps assign body w R:=
 ⟨h.1,fun c cs _=>h.2 c cs (fun d hd=>by cases hd)⟩
theorem Xo {α:Type} {J:α→World→Prop} {s:α} (hJ:OwnFrom B J) (h:J s W) (hg:Grow W W'):J s W':=
 hJ s W W' none h ⟨hg.os,hg.tape,hg.output,hg.size,fun b hb _=>hg.block b hb⟩ (fun r e=>by cases e)
theorem ahX {ns:List Nd} (h:dQ N w tb ha ns aU dv ds) (x:Ev) {xa:Option Addr} {xl xc:Nat} (cN:x.v= .slice xa xl xc) {Bl Bx:Nat} {tl:TypeId}
  (hl:w.heap[Bl]?=some (.cells #[au tb] tl (0,0))) (hx:w.heap[Bx]?=some (.cells (bW x) 60 (0,0))):
  BF Tryz.prog 216 #[.pointer (some ⟨Bl,0,none⟩),.pointer (some ⟨Bx,0,none⟩)] (Rt N) (fun b=>N b∨FM tb ha ns b∨b=Bl∨b=Bx) ((gz x.e ns).map Nd.x) w:=by
 intro l J Jx W hW hJ hJx hY h0;obtain ⟨⟨xk,xs,xg,xd⟩,xv⟩:=x;simp only at cN;subst cN;have Xp:∀ W',Kp (fun b=>N b∨FM tb ha ns b∨b=Bl∨b=Bx) w W'→dQ N W' tb ha ns aU dv ds:=fun W' hk=>h.keep (fun b hb=>hk.same b (.inr (.inl hb)) (h.lt hb)) (hk.mono (fun b hb=> .inl hb))
 have hM:=Xp W hW;have Eh:W.heap[Bl]?=some (.cells #[au tb] tl (0,0)):=(hW.same Bl (.inr (.inr (.inl rfl))) (af hl)).trans hl;have Xq:W.heap[Bx]?=some (.cells (bW ⟨⟨xk,xs,xg,xd⟩,.slice xa xl xc⟩) 60 (0,0)):=(hW.same Bx (.inr (.inr (.inr rfl))) (af hx)).trans hx;have c0:W.cell? ⟨Bl,0,none⟩=some (au tb):=by simp [World.cell?,Eh]
 obtain ⟨d0,d1,d2,d3⟩:=cS Xq;have lBl:=af Eh;have lBx:=af Xq;obtain ⟨bf,kZ,Lm⟩:=levels ⟨xk,xs,xg,xd⟩ ns tb ha;have Ea:=agK hM ⟨⟨xk,xs,xg,xd⟩,.slice xa xl xc⟩ (xa:=xa) (xl:=xl) (xc:=xc) rfl;rw [Lm] at Ea;have CH:∀ V:World,(Instr.index 288 (.agg #[au (bf 0).blk,au (bf 1).blk,au (bf 2).blk,au (bf 3).blk,au (bf 4).blk,au (bf 5).blk,au (bf 6).blk,au (bf 7).blk,au (bf 8).blk,au (bf 9).blk,au (bf 10).blk,au (bf 11).blk]) (.int .i64 0)).run Tryz.prog V= .ok (au (bf 0).blk) V:=fun V=>by
  simp [Instr.index,run_underlying Tryz.underlying288,go_sem]
 have uI:∀ V,Grow W V→V.cell? ⟨(bf 0).blk,4,none⟩=some (.slice (some ⟨(bf 0).arr,0,none⟩) (bf 0).h (bf 0).h)∧(bf 0).blk<V.heap.size∧V.cell? ⟨(bf 0).arr,0,none⟩=some (ct 0 (gz ⟨xk,xs,xg,xd⟩ ns))∧(bf 0).arr<V.heap.size∧(0:Int)<((bf 0).h:Int):=fun V hg=>by
  have hV:=hM.grow hg;obtain ⟨pre,m,eL,uM⟩:=last_zero (L:=bM tb ha::cd ⟨xk,xs,xg,xd⟩ ns) (by simp) (fun n hn=>by
   rcases bE.1 hn with rfl|hn
   ·show 1≤12;omega
   ·exact (hM.skip.hs n (by rw [←jO ⟨xk,xs,xg,xd⟩ ns];exact jw _ hn)).1)
  have vt:bf 0=m:=by have:=kZ 0 (by decide);rw [uM] at this;exact (bk this).symm
  have e2:bM tb ha::ns=pre++m::gz ⟨xk,xs,xg,xd⟩ ns:=by
   have h1:bM tb ha::ns=(bM tb ha::cd ⟨xk,xs,xg,xd⟩ ns)++gz ⟨xk,xs,xg,xd⟩ ns:=by rw [gG,jO]
   rw [h1,eL];simp
  have cK:m∈bM tb ha::ns:=by rw [e2];simp
  have gC:0<m.h:=by
   rcases bE.1 cK with rfl|hn
   ·show 0<12;omega
   ·exact (hM.skip.hs m hn).1
  obtain ⟨t4,lm⟩:=hV.tail cK;obtain ⟨tl,la⟩:=hV.link e2 gC;rw [vt];exact ⟨t4,lm,tl,la,by omega⟩
 have WE:=ae uI;have HK:=ae Xp;have HW:=ae hW;have Qp:=ae kZ;have Qo:=ae Ea;have H:=ae h;have HY:=ae hY;have H0:=ae h0;have HJ:=ae hJ;clear uI h hl hx Xp hM Eh Xq kZ Ea Lm hW hY h0 hJ;refine callsIn_of_wp Tryz.func216 rfl trivial ?_ rfl;simp only [Tryz.ntmps216,List.size_toArray,dH,iK,Nat.reduceAdd,Nat.reduceSub,Array.replicate_succ,Array.replicate_zero,List.push_toArray,List.append_toArray,iq,gG]
 gi_wp2_with (refine ⟨trivial,?_⟩;gi_at_call 182;refine (callsIn_wide.2 Qo.out).mono ?_;rintro e w' ⟨rfl,hg⟩;obtain ⟨t4,lm,tl,la,gC⟩:=WE.out w' hg)
 have hJ1:=Xo HJ.out H0.out hg;have QA:=HW.out.trans (.bT hg);have hbl:((gz ⟨xk,xs,xg,xd⟩ ns).map Nd.blk).Nodup:=by
  have h2:=H.out.skip.Gz;rw [←jO ⟨xk,xs,xg,xd⟩ ns,dD] at h2;exact (List.nodup_append.1 h2).2.1
 have mF:∀ n∈gz ⟨xk,xs,xg,xd⟩ ns,n∈ns:=fun n hn=>by rw [←jO ⟨xk,xs,xg,xd⟩ ns];exact mX _ hn
 have hl0:∀ rest:List Nd,(∀ n∈rest,n∈ns)→ct 0 rest=match rest with| []=> .pointer none|n::_=>au n.blk:=fun rest hr=>by
  cases rest with
  |nil=>rfl
  |cons n r=>simp only;rw [ct,if_pos (show 0<n.h from (H.out.skip.hs n (hr n (dR ..))).1)]
 generalize hHI:gz ⟨xk,xs,xg,xd⟩ ns=HI at*;have Bc:=ae hbl;have aia:=ae mF;have Hl0:=ae hl0;have Xr:=ae hHI;have H1:=ae (ag hJ1 QA);clear hJ1 QA hbl mF hl0 hHI hg t4 lm tl la gC c0 d0 d1 d2 d3
 gi_loopw [4] (fun p wr=>∃ (pre rest:List Nd),p=ct 0 rest∧HI=pre++rest∧Kp (fun b=>N b∨FM tb ha ns b∨b=Bl∨b=Bx) w wr∧J (pre.map Nd.x) wr) (fun p _=>mleft HI p)
 case atStart=>exact ⟨[],HI,rfl,rfl,H1.out.2,H1.out.1⟩
 case round=>
  obtain ⟨pre,rest,rfl,hx,hk,hJs⟩:=hrel;have pO:∀ n∈rest,n∈ns:=fun n hn=>aia.out n (by rw [hx];exact mX _ hn)
  cases rest with
  |nil=>
   have e0:ct 0 []= .pointer none:=rfl;rw [e0];have Ol:HI=pre:=by rw [hx,List.append_nil]
   have Hx':=ae Ol;clear hx Ol;gi_wp2;go_end0;exact ⟨⟨_,rfl⟩,.inl (by rw [Xr.out,Hx'.out];exact hJs)⟩
  |cons n rest=>
   have jy:=pO n (dR ..);have hh:=H.out.skip.hs n jy;have e0:ct 0 (n::rest)=au n.blk:=by rw [ct,if_pos (show 0<n.h from hh.1)]
   rw [e0];have hM:=HK.out wr hk;obtain ⟨d0,d1,d2,d3⟩:=hM.ay jy;have ln:=af (hM.skip.node n jy);have Hx:=ae hx;have mK:HI.map Nd.x=pre.map Nd.x++n.x::rest.map Nd.x:=by rw [hx];simp
   have Hxm:=ae mK;obtain ⟨fn,tmps,assign,body,hy,hR⟩:=HY.out (pre.map Nd.x) n.x (rest.map Nd.x) #[.agg (bW n.x)] wr mK hJs ⟨rfl,(hM.skip.vals n jy).1⟩;dsimp only [bW] at hy;have ie:=fun (V:World) (hV:Kp (fun b=>N b∨FM tb ha ns b∨b=Bl∨b=Bx) w V)=>show (V.cell? ⟨n.blk,4,none⟩=some (.slice (some ⟨n.arr,0,none⟩) n.h n.h)∧n.blk<V.heap.size∧V.cell? ⟨n.arr,0,none⟩=some (ct 0 rest)∧n.arr<V.heap.size) from by
    have hMV:=HK.out V hV;obtain ⟨t4,lm⟩:=hMV.tail (fk _ jy);have e2:bM tb ha::ns=(bM tb ha::cd ⟨xk,xs,xg,xd⟩ ns++pre)++n::rest:=by
     have h1:bM tb ha::ns=(bM tb ha::cd ⟨xk,xs,xg,xd⟩ ns)++gz ⟨xk,xs,xg,xd⟩ ns:=by rw [gG,jO]
     rw [h1,Xr.out,hx];simp
    obtain ⟨tl,la⟩:=hMV.link e2 hh.1;exact ⟨t4,lm,tl,la⟩
   have azY:=ae ie;have iy:(0:Int)<(n.h:Int):=by omega
   clear hx mK hM ie pO;gi_wp2;refine (ahW 2 hR).mono ?_;rintro e W3 (⟨rfl,hJ3,hk3⟩|⟨rfl,azZ⟩)
   ·have hk4:=hk.trans hk3
    obtain ⟨t4,lm,tl,la⟩:=azY.out W3 hk4;clear hy hR d0 d1 d2 d3 ln hJs;gi_wp2;go_roundw
    case rel=>exact ⟨pre++ [n],rest,rfl,by rw [Hx.out];simp,hk4,by rw [dD];exact hJ3⟩
    case measure=>
     have h5:=Qa Bc.out Hx.out;rw [h5];cases rest with
     |nil=>exact Nat.zero_lt_succ _
     |cons m r=>
      have kA:=H.out.skip.hs m (aia.out m (by rw [Hx.out];simp));rw [ct,if_pos (show 0<m.h from kA.1),Qa Bc.out (show HI=(pre++ [n])++m::r by rw [Hx.out];simp)];simp
   ·gi_wp2
    refine bodyPost_ret (results_none rfl _ _ _) rfl ?_;exact ⟨⟨_,rfl⟩,.inr ⟨pre.map Nd.x,n.x,rest.map Nd.x,by rw [Xr.out];exact Hxm.out,azZ⟩⟩
end
section
attribute [local go_sem] Oper.semAt_some
def mQ (N:Nat→Prop) (B:Nat) (W:World) (y:Ev):Prop:=
 Bv W y.v y.e.val∧(y.e.val= []∨∀ b,y.v.ownBlock=some b→N b∨(B≤b∧∃ cur f,W.heap[b]?=some (.cells cur 5 f)∧f=(0,0)))
theorem aic (h:Bv W v l) (hs:W.heap.size≤W'.heap.size) (hk:l≠ []→∀ b,v.ownBlock=some b→W'.heap[b]?=W.heap[b]?):Bv W' v l:=by
 obtain ⟨a,c,rfl,hl,hm,hn,h⟩:=h;refine ⟨a,c,rfl,hl,hm,hn,?_⟩;rcases h with h|⟨b,o,rfl,hb,hc⟩
 ·exact .inl h
 ·by_cases he:l= []
  ·exact .inl he
  ·refine .inr ⟨b,o,rfl,cf hb hs,fun j x hx=> ?_⟩
   rw [←hc j x hx];simp only [World.cell?,hk he b rfl]
theorem mQ.keep {y:Ev} (h:mQ N B W y) (hs:W.heap.size≤W'.heap.size) (hN:∀ b,N b→W'.heap[b]?=W.heap[b]?)
  (hc:∀ (b:Nat) (cur:Array Value) (f:Nat×Nat),B≤b→W.heap[b]?=some (.cells cur 5 f)→W'.heap[b]?=some (.cells cur 5 f)):mQ N B W' y:=by
 refine ⟨aic h.1 hs (fun hne b hb=> ?_),h.2.imp id (fun h2 b hb=>(h2 b hb).imp id (fun ⟨h3,cur,f,h4,h5⟩=>⟨h3,cur,f,hc b cur f h3 h4,h5⟩))⟩;rcases h.2 with h2|h2
 ·exact absurd h2 hne
 ·rcases h2 b hb with h3|⟨h3,cur,f,h4,_⟩
  ·exact hN b h3
  ·rw [hc b cur f h3 h4,h4]
theorem mQ.slice {y:Ev} (h:mQ N B W y):∃ a c,y.v= .slice a y.e.val.length c:=h.1.slice
theorem mQ.aAa {y:Ev} (h:mQ N B W y) (hM:∀ b,N b∨B≤b→M b):kJ M W y:=
 ⟨h.1,h.2.imp id (fun h2 b hb=>hM b ((h2 b hb).imp id (fun h3=>h3.1)))⟩
def cO (B:Nat) (N:Nat→Prop) (W:World) (v:Value) (ys:List Ev):Prop:=W.ownsRow B 60 4 v ys.length (ys.flatMap fN)∧∀ y∈ys,mQ N B W y
theorem cO.es {ys:List Ev} (h:cO B N W v ys) (hM:∀ b,N b∨B≤b→M b):Es M W v ys:=
 Wu.es (B:=B) ⟨h.1,fun y hy=>(h.2 y hy).aAa hM⟩ (fun g hg=>by
  rcases h.1.2 with ⟨h1,_⟩|⟨g',cap,cur,h1,hB,_⟩
  ·rw [h1] at hg;cases hg
  ·rw [h1] at hg;cases hg;exact hM _ (.inr hB))
theorem sw {ys:List Ev} (h:cO B N W v ys) (hg:v.ownBlock=some g):B≤g∧∃ cur,W.heap[g]?=some (.cells cur 60 (0,0)):=by
 rcases h.1.2 with ⟨h1,h0⟩|⟨g',cap,cur,h1,hB,h3,_⟩
 ·rw [h1] at hg;cases hg
 ·rw [h1] at hg;cases hg;exact ⟨hB,cur,h3⟩
theorem cO.keep {ys:List Ev} (h:cO B N W v ys) (hs:W.heap.size≤W'.heap.size) (hN:∀ b,N b→W'.heap[b]?=W.heap[b]?)
  (hc:∀ (b:Nat) (cur:Array Value) (t:TypeId) (f:Nat×Nat),B≤b→(t=5∨t=60)→W.heap[b]?=some (.cells cur t f)→W'.heap[b]?=some (.cells cur t f)):cO B N W' v ys:=by
 refine ⟨⟨h.1.1,?_⟩,fun y hy=>(h.2 y hy).keep hs hN (fun b cur f hb hcb=>hc b cur _ f hb (.inl rfl) hcb)⟩;rcases h.1.2 with h1|⟨g,cap,cur,h1,h2,h3,h4⟩
 ·exact .inl h1
 ·exact .inr ⟨g,cap,cur,h1,h2,hc g cur _ _ h2 (.inr rfl) h3,h4⟩
theorem LC {ys:List Ev} (h:cO B N w v ys) {x:Ev} (hx:mQ N B w x) (Ei:∀ b,N b→b<B) (hB:B≤w.heap.size) (hl:ys.length≤1000000000):
  ∃ g cap w',(Builtin.append_ #[57,57] 57 #[v,.slice (some ⟨w.heap.size,0,none⟩) 1 1]).run Tryz.prog (w.alloc (.cells (bW x) 60))= .ok (.slice (some ⟨g,0,none⟩) (ys.length+1) cap) w'∧
   cO B N w' (.slice (some ⟨g,0,none⟩) (ys.length+1) cap) (ys++ [x])∧w.grownBy w' v.ownBlock:=by
 obtain ⟨i0,bO,hz0,hz1,hz2⟩:=info_parts Tryz.Wx;have oK:∀ u∈fN x,u.oneCell'=true:=fun u hu=>by
  obtain ⟨a,c,hv⟩:=hx.slice;simp only [fN,bE,List.not_mem_nil,or_false] at hu;rcases hu with rfl|rfl|rfl|rfl
  ·rfl
  ·rfl
  ·rfl
  ·rw [hv];rfl
 have eK:(w.alloc (.cells (bW x) 60)).heap[w.heap.size]?=some (.cells (bW x) 60 (0,0)):=ax _ _;obtain ⟨g,cap,w',hrun,hown,hgr,_,_⟩:=run_append_lies (P:=Tryz.prog) (w.alloc (.cells (bW x) 60)) 57 57 B 60 i0 _ 4 56 Tryz.underlying57 bO hz0 hz1 hz2 rfl (by decide) _ _ _ (eM h.1 (ar _ _))
  ⟨w.heap.size,0,none⟩ 1 1 (fN x) rfl (fun j u hu=>World.news_of_block eK j u (by simpa [fN] using hu)) oK (by decide) (by unfold maxLen;omega) (by omega) (by simp;omega) _ rfl
 have hgb:w.grownBy w' v.ownBlock:=by
  obtain ⟨a,b,c,d,e⟩:=hgr;exact ⟨a,b,c,aM (by simp) d,fun k hk hn=>by rw [e k (by simp;omega) hn];exact heap_alloc_old _ _ hk⟩
 refine ⟨g,cap,w',hrun,⟨?_,fun y hy=> ?_⟩,hgb⟩
 ·have yA:(ys++ [x]).flatMap fN=ys.flatMap fN++fN x:=by simp
  rw [aJ,yA];exact hown
 ·have hy':mQ N B w y:=by
   rcases cU.1 hy with h1|h1
   ·exact h.2 y h1
   ·rw [cY.1 h1];exact hx
  refine hy'.keep hgb.size (fun b hb=> ?_) (fun b cur f hb hc=> ?_)
  ·refine hgb.block b (cf (Ei b hb) hB) (fun e=> ?_)
   have:=(sw h e.symm).1;have:=Ei b hb;omega
  ·rw [hgb.block b (af hc) (fun e=> ?_)]
   ·exact hc
   ·obtain ⟨_,cur',h2⟩:=sw h e.symm
    rw [hc] at h2;exact absurd (cE (bk h2)).2.1 (by decide)
end
section
attribute [local go_sem] Oper.semAt_some
theorem rk {row:Option Nat} (hg:W.grownBy W' row) (hr:∀ r,row=some r→B≤r∧∃ o:Obj,W.heap[r]?=some o∧o.isCells=false) (h:W.heap[b]?=some (.cells cur t f)):W'.heap[b]?=some (.cells cur t f):=by
 rw [hg.block b (af h) (fun e=> ?_)]
 ·exact h
 ·obtain ⟨_,o,ho,hc⟩:=hr b e.symm
  rw [h] at ho;cases ho;cases hc
def Ej {α:Type} (ev:α→En) (B0:Nat) (N:Nat→Prop) (w:World) (pre:List α) (W:World):Prop:=
 ∃ (ys:List Ev) (rv:Value),ys.map Ev.e=pre.map ev∧W.heap[B0]?=some (.cells #[rv] 57 (0,0))∧cO w.heap.size N W rv ys∧Below w.heap.size w W
theorem Ej.own {α:Type} {ev:α→En} {B0:Nat} (hN:∀ b,N b→b<w.heap.size) (hB:w.heap.size≤B):OwnFrom B (Ej ev B0 N w):=by
 rintro pre W W' row ⟨ys,rv,h1,h2,h3,h4⟩ hg hr;refine ⟨ys,rv,h1,rk hg hr h2,h3.keep hg.size (fun b hb=>hg.block b (cf (hN b hb) h4.size) (fun e=>by have:=(hr b e.symm).1;have:=hN b hb;omega)) (fun b cur t f _ _ h=>rk hg hr h),?_⟩;exact h4.grown hg h4.size (fun k e=>by have:=(hr k e).1;omega)
theorem aid {F:Fence} {P:Program} {ops:Array Oper} {rest:List Oper} {o:Oper} {a:Act} {Q:Exit→Act→World→Prop} (hg:o.guard=none) (s x:Operand) (t:TypeId) (hop:o.op=Op.call {callee:=Callee.builtin Builtin.append,args:=#[s,x],argTypes:=#[t,t]})
  {sv:Value} (hs:a.eval s=sv) (hx:a.eval x=xv) (hr:(Builtin.append_ #[t,t] o.type #[sv,xv]).run P w= .ok v w') (hK:wpListIn F n P ops Q rest (a.put o.dst v) w'):wpListIn F n P ops Q (o::rest) a w:=by
 refine wpListIn_plain hg fun K hK'=> ?_
 unfold Oper.wpIn;refine ⟨?_,?_⟩
 ·simp [Oper.about,hop,resolve,Target.leads,Sem.run_pure]
 ·rw [Oper.semAt_plain F _ _ (by rw [hop];intro c hc;cases hc)]
  simp [execOp,hop,resolve,invoke,builtin,hs,hx,hr,Result.andThen];exact hK' _ _ hK
theorem OwnFrom.up {β:Type} {I:β→World→Prop} (h:OwnFrom B I) (hB:B≤B'):OwnFrom B' I:=fun s W W' row hs hg hr=>h s W W' row hs hg (fun r e=>⟨aM hB (hr r e).1,(hr r e).2⟩)
theorem aAb {α:Type} {gf:Nat} {lb:Array Value} {R:α→Array Value→World→Prop} {N':Nat→Prop} {xs:List α} {w:World} (ev:α→En) (eg:∀ args w,(callFunc gf args).run Tryz.prog w= .ok (.enter gf args) w)
  (hs:BF Tryz.prog gf lb R N' xs w) (GQ:∀ b,N' b→b<w.heap.size) (hN:∀ b,N b→b<w.heap.size) (hR:∀ x v W,R x v W→∃ y,v=#[.agg (bW y)]∧y.e=ev x∧mQ N w.heap.size W y)
  (GR:∀ x v,OwnFrom w.heap.size (fun (_:Unit) W=>R x v W)) (hlen:xs.length≤1000000000):
  Calls Tryz.prog 104 #[.slice none 0 0,.func (.func gf) #[] lb] w fun e w'=>∃ v ys,e= .returned v∧ys.map Ev.e=xs.map ev∧cO w.heap.size N w' v ys∧Grow w w':=by
 have ah:=ar w (.cells #[.slice none 0 0] 57);have hb:=ax w (.cells #[.slice none 0 0] 57);refine (callsIn_wide (n:=4)).1 (callsIn_of_wp_marks Tryz.func104 rfl trivial ?_ rfl);simp only [Tryz.ntmps104,List.size_toArray,dH,iK,Nat.reduceAdd,Nat.reduceSub,Array.replicate_succ,Array.replicate_zero,List.push_toArray,List.append_toArray,iq,gG];refine wpIn_wide.2 ?_
 go_wp2_with fail
 have hsz:(w.alloc (.cells #[.slice none 0 0] 57)).heap.size=w.heap.size+1:=World.size_alloc _ _;generalize cp:w.alloc (.cells #[.slice none 0 0] 57)=w1 at*;have h0:Ej ev w.heap.size N w [] w1:=⟨[],.slice none 0 0,rfl,hb,⟨iL _ _ _ _,fun _ h=>(by cases h)⟩,ah⟩
 refine Xn (gf:=gf) (lb:=lb) rfl eg (R:=R) (N:=N') (xs:=xs) hs (.bT ah) (fun b hb'=>by have:=GQ b hb';omega) (fun x v W h=>by obtain ⟨y,rfl,_⟩:=hR x v W h;rfl) (fun x v=>OwnFrom.up (GR x v) (by omega))
  (Ej ev w.heap.size N w) (fun _ _ _=>False) (Ej.own hN (by omega)) (fun _ _ _ _ _ h=>h.elim) h0 ?round ?done ?stop
 case round=>
  rintro l pre x rest v W dp hl hW ⟨ys,rv,e1,gL,hrow,dM⟩ zh;obtain ⟨⟨⟨yk,ys',yg,yd⟩,yv⟩,rfl,Ek,fH⟩:=hR x v W zh;obtain ⟨ya,yc,hv⟩:=fH.slice;simp only at hv;subst hv;have Hye:=ae Ek;have HR:=ae hR;have HN:=ae (ag hN GQ);have tU:=ae (ag dp hlen);clear Ek fH hR zh gL hrow dM e1 hs GR h0 hN GQ dp hlen;gi_wp2;refine ⟨ar _ _,fun W2 hs2 hc2 Ay BG=> ?_⟩;have iV:=hc2 _ _ _ _ _ (ax W (.cells #[.string yk,.int .u64 ys',.bool yg,.slice ya yd.length yc] 60));obtain ⟨zs,rv,e1,gL,hrow,dM⟩:=Ay;obtain ⟨⟨e2,v2⟩,LD,aAc,aif⟩:=HR.out x _ W2 BG;have yi:e2=⟨yk,ys',yg,yd⟩:=aAc.trans Hye.out.symm;subst yi;have xp:v2= .slice ya yd.length yc:=by
   have h1:=congrArg (fun a:Array Value=>a[0]?) LD;simp only [bW] at h1;simpa using h1.symm
  subst xp;have hzl:zs.length≤1000000000:=by
   have h1:=congrArg List.length e1;rw [bF,bF] at h1;have h2:=congrArg List.length tU.out.1;rw [aJ] at h2;have:=tU.out.2;omega
  obtain ⟨g,cap,w4,hrun,hrow4,hg4⟩:=LC hrow aif HN.out.1 (aM dM.size (aw _)) hzl;obtain ⟨ra,rc,rfl⟩:∃ a c,rv= .slice a zs.length c:=by
   rcases hrow.1.2 with ⟨h1,h2⟩|⟨g',cap',cur,h1,_⟩
   ·exact ⟨none,0,by rw [h1,h2]⟩
   ·exact ⟨_,_,h1⟩
  have b0:W2.cell? ⟨w.heap.size,0,none⟩=some (.slice ra zs.length rc):=by simp [World.cell?,gL]
  have FA:=af gL;obtain ⟨q0,q1,q2,q3⟩:=cS iV;have lq2:=af iV;have pq:w4.heap[w.heap.size]?=some (.cells #[.slice ra zs.length rc] 57 (0,0)):=by
   rw [hg4.block _ FA (fun e=> ?_)]
   ·exact gL
   ·obtain ⟨_,cur,h1⟩:=sw hrow e.symm
    rw [gL] at h1;exact absurd (cE (bk h1)).2.1 (by decide)
  have c4:w4.cell? ⟨w.heap.size,0,none⟩=some (.slice ra zs.length rc):=by simp [World.cell?,pq]
  have f4:w4.frozen? ⟨w.heap.size,0,none⟩=false:=by simp [World.frozen?,pq]
  have l4:=af pq;have Hb:=ae (ag e1 (ag dM (ag hrow (ag hrow4 (ag hg4 pq)))));clear e1 dM hrow hrow4 hg4 pq gL iV hc2 hs2 LD aif BG HR;have cW:=ae hrun;clear hrun
  gi_wp2_with (gi_at_builtin;refine aid rfl _ _ _ rfl rfl rfl cW.out ?_)
  have hb:=Hb.out;have hs2:=hb.2.2.2.2.1;have Xs:(w4.setCell ⟨w.heap.size,0,none⟩ (.slice (some ⟨g,0,none⟩) (zs.length+1) cap)).heap[w.heap.size]?=some (.cells #[.slice (some ⟨g,0,none⟩) (zs.length+1) cap] 57 (0,0)):=Go.Gl.aK hb.2.2.2.2.2 0 _;have yz:∀ b,b≠w.heap.size→b<W2.heap.size→(Value.slice ra zs.length rc).ownBlock≠some b→(w4.setCell ⟨w.heap.size,0,none⟩ (.slice (some ⟨g,0,none⟩) (zs.length+1) cap)).heap[b]?=W2.heap[b]?:=fun b h1 h2 h3=>by
   rw [aP _ _ _ _ h1,hs2.block b h2 (fun e=>h3 e.symm)]
  have hown:∀ b,(Value.slice ra zs.length rc).ownBlock=some b→w.heap.size≤b∧∃ cur,W2.heap[b]?=some (.cells cur 60 (0,0)):=fun b e=>sw hb.2.2.1 e
  have LF:W2.heap.size≤(w4.setCell ⟨w.heap.size,0,none⟩ (.slice (some ⟨g,0,none⟩) (zs.length+1) cap)).heap.size:=by simpa using hs2.size
  refine ⟨⟨LF,fun k o hk ho hc=> ?_⟩,⟨LF,fun b GS hlt=> ?_⟩,?_⟩
  ·rw [yz k (by omega) (af ho) (fun e=> ?_)]
   ·exact ho
   ·obtain ⟨_,cur,h1⟩:=hown k e
    rw [ho] at h1;cases h1;cases hc
  ·have h1:=HN.out.2 b GS
   exact yz b (by omega) hlt (fun e=>by have:=(hown b e).1;omega)
  ·refine ⟨zs++ [⟨⟨yk,ys',yg,yd⟩,.slice ya yd.length yc⟩],.slice (some ⟨g,0,none⟩) (zs.length+1) cap,?_,Xs,?_,?_⟩
   ·rw [dD,dD,hb.1]
    simp [Hye.out]
   ·refine hb.2.2.2.1.keep (by simp) (fun b GS=> ?_) (fun b cur t f hB ht hcb=> ?_)
    ·have h1:=HN.out.1 b GS
     exact aP _ _ _ _ (fun e=>by have e':b=w.heap.size:=e;omega)
    ·rw [aP _ _ _ _ (fun e=> ?_)]
     ·exact hcb
     ·have e':b=w.heap.size:=e
      rw [e',hb.2.2.2.2.2] at hcb;have h9:=(cE (bk hcb)).2.1;rcases ht with rfl|rfl
      ·exact absurd h9 (by decide)
      ·exact absurd h9 (by decide)
   ·refine (hb.2.1.grown hs2 hb.2.1.size (fun k e=>(hown k e).1)).setCell (p:=⟨w.heap.size,0,none⟩) (aw _) _
 case done=>
  rintro D W hD ⟨ys,rv,e1,gL,hrow,dM⟩ hK;have b0:W.cell? ⟨w.heap.size,0,none⟩=some rv:=by simp [World.cell?,gL]
  have lb0:=af gL;have hgd:=grownBy_putObj' W D (.deferred none);have bm:∀ r,some D=some r→w.heap.size≤r∧∃ o:Obj,W.heap[r]?=some o∧o.isCells=false:=fun r e=>by cases e;exact ⟨by omega,_,hK,rfl⟩
  have hI:Ej ev w.heap.size N w xs W:=⟨ys,rv,e1,gL,hrow,dM⟩
  obtain ⟨ys',rv',FJ,El,hrow',aii⟩:=Ej.own (B:=w.heap.size) hN (aw _) xs W _ (some D) hI hgd bm;have hrr:rv'=rv:=by
   have h1:=rk hgd bm gL;rw [h1] at El;have h2:=(cE (bk El)).1;simpa using h2.symm
  subst hrr;have bw:=ae (ag FJ (ag hrow' aii));obtain ⟨ra,rc,rfl⟩:∃ a c,rv'= .slice a ys.length c:=by
   rcases hrow.1.2 with ⟨h1,h2⟩|⟨g',cap',cur,h1,_⟩
   ·exact ⟨none,0,by rw [h1,h2]⟩
   ·exact ⟨_,_,h1⟩
  clear e1 gL hrow dM FJ El hrow' aii hI hgd bm hs hR GR h0;go_wp2;refine ⟨by simp,.inl ⟨_,_,rfl,run_takeDeferred hK,?_⟩⟩;exact ⟨_,results_tmp rfl _ _ _,.slice ra ys.length rc,ys',rfl,bw.out.1,bw.out.2.1,bw.out.2.2⟩
 case stop=>
  rintro D c pre x rest W hD dp h _;exact h.elim
theorem aij {α:Type} {gf:Nat} {lb:Array Value} {R:α→Array Value→World→Prop} {N':Nat→Prop} {xs:List α} {w:World} (ev:α→En) (eg:∀ args w,(callFunc gf args).run Tryz.prog w= .ok (.enter gf args) w)
  (hs:BF Tryz.prog gf lb R N' xs w) (GQ:∀ b,N' b→b<w.heap.size) (hN:∀ b,N b→b<w.heap.size) (hR:∀ x v W,R x v W→∃ y,v=#[.agg (bW y)]∧y.e=ev x∧mQ N w.heap.size W y)
  (GR:∀ x v,OwnFrom w.heap.size (fun (_:Unit) W=>R x v W)) (hlen:xs.length≤1000000000):
  Calls Tryz.prog 58 #[.func (.func gf) #[] lb] w fun e w'=>∃ v ys,e= .returned v∧ys.map Ev.e=xs.map ev∧cO w.heap.size N w' v ys∧Grow w w':=by
 have Ha:=ae (aAb ev eg hs GQ hN hR GR hlen);clear hs GQ hN hR GR hlen;go_enter Tryz.func58,Tryz.ntmps58
 go_wp2_with fail
 (with_reducible refine Ha.out.mono ?_);rintro e w' ⟨v,ys,rfl,h1,h2,h3⟩;have bw:=ae (ag h1 (ag h2 h3));obtain ⟨ra,rc,rfl⟩:∃ a c,v= .slice a ys.length c:=by
  rcases h2.1.2 with ⟨h1,h2⟩|⟨g',cap',cur,h1,_⟩
  ·exact ⟨none,0,by rw [h1,h2]⟩
  ·exact ⟨_,_,h1⟩
 clear h1 h2 h3 Ha;go_wp2;go_ret;exact ⟨_,ys,rfl,bw.out⟩
end
section
attribute [local go_sem] Oper.semAt_some
def Ra (B:Nat) (x:En) (v:Array Value) (W:World):Prop:=∃ sv,v=#[.agg (bW ⟨x,sv⟩)]∧aI B W sv x.val
theorem Xt {ys:List Ev} (h:Es N w v ys) (hlen:ys.length≤1000000000) (hval:∀ y∈ys,y.e.val.length≤1000000000000) {Bl:Nat} (hl:w.heap[Bl]?=some (.cells #[v] 57 (0,0))) (Ei:N Bl):
  BF Tryz.prog 180 #[.pointer (some ⟨Bl,0,none⟩)] (Ra w.heap.size) N (ys.map Ev.e) w∧BF Tryz.prog 155 #[.pointer (some ⟨Bl,0,none⟩)] (Ra w.heap.size) N (ys.map Ev.e) w:=by
 constructor
 all_goals
  intro l J Jx W hW hJ hJx hY h0;obtain ⟨va,vc,rfl⟩:=h.slice;have Eh:W.heap[Bl]?=some (.cells #[.slice va ys.length vc] 57 (0,0)):=(hW.same Bl Ei (af hl)).trans hl;have c0:W.cell? ⟨Bl,0,none⟩=some (.slice va ys.length vc):=by simp [World.cell?,Eh]
  have lBl:=af Eh;have H:=ae h;have HW:=ae hW;have HY:=ae hY;have H0:=ae h0;have HJ:=ae hJ;have Hv:=ae hval;clear h hl Eh hW hY h0 hJ hval
  first|refine callsIn_of_wp Tryz.func180 rfl trivial ?_ rfl|refine callsIn_of_wp Tryz.func155 rfl trivial ?_ rfl
  simp only [Tryz.ntmps180,Tryz.ntmps155,List.size_toArray,dH,iK,Nat.reduceAdd,Nat.reduceSub,Array.replicate_succ,Array.replicate_zero,List.push_toArray,List.append_toArray,iq,gG];gi_wp2
  gi_loopw [7] (fun iv wr=>∃ i:Nat,iv= .int .i64 (i:Int)∧i≤ys.length∧Kp N w wr∧w.heap.size≤wr.heap.size∧J ((ys.take i).map Ev.e) wr) (fun iv _=>ys.length-(intOf iv).toNat)
  case atStart=>exact ⟨0,rfl,aY _,HW.out,HW.out.size,H0.out⟩
  case round=>
   obtain ⟨i,rfl,hi,hk,hsz,hJs⟩:=hrel;by_cases hlt:i<ys.length
   ·obtain ⟨x,hx⟩:∃ x,ys[i]?=some x:=⟨_,dZ hlt⟩
    have hE:=H.out.kp hk;obtain ⟨b,o,c,hv,hNb,hb,bm⟩:=hE.addr hx;cases hv;obtain ⟨d0,d1,d2,d3⟩:=KU bm hx;have cN:=hE.get hx;obtain ⟨xa,xc,iH⟩:=cN.slice;rw [iH] at d3;have ia:=Hv.out x (dB hx);have ah:=ar wr (.cells #[.string x.e.key,.int .u64 x.e.seq,.bool x.e.gone,.slice xa x.e.val.length xc] 60);have gh:=ae (ag (agO (cN.grow ah) ia) (agP (cN.grow ah) ia));have pw:bW x=#[.string x.e.key,.int .u64 x.e.seq,.bool x.e.gone,.slice xa x.e.val.length xc]:=by rw [←iH]
    rw [pw] at gh;have dp:ys.map Ev.e=(ys.take i).map Ev.e++x.e::(ys.drop (i+1)).map Ev.e:=by
     have h1:ys=ys.take i++x::ys.drop (i+1):=by
      conv=>lhs;rw [←List.take_append_drop i ys]
      rw [mh hlt];congr 2;rw [dZ hlt] at hx;exact bk hx
     conv=>lhs;rw [h1]
     simp
    have eG:(ys.take (i+1)).map Ev.e=(ys.take i).map Ev.e++ [x.e]:=by
     rw [List.take_add_one,hx];simp
    have tU:=ae dp;have nV:=ae eG;have eB:(i:Int)<(ys.length:Int):=by omega
    have bO:(0:Int)≤(i:Int):=by omega
    have fE:IntKind.i64.wrap ((i:Int)+1)=((i+1:Nat):Int):=by rw [aS _ (by omega)];omega
    have Hwi:=ae fE;have hJa:=Xo HJ.out hJs ah;have HJa:=ae hJa;have cQ:=ae ah;have Hk:=ae (ag hk hsz);clear hE bm cN iH pw dp eG hJa hJs ah hx fE hk
    gi_wp2_with (refine ⟨trivial,?_⟩;(first|(gi_at_call 181;refine (callsIn_wide.2 gh.out.1).mono ?_)|(gi_at_call 156;refine (callsIn_wide.2 gh.out.2).mono ?_));rintro e w3 ⟨v',rfl,ho,hg3⟩;obtain ⟨fn,tmps,assign,body,hy,hR⟩:=HY.out ((ys.take i).map Ev.e) x.e ((ys.drop (i+1)).map Ev.e) #[.agg (bW ⟨x.e,v'⟩)] w3 tU.out (Xo HJ.out HJa.out hg3) ⟨v',rfl,ho.mono (by simp;omega)⟩;dsimp only [bW] at hy)
    refine (ahW 2 hR).mono ?_;have hk3:Kp N w w3:=(Hk.out.1.trans (.bT cQ.out)).trans (.bT hg3);rintro e W4 (⟨rfl,hJ4,hk4⟩|⟨rfl,aAi⟩)
    ·have GU:=hk3.trans hk4
     have fE:=Hwi.out;clear hy hR ho hg3 hk3 gh;gi_wp2;go_roundw
     case rel=>exact ⟨i+1,rfl,hlt,GU,GU.size,by rw [nV.out];exact hJ4⟩
     case measure=>simp [intOf];omega
    ·gi_wp2
     refine bodyPost_ret (results_none rfl _ _ _) rfl ?_;exact ⟨⟨_,rfl⟩,.inr ⟨(ys.take i).map Ev.e,x.e,(ys.drop (i+1)).map Ev.e,tU.out,aAi⟩⟩
   ·obtain rfl:i=ys.length:=by omega
    have hJe:J (ys.map Ev.e) wr:=by rw [ij] at hJs;exact hJs
    clear hJs;gi_wp2;go_end0;exact ⟨⟨_,rfl⟩,.inl hJe⟩
end
theorem ail (w:World) (tb:Nat) (k:ByteArray) (s:Int) (g:Bool) (a:Option Addr) (n c:Nat):
  Calls Tryz.prog 179 #[au tb,.agg #[.string k,.int .u64 s,.bool g,.slice a n c]] w fun e w'=>e= .returned (.func (.func 216) #[] #[.pointer (some ⟨w.heap.size,0,none⟩),.pointer (some ⟨w.heap.size+1,0,none⟩)])∧
   w'=(w.alloc (.cells #[au tb] 286)).alloc (.cells #[.string k,.int .u64 s,.bool g,.slice a n c] 60):=by
 go_enter Tryz.func179,Tryz.ntmps179;go_wp2;go_ret;exact ⟨rfl,rfl⟩
theorem cO.mono {ys:List Ev} (h:cO B N W v ys) (hB:B'≤B):cO B' N W v ys:=
 ⟨qK h.1 hB,fun y hy=>⟨(h.2 y hy).1,(h.2 y hy).2.imp id (fun h2 b hb=>(h2 b hb).imp id (fun h3=>⟨aM hB h3.1,h3.2⟩))⟩⟩
theorem cO.grow {ys:List Ev} (h:cO B N W v ys) (hg:Grow W W') (hN:∀ b,N b→b<W.heap.size):cO B N W' v ys:=
 h.keep hg.size (fun b hb=>hg.block b (hN b hb)) (fun _ _ _ _ _ _ hc=>hg.heap hc)
theorem cO.slice {ys:List Ev} (h:cO B N W v ys):∃ a c,v= .slice a ys.length c:=by
 rcases h.1.2 with ⟨h1,h2⟩|⟨g',cap',cur,h1,_⟩
 ·exact ⟨none,0,by rw [h1,h2]⟩
 ·exact ⟨_,_,h1⟩
abbrev xr (key:ByteArray) (up:Nat):Ev:=⟨⟨key,up,false,[]⟩,.slice none 0 0⟩
theorem aAk {y:Ev} (h:kJ N W y):mQ N B W y:=⟨h.1,h.2.imp id (fun h2 b hb=> .inl (h2 b hb))⟩
theorem aim (hN:∀ b,N b→b<B) (y:Ev) (v:Array Value):OwnFrom B (fun (_:Unit) W=>Rt N y v W):=fun _ W W' row h hg hr=>
 ⟨h.1,h.2.kp ⟨hg.size,fun b hb hl=>hg.block b hl (fun e=>by have:=(hr b e.symm).1;have:=hN b hb;omega)⟩⟩
def LG (N:Nat→Prop) (w:World) (l:List En) (e:Ending) (w':World) (gf:Nat):Prop:=
 ∃ (Bl:Nat) (ys:List Ev) (v:Value),e= .returned (.func (.func gf) #[] #[.pointer (some ⟨Bl,0,none⟩)])∧w.heap.size≤Bl∧w'.heap[Bl]?=some (.cells #[v] 57 (0,0))∧ys.map Ev.e=l∧cO w.heap.size N w' v ys∧Grow w w'
theorem ain {N:Nat→Prop} {w:World} {ns:List Nd} (h:dQ N w tb ha ns aU dv ds) (hN:∀ b,N b→b<w.heap.size) (hlen:ns.length≤1000000000) (key:ByteArray):
  Calls Tryz.prog 124 #[au tb,.string key] w fun e w'=>LG N w (ej ⟨key,18446744073709551615,false,[]⟩ (ns.map (fun n=>n.x.e))) e w' 180:=by
 have ah:=ar w (.cells #[au tb] 286);have hgb:=ar (w.alloc (.cells #[au tb] 286)) (.cells (bW (xr key 18446744073709551615)) 60);have hb1:=hgb.heap (ax w (.cells #[au tb] 286));have hb2:=ax (w.alloc (.cells #[au tb] 286)) (.cells (bW (xr key 18446744073709551615)) 60);rw [World.size_alloc] at hb2;have hg2:=ah.trans hgb;have hM:=h.grow hg2;have eW:=h.self;have ltb:=af eW;have oz:=ae (ail w tb key 18446744073709551615 false none 0 0);have sz2:((w.alloc (.cells #[au tb] 286)).alloc (.cells (bW (xr key 18446744073709551615)) 60)).heap.size=w.heap.size+2:=by simp
 generalize hw2:(w.alloc (.cells #[au tb] 286)).alloc (.cells (bW (xr key 18446744073709551615)) 60)=w2 at*;have hseq:=ahX hM (xr key 18446744073709551615) (xa:=none) (xl:=0) (xc:=0) rfl hb1 hb2;have LH:=aij (N:=N) (fun y:Ev=>y.e) (enters_of Tryz.func216 (by kernel_rfl) rfl) hseq (fun b hb=>by
   rcases hb with hb|hb|rfl|rfl
   ·have:=hN b hb;omega
   ·have:=h.lt hb;omega
   ·omega
   ·omega) (fun b hb=>by have:=hN b hb;omega) (fun x v W hR=>⟨x,hR.1,rfl,aAk hR.2⟩) (fun x v=>aim (fun b hb=>by have:=hN b hb;omega) x v) (by rw [bF];have:=congrArg List.length (jO (xr key 18446744073709551615).e ns);rw [aJ] at this;omega)
 have QD:=ae LH;have fA:=ae hg2;have rj:=ae sz2;have HN:=ae hN;clear hM eW hb1 hb2 ah hgb hseq LH hg2 sz2 h hN hw2;go_enter Tryz.func124,Tryz.ntmps124
 go_wp2_with fail
 (with_reducible refine oz.out.mono ?_);rintro e w' ⟨rfl,rfl⟩
 go_wp2_with fail
 (with_reducible refine QD.out.mono ?_);rintro e w3 ⟨v,ys,rfl,bQ,hrow,hg3⟩;obtain ⟨va,vc,rfl⟩:=hrow.slice;have ah:=ar w3 (.cells #[.slice va ys.length vc] 57);have hb:=ax w3 (.cells #[.slice va ys.length vc] 57);have fB:LG N w (ej ⟨key,18446744073709551615,false,[]⟩ (ns.map (fun n=>n.x.e))) (.returned (.func (.func 180) #[] #[.pointer (some ⟨w3.heap.size,0,none⟩)])) (w3.alloc (.cells #[.slice va ys.length vc] 57)) 180:=by
  have s1:=rj.out;have s2:=hg3.size;refine ⟨w3.heap.size,ys,.slice va ys.length vc,rfl,by omega,hb,?_,(hrow.mono (by omega)).grow ah (fun b hb=>by have:=HN.out b hb;omega),(fA.out.trans hg3).trans ah⟩;rw [bQ,←DL];simp
 have cJ:=ae fB;clear ah hb fB bQ hrow hg3;go_wp2;go_ret;exact cJ.out
theorem aAm (x y:Ev) {xa ya:Option Addr} {xl xc yl yc:Nat} (hx:x.v= .slice xa xl xc) (hy:y.v= .slice ya yl yc) (W:World):
  Calls Tryz.prog 132 #[.agg (bW x),.agg (bW y)] W fun e w'=>e= .returned (.bool (decide (dU x.e y.e<0)))∧Grow W w':=by
 obtain ⟨⟨xk,xs,xg,xd⟩,xv⟩:=x;obtain ⟨⟨yk,ys,yg,yd⟩,yv⟩:=y;simp only at hx hy;subst hx hy;have b0:((W.alloc (.cells #[.string xk,.int .u64 xs,.bool xg,.slice xa xl xc] 60)).alloc (.cells #[.string yk,.int .u64 ys,.bool yg,.slice ya yl yc] 60)).heap[W.heap.size]?=some (.cells #[.string xk,.int .u64 xs,.bool xg,.slice xa xl xc] 60 (0,0)):=(heap_alloc_old _ _ (by simp)).trans (ax _ _);have b1:((W.alloc (.cells #[.string xk,.int .u64 xs,.bool xg,.slice xa xl xc] 60)).alloc (.cells #[.string yk,.int .u64 ys,.bool yg,.slice ya yl yc] 60)).heap[W.heap.size+1]?=some (.cells #[.string yk,.int .u64 ys,.bool yg,.slice ya yl yc] 60 (0,0)):=by
  have:=ax (W.alloc (.cells #[.string xk,.int .u64 xs,.bool xg,.slice xa xl xc] 60)) (.cells #[.string yk,.int .u64 ys,.bool yg,.slice ya yl yc] 60);simpa using this
 obtain ⟨d0,d1,d2,d3⟩:=cS b0;obtain ⟨e0,e1,e2,e3⟩:=cS b1;have l0:=af b0;have l1:=af b1;have fB:Grow W ((W.alloc (.cells #[.string xk,.int .u64 xs,.bool xg,.slice xa xl xc] 60)).alloc (.cells #[.string yk,.int .u64 ys,.bool yg,.slice ya yl yc] 60)):=(ar _ _).trans (ar _ _);have Hc:=ae (agI xk xs xg (.slice xa xl xc) yk ys yg (.slice ya yl yc));have cJ:=ae fB;clear b0 b1 fB;show Calls Tryz.prog 132 #[.agg (bW ⟨⟨xk,xs,xg,xd⟩,.slice xa xl xc⟩),.agg (bW ⟨⟨yk,ys,yg,yd⟩,.slice ya yl yc⟩)] W fun e w'=>e= .returned (.bool (decide (df (ke xk yk) (jk ys xs)<0)))∧Grow W w'
 generalize df (ke xk yk) (jk ys xs)=c at*;go_enter Tryz.func132,Tryz.ntmps132
 go_wp2_with fail
 generalize (W.alloc (.cells #[.string xk,.int .u64 xs,.bool xg,.slice xa xl xc] 60)).alloc (.cells #[.string yk,.int .u64 ys,.bool yg,.slice ya yl yc] 60)=w0 at*;(with_reducible refine (Hc.out _).mono ?_);rintro e w1 ⟨rfl,hg⟩;have Hg:=ae hg;clear hg;go_wp2;go_ret;exact ⟨rfl,cJ.out.trans Hg.out⟩
theorem aAn {w:World} {ys:List Ev} (h:Es N w v ys) (hlen:ys.length≤1000000000) (ho:cn (ys.map Ev.e)):
  Calls Tryz.prog 131 #[v,.func (.func 132) #[] #[]] w fun e w'=>e= .returned (.bool true)∧Grow w w':=by
 have H:=ae h;obtain ⟨va,vc,rfl⟩:=h.slice;have Ho:=ae ho;clear h ho;go_enter Tryz.func131,Tryz.ntmps131
 go_wp2_with fail
 go_loopw [5] (fun iv wr=>∃ i:Nat,iv= .int .i64 (i:Int)∧1≤i∧Grow w wr) (fun iv _=>ys.length-(intOf iv).toNat)
 case atStart=>exact ⟨1,rfl,aw _,aV _⟩
 case round=>
  obtain ⟨i,rfl,hi,hg⟩:=hrel;by_cases hlt:i<ys.length
  ·obtain ⟨k,hk⟩:∃ k,i=k+1:=⟨i-1,by omega⟩
   obtain ⟨x,b,o,c,xa,xc,hx,hv,hb,cN,mP,c0,c1,c2,c3⟩:=H.out.read hg (show k<ys.length by omega);obtain ⟨y,b',o',c',ya,yc,hy,hv',hb',fH,rh,e0,e1,e2,e3⟩:=H.out.read hg hlt;cases hv;cases hv';have Bn:decide (dU x.e y.e<0)=true:=by
    rw [decide_eq_true_eq,yS];have h:=List.pairwise_iff_getElem.1 Ho.out k i (by simp;omega) (by simpa using hlt) (by omega);rw [List.getElem_map,List.getElem_map] at h;rw [dZ (by omega)] at hx hy;rw [bk hx,bk hy] at h;exact h
   have fS:=fun W=>aAm x y cN fH W
   rw [Bn] at fS;have ex:bW x=#[.string x.e.key,.int .u64 x.e.seq,.bool x.e.gone,.slice xa x.e.val.length xc]:=by rw [←cN]
   have ey:bW y=#[.string y.e.key,.int .u64 y.e.seq,.bool y.e.gone,.slice ya y.e.val.length yc]:=by rw [←fH]
   rw [ex,ey] at fS;have kh:=ae fS;have mY:(i:Int)<(ys.length:Int):=by omega
   have Lh:IntKind.i64.wrap ((i:Int)-1)=(k:Int):=by rw [aS _ (by omega)];omega
   have aKg:IntKind.i64.wrap ((i:Int)+1)=((i+1:Nat):Int):=by rw [aS _ (by omega)];omega
   have kP:(0:Int)≤(k:Int):=by omega
   have hk2:(k:Int)<(ys.length:Int):=by omega
   have hk3:(0:Int)≤(i:Int):=by omega
   have Hg:=ae hg;have aQ:=Grow.cells (w:=wr);clear fS Bn hx hy cN fH mP rh hg ex ey hk
   go_upto_region 4 with fail
   refine dz (fun V=>Below wr.heap.size wr V) [10] (by kernel_rfl) (bK fun _ _ _ _ _ h=>h) (by ((repeat (first|exact bS _ _|assumption|refine cz ?_|refine cA ?_|refine cj ?_ ?_ _|refine cy ?_ ?_ _))<;>try (first|omega|(simp<;>omega)))) ?_;simp only [cF]
   repeat ((first|(refine aA (v:= ?_) (by rfl) ?_ ?_;rotate_left;rintro W hW;go_simp;with_reducible rfl)|refine aB (by rfl) ?_);simp only [ai,List.set])
   clear c0 c1 c2 c3 e0 e1 e2 e3;refine bp (by rfl) (by go_simp) (kh.out _) ?_;rintro e w2 ⟨rfl,hg2⟩;have hg3:=(az wr).trans hg2;refine ⟨_,rfl,hg3,?_⟩
   try simp only [ai,List.set,aC]
   have iQ:=ae (Hg.out.trans hg3);clear hg2 hg3
   repeat ((first|(refine aA (v:= ?_) (by rfl) ?_ ?_;rotate_left;rintro W hW;go_simp;with_reducible rfl)|refine aB (by rfl) ?_);simp only [ai,List.set])
   refine bj ?_;go_wp2;go_roundw
   case rel=>exact ⟨i+1,rfl,by omega,iQ.out⟩
   case measure=>simp [intOf];omega
  ·have TR:decide ((i:Int)<(ys.length:Int))=false:=by simp;omega
   go_wp2;go_ret;exact ⟨rfl,hg⟩
theorem Xu {ys:List Ev} (h:Es N w v ys) (hlen:ys.length≤1000000000) (ho:cn (ys.map Ev.e)) (jh:yZ (ys.map Ev.e)):
  Calls Tryz.prog 86 #[v] w fun e w'=>e= .returned (.bool true)∧Grow w w':=by
 have H:=ae h;obtain ⟨va,vc,rfl⟩:=h.slice;have Hp:=ae (fun (W:World) (hg:Grow w W)=>aAn (h.grow hg) hlen ho);have Hgn:=ae jh;clear h ho jh;go_enter Tryz.func86,Tryz.ntmps86
 go_wp2_with fail
 go_loopw [7] (fun iv wr=>∃ i:Nat,iv= .int .i64 (i:Int)∧i≤ys.length∧Grow w wr) (fun iv _=>ys.length-(intOf iv).toNat)
 case atStart=>exact ⟨0,rfl,aY _,aV _⟩
 case round=>
  obtain ⟨i,rfl,hi,hg⟩:=hrel;by_cases hlt:i<ys.length
  ·obtain ⟨x,b,o,c,xa,xc,hx,hv,hb,cN,mP,c0,c1,c2,c3⟩:=H.out.read hg hlt
   cases hv;have eB:(i:Int)<(ys.length:Int):=by omega
   have bO:(0:Int)≤(i:Int):=by omega
   have fE:IntKind.i64.wrap ((i:Int)+1)=((i+1:Nat):Int):=by rw [aS _ (by omega)];omega
   have Hg:=ae (hg.trans (ar wr (.cells #[.string x.e.key,.int .u64 x.e.seq,.bool x.e.gone,.slice xa x.e.val.length xc] 60)));have hgo:=Hgn.out x.e (aZ.2 ⟨x,dB hx,rfl⟩);clear hx cN mP hg;obtain ⟨⟨xk,xs,xg,xd⟩,xv⟩:=x;simp only at*;cases xg with
   |true=>
    have hxd:xd= []:=hgo rfl;subst hxd;clear hgo;go_wp2;go_roundw
    case rel=>exact ⟨i+1,rfl,hlt,Hg.out⟩
    case measure=>simp [intOf];omega
   |false=>
    clear hgo;go_wp2;go_roundw
    case rel=>exact ⟨i+1,rfl,hlt,Hg.out⟩
    case measure=>simp [intOf];omega
  ·obtain rfl:i=ys.length:=by omega
   have Hp':=ae (Hp.out wr hg);have Hg:=ae hg;clear hg
   go_wp2_with fail
   (with_reducible refine Hp'.out.mono ?_);rintro e w1 ⟨rfl,hg1⟩;have eC:=ae hg1;clear hg1;go_wp2;go_ret;exact ⟨rfl,Hg.out.trans eC.out⟩
theorem aI.Em (h:aI B w v l) {o:Option Nat} (hg:w.grownBy w' o) (ho:∀ g,o=some g→∃ t cur,w.heap[g]?=some (.cells cur t (0,0))∧t≠5):aI B w' v l:=
 h.keep (fun b hb=>hg.block b (h.lt hb).2 (fun he=>by
  obtain ⟨t,cur,h1,h2⟩:=ho b he.symm;obtain ⟨cur',h3⟩:=h.block hb;rw [h3] at h1;cases h1;exact h2 rfl))
theorem ig.keep {xs:List Bk} (h:ig B w v xs) (hk:∀ g,v.ownBlock=some g→w'.heap[g]?=w.heap[g]?):ig B w' v xs:=by
 refine ⟨h.1,?_⟩;rcases h.2 with h1|⟨g,cap,cur,h1,h2,h3,h4⟩
 ·exact .inl h1
 ·exact .inr ⟨g,cap,cur,h1,h2,by rw [hk g (by rw [h1];rfl)];exact h3,h4⟩
theorem ig.aAq {xs:List Bk} (h:ig B w v xs) (hu:aI B' w u l) (hg:w.grownBy w' u.ownBlock):ig B w' v xs:=
 h.keep fun g hb=>by
  obtain ⟨_,h2,cur,h3⟩:=h.lt hb;refine hg.block g h2 (fun he=> ?_);obtain ⟨cur',h4⟩:=hu.block he.symm;rw [h3] at h4;exact absurd (cE (bk h4)).2.1 (by decide)
theorem Xv (g:List En):(gy g).length≤(bh g).length+14:=by
 have h1:=my aq (bh g);have h2:=cB (bh g).length;unfold gy;omega
theorem aip (gs:List (List En)):(gs.map fun g=>(bh g).length).sum=(bh gs.flatten).length:=by
 induction gs with
 |nil=>rfl
 |cons g gs ih=>rw [cg,List.sum_cons,List.flatten_cons,sf,aJ,ih]
theorem GV (gs:List (List En)):(bV gs).length≤(bh gs.flatten).length+14*gs.length:=by
 induction gs with
 |nil=>simp [bV]
 |cons g gs ih=>
  have h:=Xv g;rw [List.flatten_cons,sf,aJ];simp only [bV,List.flatMap_cons,aJ,dH] at*;omega
theorem Xw {g:List En} (hg:g≠ []):(lu g).size≤(bh g).length:=by
 cases g with
 |nil=>exact absurd rfl hg
 |cons e r=>
  have:bh (e::r)=oZ e++bh r:=by simp [bh]
  rw [this];simp only [lu,oZ,aW,aJ,gO];show e.key.data.size≤_;omega
theorem QE:∀ (gs:List (List En)) (k:Nat),(∀ g∈gs,g≠ [])→((lW k gs).flatMap od).length≤(bh gs.flatten).length+30*gs.length
 | [],_,_=>by simp [lW]
 |g::gs,k,h=>by
  have h1:=QE gs (k+(gy g).length) (fun x hx=>h x (fk _ hx));have h2:=ayF ⟨lu g,k,(gy g).length⟩;have h3:=Xw (h g (dR ..));rw [List.flatten_cons,sf,aJ];simp only [lW,List.flatMap_cons,aJ,dH] at*;omega
theorem Xx:∀ (gs:List (List En)) (k:Nat),(∀ g∈gs,g≠ []∧(bh g).length≤60000000)→k+(bV gs).length<1000000000000→∀ x∈lW k gs,agZ x
 | [],_,_,_,x,hx=>by cases hx
 |g::gs,k,h,hk,x,hx=>by
  have hb:(bV (g::gs)).length=(gy g).length+(bV gs).length:=by simp [bV]
  rw [hb] at hk;rcases bE.1 hx with rfl|hx
  ·have h3:=Xw (h g (dR ..)).1
   have h4:=(h g (dR ..)).2;exact ⟨aM h3 (by omega),by show k<_;omega,by show (gy g).length<_;omega⟩
  ·exact Xx gs _ (fun y hy=>h y (fk _ hy)) (by omega) x hx
theorem LI (size:Nat):∀ (l cur:List En),(eN size cur l).length≤l.length
 | [],_=>by simp [eN]
 |e::r,cur=>by
  unfold eN;split
  ·have:=LI size r [];simp;omega
  ·have:=LI size r (cur++ [e]);simp;omega
theorem aAr {g:List En} (h:g≠ []) (r:List En):lu (g++r)=lu g:=by
 cases g with
 |nil=>exact absurd rfl h
 |cons e g=>rfl
theorem aAs {l:List En}:(bh l).length=0↔l= []:=⟨fun h=>axP (iI h),fun h=>by rw [h];rfl⟩
structure Eo (w:World) (size:Nat) (l:List En) (gs:List (List En)) (cur:List En) (i:Nat) (ov pv kv fv:Value) (wr:World):Prop where
 le:i≤l.length
 cut:gs.flatten++cur=l.take i
 ne:∀ g∈gs,g≠ []
 Xy:eN size [] l=gs++eN size cur (l.drop i)
 nl:gs.length≤i
 last:i=l.length→cur= []
 out:aI w.heap.size wr ov (bV gs)
 pay:aI w.heap.size wr pv (bh cur)
 QF:ig w.heap.size wr kv (lW 0 gs)
 first:cur≠ []→fv= .string (lu cur)
 txt:∃ s,fv= .string s
 grow:Grow w wr
def QG (w:World) (size:Nat) (l:List En) (ov pv kv fv iv:Value) (wr:World):Prop:=∃ (gs:List (List En)) (cur:List En) (i:Nat),iv= .int .i64 (i:Int)∧Eo w size l gs cur i ov pv kv fv wr
theorem Eo.more {size:Nat} {l:List En} {gs:List (List En)} {cur:List En} {ov kv:Value} (h:Eo w size l gs cur i ov pv kv fv wr) {e:En} (he:l[i]?=some e)
  (hs:¬ size≤(bh (cur++ [e])).length) (hl:i+1≠l.length) (hg:Grow wr wr') {pv':Value} (hp:aI w.heap.size wr' pv' (bh (cur++ [e]))):Eo w size l gs (cur++ [e]) (i+1) ov pv' kv (.string (lu (cur++ [e]))) wr':=by
 obtain ⟨hi,uy⟩:=dG.1 he;refine ⟨hi,?_,h.ne,?_,Nat.le_succ_of_le h.nl,fun hh=>absurd hh hl,h.out.grow hg,hp,h.QF.grow hg,fun _=>rfl,⟨_,rfl⟩,h.grow.trans hg⟩
 ·rw [List.take_succ_eq_append_getElem hi,←h.cut,ju,uy]
 ·rw [h.Xy,mh hi,uy,eN,if_neg (fun hh=> ?_)]
  rcases hh with hh|hh
  ·exact hs hh
  ·have:=congrArg List.length hh
   rw [List.length_drop,iK] at this;omega
theorem Eo.lay {size:Nat} {l:List En} {gs:List (List En)} {cur:List En} {ov kv:Value} (h:Eo w size l gs cur i ov pv kv fv wr) {e:En} (he:l[i]?=some e)
  (hs:size≤(bh (cur++ [e])).length∨i+1=l.length) {sA kv':Value} (ho:aI w.heap.size wr' sA (bV (gs++ [cur++ [e]]))) (hk:ig w.heap.size wr' kv' (lW 0 (gs++ [cur++ [e]]))) (hg:Grow w wr') (s:ByteArray):
  Eo w size l (gs++ [cur++ [e]]) [] (i+1) sA (.slice none 0 0) kv' (.string s) wr':=by
 obtain ⟨hi,uy⟩:=dG.1 he;refine ⟨hi,?_,?_,?_,?_,fun _=>rfl,ho,nO _ _ _,hk,fun hh=>absurd rfl hh,⟨_,rfl⟩,hg⟩
 ·rw [List.take_succ_eq_append_getElem hi,←h.cut,List.append_nil,List.flatten_append,uy];simp
 ·intro g eR
  rcases cU.1 eR with h1|h1
  ·exact h.ne g h1
  ·rw [cY.1 h1];simp
 ·rw [h.Xy,mh hi,uy,eN,if_pos ?_,ju]
  ·rfl
  ·rcases hs with hs|hs
   ·exact .inl hs
   ·right;apply iI;rw [List.length_drop];omega
 ·rw [aJ,List.length_singleton];have:=h.nl;omega
theorem Xz {x:Nat}:∀ {l:List Nat},x∈l→x≤l.sum
 | [],h=>by cases h
 |y::l,h=>by
  rw [List.sum_cons];rcases bE.1 h with rfl|h
  ·omega
  ·have:=Xz h;omega
theorem aAt (l:List En) (i:Nat):(bh (l.take i)).length≤(bh l).length:=by
 have h:=sf (l.take i) (l.drop i);rw [List.take_append_drop] at h;rw [h,aJ];omega
theorem XA (h:aI B w bv l) (hB:B≤w.heap.size) (hl:l.length≤1000000000000) (v0:Nat) (hv:v0<18446744073709551616):
 Calls Tryz.prog 160 #[bv,.int .u64 v0,.int .i64 8] w fun e w'=>∃ v,e= .returned v∧aI B w' v (l++cD 8 v0)∧Below B w w':=agv h hB hl v0 hv (n:=8) (by decide)
theorem aAu (h:aI B w bv l) (hB:B≤w.heap.size) (hl:l.length≤1000000000000) (v0:Nat) (hv:v0<18446744073709551616):
 Calls Tryz.prog 160 #[bv,.int .u64 v0,.int .i64 4] w fun e w'=>∃ v,e= .returned v∧aI B w' v (l++cD 4 v0)∧Below B w w':=agv h hB hl v0 hv (n:=4) (by decide)
theorem aAv {ys:List Ev} (h:Es N w v ys) (hlen:ys.length≤1000000) (ho:cn (ys.map Ev.e)) (jh:yZ (ys.map Ev.e)) {size:Nat} (hz1:1≤size) (hz2:size≤67108864)
  (BH:∀ y∈ys,y.e.key.size≤65535∧y.e.seq<18446744073709551616∧y.e.val.length≤33554432) (nd:(bh (ys.map Ev.e)).length+30*ys.length≤50000000):
  Calls Tryz.prog 109 #[v,.int .i64 size] w fun e w'=>∃ v',e= .returned (.tuple #[v',.int .i64 0])∧aI w.heap.size w' v' (gS (eN size [] (ys.map Ev.e)) ys.length (dV (ys.map Ev.e)))∧Grow w w':=by
 have H:=ae h;have HK:=ae BH;have Hr:=ae (Xu h (by omega) ho jh);obtain ⟨va,vc,rfl⟩:=h.slice;have hs1:decide ((size:Int)<1)=false:=by simp;omega
 have hs2:decide ((67108864:Int)<(size:Int))=false:=by simp;omega
 clear h BH ho jh;go_enter Tryz.func109,Tryz.ntmps109
 go_wp2_with fail
 (with_reducible refine Hr.out.mono ?_);rintro e w1 ⟨rfl,hg1⟩;have hE1:=H.out.grow hg1;have HE:=ae hE1;have eC:=ae hg1;have qh:=ae (show (ys.map Ev.e).length=ys.length from bF ..);have bJ:Hid (QG w1 size (ys.map Ev.e) (.slice none 0 0) (.slice none 0 0) (.slice none 0 0) (.string ⟨#[]⟩) (.int .i64 0) w1):=ae ⟨[],[],0,rfl,aY _,rfl,(fun _ h=>by cases h),by simp,aw _,fun _=>rfl,nO _ _ _,nO _ _ _,agW _ _,(fun h=>absurd rfl h),⟨_,rfl⟩,aV _⟩;clear hg1 hE1 hs1 hs2 Hr
 go_wp2_with fail
 go_loopw [6,7,8,9,29] (fun ov pv kv fv iv wr=>QG w1 size (ys.map Ev.e) ov pv kv fv iv wr) (fun _ _ _ _ iv _=>ys.length-(intOf iv).toNat)
 case atStart=>exact bJ.out
 case round=>
  obtain ⟨gs,cur,i,rfl,hI⟩:=hrel;have hi:=hI.le;rw [qh.out] at hi;obtain ⟨oa,oc,rfl⟩:=hI.out.slice;obtain ⟨pa,pc,rfl⟩:=hI.pay.slice;obtain ⟨ka,kc,rfl⟩:=hI.QF.slice;obtain ⟨fs,rfl⟩:=hI.txt;rw [sj];by_cases hlt:i<ys.length
  ·obtain ⟨x,b,o,c,xa,xc,hx,hv,hb,cN,mP,c0,c1,c2,c3⟩:=HE.out.read hI.grow hlt
   cases hv;obtain ⟨kx1,kx2,kx3⟩:=HK.out x (dB hx);have eB:(i:Int)<(ys.length:Int):=by omega
   have bO:(0:Int)≤(i:Int):=by omega
   have fE:IntKind.i64.wrap ((i:Int)+1)=((i+1:Nat):Int):=by rw [aS _ (by omega)];omega
   have rV:IntKind.i64.wrap ((ys.length:Int)-1)=((ys.length-1:Nat):Int):=by rw [aS _ (by omega)];omega
   have iH:(ys.map Ev.e)[i]?=some x.e:=by rw [gZ,hx];rfl
   have nT:(bh (cur++ [x.e])).length≤(bh (ys.map Ev.e)).length:=by
    have e1:bh (ys.map Ev.e)=bh ((ys.map Ev.e).take (i+1))++bh ((ys.map Ev.e).drop (i+1)):=by rw [←sf,List.take_append_drop]
    have e2:(ys.map Ev.e).take (i+1)=gs.flatten++(cur++ [x.e]):=by
     rw [List.take_add_one,iH,←hI.cut];simp
    have e3:=congrArg List.length e1;rw [e2,sf gs.flatten,aJ,aJ] at e3;omega
   have hbl:(bV gs).length≤70000000:=by
    have e1:=GV gs;have e2:(bh gs.flatten).length≤(bh (ys.map Ev.e)).length:=by
     have e3:=aAt (ys.map Ev.e) i;rw [←hI.cut,sf,aJ] at e3;omega
    have:=hI.nl;omega
   have k1:decide ((65535:Int)<(x.e.key.size:Int))=false:=by simp;omega
   have k3:decide ((33554432:Int)<(x.e.val.length:Int))=false:=by simp;omega
   have aiu:=ax wr (.cells #[.string x.e.key,.int .u64 x.e.seq,.bool x.e.gone,.slice xa x.e.val.length xc] 60);have ah:=ar wr (.cells #[.string x.e.key,.int .u64 x.e.seq,.bool x.e.gone,.slice xa x.e.val.length xc] 60);have HI:=ae hI;have Hxe:=ae iH;have Hxi:=ae (mP.grow ah);have XB:=ae cN;have cQ:=ae ah;have nQ:=ae aiu;have XC:=ae nT;clear hI iH mP cN ah aiu nT hx
   go_upto_region 13 with fail
   generalize wr.alloc (.cells #[.string x.e.key,.int .u64 x.e.seq,.bool x.e.gone,.slice xa x.e.val.length xc] 60)=w2 at*;clear c0 c1 c2 c3 hb;obtain ⟨eb,np⟩:∃ eb,eb=wr.heap.size:=⟨_,rfl⟩
   rw [←np] at nQ ⊢;clear np;obtain ⟨t0,t1,t2,t3⟩:=cS nQ.out;have Cx:=af nQ.out
   go_upto_if 46 with fail
   go_cut [9] from 47 to 48 (fun fv wx=>fv= .string (lu (cur++ [x.e]))∧wx=w2)
   case first=>
    by_cases hc:cur= []
    ·have e0:(((bh cur).length:Int)==0)=true:=by rw [hc];rfl
     have hf:Hid (lu (cur++ [x.e])=x.e.key):=ae (by rw [hc];rfl);clear hc;go_wp2;go_meet;exact ⟨by rw [hf.out],rfl⟩
    ·have e0:(((bh cur).length:Int)==0)=false:=by
      have:(bh cur).length≠0:=fun h=>hc (aAs.1 h)
      simp only [beq_eq_false_iff_ne,ne_eq];omega
     have hf:Hid ((Value.string fs)= .string (lu (cur++ [x.e]))):=ae (by rw [HI.out.first hc,aAr hc]);clear hc;go_wp2;go_meet;exact ⟨hf.out,rfl⟩
   case rest=>
    obtain ⟨rfl,hwc⟩:=hcut;have hwc':=hwc.symm;subst hwc';clear hwc;have aiw:=HI.out.pay.grow cQ.out;have xt:=ayG (cI aiw) (by have:=XC.out;rw [sf,aJ] at this;omega) Hxi.out (by omega) (by omega) (by omega);rw [show bh cur++oZ x.e=bh (cur++ [x.e]) by rw [sf,axO]] at xt;have ex:bW x=#[.string x.e.key,.int .u64 x.e.seq,.bool x.e.gone,.slice xa x.e.val.length xc]:=by rw [←XB.out]
    rw [ex] at xt;have Ep:=ae xt;clear xt aiw ex
    go_wp2_with fail
    (with_reducible refine Ep.out.mono ?_);rintro e w3 ⟨pv,rfl,hop,hg3⟩;have hG3:=HI.out.grow.trans (cQ.out.trans hg3);have XD:aI w1.heap.size w3 pv (bh (cur++ [x.e])):=hop.mono (HI.out.grow.trans cQ.out).size;obtain ⟨qa,qc,rfl⟩:=XD.slice;have Hop:=ae XD;have BI:=ae hG3;have iQ:=ae (cQ.out.trans hg3);clear hop XD hG3 hg3 Ep t0 t1 t2 t3 Cx
    go_upto_region 16 with fail
    go_cut [62] from 52 to 62 (fun fv wx=>fv= .bool (decide (size≤(bh (cur++ [x.e])).length∨i+1=ys.length))∧wx=w3)
    case first=>
     by_cases h1:size≤(bh (cur++ [x.e])).length
     ·have d1:decide (size≤(bh (cur++ [x.e])).length)=true:=decide_eq_true h1
      have hr:Hid (decide (size≤(bh (cur++ [x.e])).length∨i+1=ys.length)=true):=ae (decide_eq_true (.inl h1));go_wp2;go_meet;exact ⟨by rw [hr.out],rfl⟩
     ·have d1:decide (size≤(bh (cur++ [x.e])).length)=false:=decide_eq_false h1
      obtain ⟨bb,dX⟩:∃ bb,((i:Int)==((ys.length-1:Nat):Int))=bb:=⟨_,rfl⟩
      have hr:Hid (decide (size≤(bh (cur++ [x.e])).length∨i+1=ys.length)=bb):=ae (by
       rw [←dX,Bool.eq_iff_iff,decide_eq_true_eq,beq_iff_eq];constructor
       ·rintro (h|h)
        ·exact absurd h h1
        ·omega
       ·intro h;right;omega)
      go_wp2;go_meet;exact ⟨by rw [hr.out],rfl⟩
    case rest=>
     obtain ⟨rfl,hwc⟩:=hcut;have hwc':=hwc.symm;subst hwc';clear hwc;by_cases ed:size≤(bh (cur++ [x.e])).length∨i+1=ys.length
     ·have hd:=decide_eq_true ed
      rw [hd];have qC:=ae ed;have eY:=Cz (cI Hop.out) (by have:=XC.out;omega);have oz:=ae eY;clear hd ed eY
      go_wp2_with fail
      (with_reducible refine oz.out.mono ?_);rintro e w4 ⟨bv,rfl,fG,hg4⟩;have QH:ig w1.heap.size w4 (.slice ka gs.length kc) (lW 0 gs):=by
       have h1:=HI.out.QF.grow (iQ.out.trans hg4);rw [sj] at h1;exact h1
      have hout:=HI.out.out.grow (iQ.out.trans hg4);obtain ⟨kg,XE,w5,hrun,GU,oQ⟩:=agX QH ⟨lu (cur++ [x.e]),(bV gs).length,(gy (cur++ [x.e])).length⟩ (BI.out.trans hg4).size (by rw [sj];have:=HI.out.nl;omega);rw [sj] at hrun GU;dsimp only [GH,gy] at hrun;have cW:=ae hrun;obtain ⟨fa,fc,rfl⟩:=fG.slice;have vr:∀ g,(Value.slice ka gs.length kc).ownBlock=some g→∃ t cur,w4.heap[g]?=some (.cells cur t (0,0))∧t≠5:=fun g hg=>by
       obtain ⟨_,_,cu,h3⟩:=QH.lt hg;exact ⟨_,cu,h3,by decide⟩
      have QI:=aI.Em hout oQ vr;have OW:aI w1.heap.size w5 (.slice fa (gy (cur++ [x.e])).length fc) (gy (cur++ [x.e])):=Row1.mono (aI.Em fG oQ vr) BI.out.size;have XF:w1.heap.size≤w4.heap.size:=(BI.out.trans hg4).size;have Gd:Grow w1 w5:=Below.grown (BI.out.trans hg4) oQ XF (fun g hg=>(QH.lt hg).1);have LK:=Xv (cur++ [x.e]);have aAx:=XC.out;obtain ⟨sA,w6,r1,r2,r3,_⟩:=rB QI (cI OW) (aM XF oQ.size) (by omega);have uQ:=GU.aAq QI r3;have hrel:QG w1 size (ys.map Ev.e) sA (.slice none 0 0) (.slice (some ⟨kg,0,none⟩) (gs.length+1) XE) (.string (lu (cur++ [x.e]))) (.int .i64 ((i+1:Nat):Int)) w6:=by
       refine ⟨_,_,_,rfl,HI.out.lay Hxe.out (by rw [qh.out];exact qC.out) ?_ ?_ (Below.grown Gd r3 Gd.size (fun g hg=>(QI.lt hg).1)) _⟩
       ·rw [KS];simpa [bV] using r2
       ·rw [WJ,Nat.zero_add];exact uQ
      have aX:=ae hrel;have XG:=ae r1;obtain ⟨DR,xL,DT,rfl⟩:∃ a L c,sA= .slice a L c:=by obtain ⟨a,c,h⟩:=r2.slice;exact ⟨_,_,_,h⟩
      clear QH hout hrun GU oQ fG vr QI OW XF Gd LK aAx r1 r2 r3 uQ hrel hg4 oz
      go_upto_region 19 with (at_builtin;refine fI rfl rfl rfl rfl cW.out ?_)
      go_wp2_with (at_builtin;refine fI rfl rfl rfl rfl XG.out ?_)
      go_roundw
      case rel=>exact aX.out
      case measure=>simp [intOf];omega
     ·have hd:=decide_eq_false ed
      rw [hd];have hrel:QG w1 size (ys.map Ev.e) (.slice oa (bV gs).length oc) (.slice qa (bh (cur++ [x.e])).length qc) (.slice ka gs.length kc) (.string (lu (cur++ [x.e]))) (.int .i64 ((i+1:Nat):Int)) w3:=by
       have h1:=HI.out.more Hxe.out (fun h=>ed (.inl h)) (fun h=>ed (.inr (by rw [qh.out] at h;exact h))) iQ.out Hop.out;rw [sj] at h1;exact ⟨_,_,_,rfl,h1⟩
      have aX:=ae hrel;clear hd ed hrel;go_wp2;go_roundw
      case rel=>exact aX.out
      case measure=>simp [intOf];omega
  ·obtain rfl:i=ys.length:=by omega
   have tC:cur= []:=hI.last (by rw [qh.out]);subst tC;have eT:eN size [] (ys.map Ev.e)=gs:=by
    have h1:=hI.Xy;rw [List.drop_of_length_le (by rw [qh.out];exact aw _)] at h1;simpa [eN] using h1
   have hne:=hI.ne;have mG:=hI.nl;have gB:gs.flatten=ys.map Ev.e:=by
    have h1:=hI.cut;rw [List.append_nil,List.take_of_length_le (by rw [qh.out];exact aw _)] at h1;exact h1
   have eV:=QE gs 0 hne;rw [gB] at eV;have hbl:=GV gs;rw [gB] at hbl;have GW:∀ g∈gs,(bh g).length≤(bh (ys.map Ev.e)).length:=fun g hg=>by
    rw [←gB,←aip];exact Xz (aZ.2 ⟨g,hg,rfl⟩)
   have kZ:=Xx gs 0 (fun g hg=>⟨hne g hg,by have:=GW g hg;omega⟩) (by omega);have pH:=aha hI.QF kZ (by rw [sj];omega) (by omega);rw [DN] at pH;rw [DN] at eV;rw [sj] at pH;have Bu:=ae pH;have hout:=hI.out;have aiy:=ae hout;have HgI:=ae (eC.out.trans hI.grow);have XH:=ae hI.grow;have LM:=ae eT;clear hI pH GW kZ hne gB hout eT
   go_wp2_with fail
   (with_reducible refine Bu.out.mono ?_);rintro e w2 ⟨xv,rfl,qi,hg2⟩;have mO:=Cz (cI qi) (by omega);have GY:=ae mO;obtain ⟨DR,DT,rfl⟩:=qi.slice;clear mO qi Bu
   go_wp2_with fail
   (with_reducible refine GY.out.mono ?_);rintro e w3 ⟨fv,rfl,sB,hg3⟩;have mz:=aiy.out.grow (hg2.trans hg3);have aAy:=my aq (jI 0 gs);have aAz:=cB (jI 0 gs).length;obtain ⟨sA,w4,r1,r2,r3,_⟩:=rB mz (cI sB) (XH.out.trans (hg2.trans hg3)).size (by omega);have XI:aI w1.heap.size w4 sA (ek gs):=r2;have Gc:Grow w1 w4:=Below.grown (XH.out.trans (hg2.trans hg3)) r3 (XH.out.trans (hg2.trans hg3)).size (fun g hg=>(mz.lt hg).1);have hbd:(ek gs).length≤140000000:=by unfold ek;rw [aJ];omega
   have GZ:=ahr (HE.out.grow Gc) hlen (fun y hy=>by have:=(HK.out y hy).1;omega);have aAA:=ae r1;have Hb4:=ae XI;have Hj:=ae Gc;have LN:=ae GZ;obtain ⟨fa,fc,rfl⟩:=sB.slice;obtain ⟨ba,bc,rfl⟩:=XI.slice;clear r1 r2 XI r3 Gc GZ mz sB hg2 hg3 GY aiy;have aKm:(bV gs).length≤(ek gs).length:=by unfold ek;rw [aJ];omega
   clear aAy aAz hbl eV
   go_upto_region 25 with (at_builtin;refine fI rfl rfl rfl rfl aAA.out ?_)
   go_wp2_with fail
   (with_reducible refine LN.out.mono ?_);rintro e w5 ⟨xv,rfl,qi,br⟩;have ed:=Lg (ys.map Ev.e);have hfn:gV (ys.map Ev.e)≤2000000:=by
    have:=GK (ys.map Ev.e) (ys.map Ev.e).length;rw [qh.out] at this;unfold gV;rw [qh.out];omega
   rw [←ed] at hfn;clear ed;have mO:=Cz (cI qi) (by omega);have GY:=ae mO;obtain ⟨DR,DT,rfl⟩:=qi.slice;clear mO qi LN
   go_wp2_with fail
   (with_reducible refine GY.out.mono ?_);rintro e w6 ⟨fv,rfl,sB,cx⟩;have lQ:=Hb4.out.grow (br.trans cx);have hb6:(bB aq (dV (ys.map Ev.e))).length≤3000000:=by
    have h1:=my aq (dV (ys.map Ev.e));have h2:=cB (dV (ys.map Ev.e)).length;omega
   obtain ⟨sA,w7,r1,r2,r3,_⟩:=rB lQ (cI sB) (Hj.out.trans (br.trans cx)).size (by omega);have hG7:Grow w1 w7:=Below.grown (Hj.out.trans (br.trans cx)) r3 (Hj.out.trans (br.trans cx)).size (fun g hg=>(lQ.lt hg).1);have QJ:(ek gs++bB aq (dV (ys.map Ev.e))).length≤150000000:=by rw [aJ];omega
   obtain ⟨Y,hY⟩:∃ Y,Y=ek gs++bB aq (dV (ys.map Ev.e)):=⟨_,rfl⟩
   rw [←hY] at r2 QJ;have HY:=ae hY;clear hY;have XG:=ae r1;have Qh:=ae r2;have GJ:=ae hG7;obtain ⟨fa,fc,rfl⟩:=sB.slice;obtain ⟨ba,bc,rfl⟩:=r2.slice;have aiA:=XA (B:=w7.heap.size) (bv:= .slice none 0 0) (l:= []) (nO _ _ _) (aw _) (by simp) (bV gs).length (by omega);have aiB:=ae aiA;have wu1:=vo (n:=(bV gs).length) (by omega);have wu2:=vo (n:=(ek gs).length) (by omega);have wu3:=vo (n:=ys.length) (by omega);clear r1 r2 r3 hG7 lQ sB br cx GY hb6 hfn aiA
   go_upto_region 26 with (at_builtin;refine fI rfl rfl rfl rfl XG.out ?_)
   go_wp2_with fail
   (with_reducible refine aiB.out.mono ?_);rintro e w8 ⟨ev,rfl,qT,di⟩;have aiC:=XA qT di.size (by simp [mq]) (ek gs).length (by omega);have aiD:=ae aiC;have AD:=ae di;obtain ⟨ea,eL,ec,rfl⟩:∃ a L c,ev= .slice a L c:=by obtain ⟨a,c,h⟩:=qT.slice;exact ⟨_,_,_,h⟩
   clear aiC qT di aiB
   go_wp2_with fail
   (with_reducible refine aiD.out.mono ?_);rintro e w9 ⟨ev,rfl,XJ,vx⟩;have wX:Below w7.heap.size w7 w9:=AD.out.trans vx;have aiE:=XA XJ wX.size (by simp [mq]) ys.length (by omega);have aiF:=ae aiE;have Hg9:=ae wX;obtain ⟨ea,eL,ec,rfl⟩:∃ a L c,ev= .slice a L c:=by obtain ⟨a,c,h⟩:=XJ.slice;exact ⟨_,_,_,h⟩
   clear aiE XJ vx wX aiD AD
   go_wp2_with fail
   (with_reducible refine aiF.out.mono ?_);rintro e py ⟨ev,rfl,wN,tV⟩;rw [show []++cD 8 (bV gs).length++cD 8 (ek gs).length++cD 8 ys.length=jo (bV gs).length (ek gs).length ys.length by simp [jo]] at wN;have LO:Grow w7 py:=Hg9.out.trans tV;have hend:=PU (bV gs).length (ek gs).length ys.length;obtain ⟨E,hE⟩:∃ E,E=jo (bV gs).length (ek gs).length ys.length:=⟨_,rfl⟩
   rw [←hE] at wN hend;have wF:E.length≤24:=by omega
   clear hend;have HE2:=ae hE;clear hE;have XK:=Qh.out.grow LO;obtain ⟨sA,qj,r1,r2,r3,_⟩:=rB XK (cI wN) (GJ.out.trans LO).size (by omega);have aiI:Grow w1 qj:=Below.grown (GJ.out.trans LO) r3 (GJ.out.trans LO).size (fun g hg=>(XK.lt hg).1);have aiJ:aI w7.heap.size qj ev E:=wN.keep (fun g hg=>r3.block g (wN.lt hg).2 (fun e=>by
    have h1:=(Qh.out.lt e.symm).2;have h2:=(wN.lt hg).1;omega))
   have JR:=ae r1;have aAD:=ae r2;have XM:=ae aiI;obtain ⟨ea,ec,rfl⟩:=wN.slice;have PM:=ax qj (.cells #[.slice ea E.length ec] 49);have rO:=ar qj (.cells #[.slice ea E.length ec] 49);have hsu:=Oi PM ((cI aiJ).grow rO);have Hsu:=ae hsu;have QK:=ae rO;have aKn:=zV E;have wus:=vo (n:=eF aq E) (by omega);obtain ⟨oa2,oL2,oc2,rfl⟩:∃ a L c,sA= .slice a L c:=by obtain ⟨a,c,h⟩:=r2.slice;exact ⟨_,_,_,h⟩
   clear r1 r2 r3 aiI aiJ wN tV LO XK PM rO hsu aiF Hg9 wu1 wu2 wu3
   go_upto_region 27 with fail
   go_wp2_with (at_builtin;refine fI rfl rfl rfl rfl JR.out ?_)
   (with_reducible refine Hsu.out.mono ?_);rintro e w13 ⟨rfl,pS⟩;generalize LP:eF aq E=SM at*;have HSM:=ae LP;have aiN:=aAu (w:=w13) (B:=w13.heap.size) (bv:= .slice none 0 0) (l:= []) (nO _ _ _) (aw _) (by simp) SM (by omega);have aiO:=ae aiN;have BJ:=ae (QK.out.trans pS);clear aiN pS LP Hsu
   go_wp2_with fail
   (with_reducible refine aiO.out.mono ?_);rintro e w14 ⟨lv,rfl,XN,qd⟩;have LQ:Grow qj w14:=BJ.out.trans qd;have XO:=aAD.out.grow LQ;have nk:(cD 4 SM).length=4:=mq 4 SM;obtain ⟨sA,w15,r1,r2,r3,_⟩:=rB XO (cI XN) (XM.out.trans LQ).size (by simp only [aJ,iq,nk];omega);have aiQ:Grow w1 w15:=Below.grown (XM.out.trans LQ) r3 (XM.out.trans LQ).size (fun g hg=>(XO.lt hg).1);have hres:aI w.heap.size w15 sA (gS (eN size [] (ys.map Ev.e)) ys.length (dV (ys.map Ev.e))):=by
    have h1:=Row1.mono r2 eC.out.size;have e:Y++E++([]++cD 4 SM)=gS (eN size [] (ys.map Ev.e)) ys.length (dV (ys.map Ev.e)):=by
     unfold gS;rw [LM.out,HY.out,←HSM.out,HE2.out];simp only [ju,iq]
    rw [e] at h1;exact h1
   have dC:=ae hres;have aAF:=ae (eC.out.trans aiQ);have aAG:=ae r1;obtain ⟨oa3,oL3,oc3,rfl⟩:∃ a L c,sA= .slice a L c:=by obtain ⟨a,c,h⟩:=hres.slice;exact ⟨_,_,_,h⟩
   obtain ⟨la,lL,lc,rfl⟩:∃ a L c,lv= .slice a L c:=by obtain ⟨a,c,h⟩:=XN.slice;exact ⟨_,_,_,h⟩
   clear r1 r2 r3 aiQ hres XO XN qd LQ nk aiO
   go_wp2_with (at_builtin;refine fI rfl rfl rfl rfl aAG.out ?_)
   go_ret2;exact ⟨_,rfl,dC.out,aAF.out⟩
section
abbrev Hu:List UInt8:= [116,45]
theorem XP {N:Nat} {w:World} (h:dn N B w) (hn:n<N) (h6:n<1000000):
  Calls Tryz.prog 35 #[.int .i64 n] w fun e w'=>e= .returned (.string (eH n))∧Grow w w':=by
 have Hi:=ae (ado h hn h6);have hl:=yn h6;have e3:¬ 9223372036854775807<2+(fF n).length:=by omega
 clear h;go_enter Tryz.func35,Tryz.ntmps35
 go_wp2_with fail
 (with_reducible refine Hi.out.mono ?_);rintro e w1 ⟨rfl,hg1⟩;go_wp2;go_ret;exact ⟨by rw [show (⟨#[116,45]⟩:ByteArray)=⟨(Hu:List UInt8).toArray⟩ from rfl,wA];rfl,hg1⟩
structure Wv where
 x:Wr
 v:Value
def gW (y:Wv):List Value:= [.string y.x.key,.bool y.x.gone,y.v]
abbrev LR (y:Wv):Array Value:=#[.string y.x.key,.bool y.x.gone,y.v]
theorem LS (y:Wv):(gW y).length=3:=rfl
abbrev pz (N:Nat→Prop) (w:World) (y:Wv):Prop:=Bw N w y.v y.x.val
def Ws (N:Nat→Prop) (w:World) (v:Value) (xs:List Wv):Prop:=
 (∃ a c,v= .slice a xs.length c∧xs.length≤c∧c≤maxLen∧(a=none→c=0)∧(xs= []∨∃ b o,a=some ⟨b,o,none⟩∧N b∧b<w.heap.size∧Rd w b o gW 3 xs))∧∀ x∈xs,pz N w x
section
variable {N M:Nat→Prop} {w w' w'':World} {v:Value} {xs:List Wv}
theorem Ws.kp (h:Ws N w v xs) (k:Kp N w w'):Ws N w' v xs:=by
 obtain ⟨⟨a,c,rfl,hl,hm,hn,h⟩,h2⟩:=h;refine ⟨⟨a,c,rfl,hl,hm,hn,?_⟩,fun x hx=>(h2 x hx).kp k⟩;rcases h with h|⟨b,o,rfl,hb,hlt,hr⟩
 ·exact .inl h
 ·refine .inr ⟨b,o,rfl,hb,cf hlt k.size,fun i x hx c u hu=> ?_⟩
  rw [k.cell hb hlt];exact hr i x hx c u hu
theorem Ws.grow (h:Ws N w v xs) (hg:Grow w w'):Ws N w' v xs:=h.kp (.bT hg)
theorem Ws.mono (h:Ws N w v xs) (hM:∀ b,N b→M b):Ws M w v xs:=by
 obtain ⟨⟨a,c,rfl,hl,hm,hn,h⟩,h2⟩:=h;refine ⟨⟨a,c,rfl,hl,hm,hn,?_⟩,fun x hx=>(h2 x hx).mono hM⟩;rcases h with h|⟨b,o,rfl,hb,hlt,hr⟩
 ·exact .inl h
 ·exact .inr ⟨b,o,rfl,hM b hb,hlt,hr⟩
theorem Ws.slice (h:Ws N w v xs):∃ a c,v= .slice a xs.length c:=by
 obtain ⟨⟨a,c,h,_⟩,_⟩:=h;exact ⟨a,c,h⟩
theorem Ws.get (h:Ws N w v xs) {x:Wv} (hx:xs[i]?=some x):pz N w x:=h.2 x (dB hx)
theorem Ws.addr (h:Ws N w v xs) {x:Wv} (hx:xs[i]?=some x):∃ b o c,v= .slice (some ⟨b,o,none⟩) xs.length c∧N b∧b<w.heap.size∧Rd w b o gW 3 xs:=by
 obtain ⟨⟨a,c,rfl,hl,hm,hn,h⟩,h2⟩:=h;rcases h with rfl|⟨b,o,rfl,hb,hlt,hr⟩
 ·simp at hx
 ·exact ⟨b,o,c,rfl,hb,hlt,hr⟩
theorem QL {o:Nat} {x:Wv} (h:Rd w b o gW 3 xs) (hx:xs[i]?=some x):
  w.cell? ⟨b,o+i*3,none⟩=some (.string x.x.key)∧w.cell? ⟨b,o+i*3+1,none⟩=some (.bool x.x.gone)∧w.cell? ⟨b,o+i*3+2,none⟩=some x.v:=
 ⟨h i x hx 0 _ rfl,h i x hx 1 _ rfl,h i x hx 2 _ rfl⟩
end
def tW (g:Bool):Nat:=if g then 1 else 0
def kL (y:Wr):List UInt8:=aD (tW y.gone)++(aW y.key.data.toList++aW y.val)
def kM (seq:Nat) (l:List Wr):List UInt8:=aD seq++aD l.length++l.flatMap kL
def bA (l:List Wr):Nat:=(l.map fun y=>y.key.size+y.val.length).sum
theorem aAH (y:Wr):(kL y).length≤30+(y.key.size+y.val.length):=by
 have h1:=cB (tW y.gone);have h2:=nz y.key.data.toList;have h3:=nz y.val;have e1:y.key.data.toList.length=y.key.size:=by rw [gO];rfl
 simp only [kL,aJ] at*;omega
theorem QM:∀ l:List Wr,(l.flatMap kL).length≤30*l.length+bA l
 | []=>by simp [bA]
 |y::l=>by
  have h1:=aAH y;have h2:=QM l;simp only [List.flatMap_cons,aJ,dH,bA,cg,List.sum_cons] at*;omega
theorem XQ (seq:Nat) (l:List Wr):(kM seq l).length≤20+30*l.length+bA l:=by
 have h1:=cB seq;have h2:=cB l.length;have h3:=QM l;simp only [kM,aJ] at*;omega
theorem HZ (a b:List Wr):bA (a++b)=bA a+bA b:=by simp [bA]
theorem QN (l:List Wr) (i:Nat):bA (l.take i)≤bA l:=by
 have h:=HZ (l.take i) (l.drop i);rw [List.take_append_drop] at h;omega
theorem QO {l:List Wr} {y:Wr} (h:y∈l):y.key.size+y.val.length≤bA l:=by
 induction l with
 |nil=>cases h
 |cons z l ih=>
  rcases bE.1 h with rfl|h
  ·simp [bA]
  ·have:=ih h;simp only [bA,cg,List.sum_cons] at*;omega
end
end Go.Proofs.YtoolkdapflaeeaaGreatDoor
