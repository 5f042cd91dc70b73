/- Helpers. -/
import Derived.Test.YtoolkdapflaeeaaGreatDoorW0H
import Derived.Test.YtoolkdapflaeeaaGreatDoorW00
import Derived.RangeFuncNested
import Derived.RangeFuncBound
import Derived.RangeFuncCalls
import Derived.RangeFuncLeaves
import Derived.ControlIn
import Derived.Test.YtoolkdapflaeeaaGreatDoorW0C
import Derived.Shelf.Abstract
import Derived.Shelf.RegionOpen
import Derived.WalkKit
import Derived.OwnWalkIn
import Derived.TacticsInMore
import Derived.LoopNIn
import Derived.LoopIn
set_option maxRecDepth 100000
set_option maxHeartbeats 16000000
namespace Go.Proofs.YtoolkdapflaeeaaGreatDoor
open Go.RowKit Go.Gl Go.aH Mn
def Vi (e:En):En:=⟨e.key,e.seq,e.gone,if e.gone then [] else e.val⟩
def awx (N:Nat→Prop) (w:World) (tb ha:Nat) (ns:List Nd) (dv:Value) (ds:List Int) (x:En) (e:Ending) (w':World):Prop:=
 e= .returned (.tuple #[])∧∃ bE dH,cX (fun b=>N b∨(w.heap.size≤b∧b<w'.heap.size∧¬ FM tb ha bE b)) w' tb ha bE dH dv ds∧
  bE.map (fun n=>n.x.e)=jt x (ns.map (fun n=>n.x.e))∧Sep (FM tb ha ns) w w' (FM tb ha bE)
theorem oC.base {N:Nat→Prop} {w W w':World} {tb ha:Nat} {ns bE:List Nd} {dv:Value} {x:Ev} {dH:Nat} (h:oC N W tb ha ns dv x bE dH w') (hg:Grow w W):oC N w tb ha ns dv x bE dH w':=
 ⟨h.list,h.self,h.aM,h.skip,(Sep.bF hg).trans h.sep⟩
theorem oC.grow {N:Nat→Prop} {w w' w'':World} {tb ha:Nat} {ns bE:List Nd} {dv:Value} {x:Ev} {dH:Nat} (h:oC N w tb ha ns dv x bE dH w') (hg:Grow w' w''):oC N w tb ha ns dv x bE dH w'':=
 ⟨h.list,hg.heap h.self,h.aM,h.skip.grow hg,h.sep.trans (Sep.bF hg)⟩
theorem oC.store {N:Nat→Prop} {w w':World} {tb ha:Nat} {ns bE:List Nd} {dv:Value} {x:Ev} {dH:Nat} (h:oC N w tb ha ns dv x bE dH w') {q:Nat} (hq:¬ FM tb ha bE q) (hN:¬ N q) (hw:w.heap.size≤q) (v0 v1 v2 v3:Value):oC N w tb ha ns dv x bE dH (iG w' q v0 v1 v2 v3):=
 ⟨h.list,(qR (fun e=>hq (.inl e.symm)) _ _ _ _).trans h.self,h.aM,h.skip.keep (fun b hb=>qR (fun e=>hq (.inr (by rw [←e];exact hb))) _ _ _ _) ⟨by simp,fun b hb _=>qR (fun e=>hN (by rw [←e];exact hb)) _ _ _ _⟩,h.sep.aeF hw v0 v1 v2 v3⟩
abbrev afz (ha aM cnt:Nat) (dv:Value) (z:Int):Array Value:=#[.string ByteArray.empty,.int .u64 0,.bool false,.slice none 0 0,.slice (some ⟨ha,0,none⟩) 12 12,.func (.func 93) #[] #[],.int .i64 aM,.int .i64 cnt,dv,.int .i64 z]
structure CP (N:Nat→Prop) (w:World) (tb ha:Nat) (ns:List Nd) (dv:Value) (x:Ev) (bE:List Nd) (dH:Nat) (z:Int) (w':World):Prop where
 list:bE.map (fun n=>n.x.e)=jt x.e (ns.map (fun n=>n.x.e))
 self:w'.heap[tb]?=some (.cells (afz ha dH bE.length dv z) 181 (0,0))
 aM:dH≤12
 skip:jw N w' tb ha bE
 sep:Sep (FM tb ha ns) w w' (FM tb ha bE)
section
variable {N:Nat→Prop} {w w' w'':World} {tb ha:Nat} {ns bE:List Nd} {dv:Value} {x:Ev} {dH:Nat} {zz:Int}
theorem oC.toZ (h:oC N w tb ha ns dv x bE dH w'):CP N w tb ha ns dv x bE dH ((costs (ns.map (fun n=>n.x.e)):Nat):Int) w':=⟨h.list,h.self,h.aM,h.skip,h.sep⟩
theorem CP.grow (h:CP N w tb ha ns dv x bE dH zz w') (hg:Grow w' w''):CP N w tb ha ns dv x bE dH zz w'':=⟨h.list,hg.heap h.self,h.aM,h.skip.grow hg,h.sep.trans (Sep.bF hg)⟩
theorem CP.size (h:CP N w tb ha ns dv x bE dH zz w') (hN:¬ N tb) (z':Int):CP N w tb ha ns dv x bE dH z' (w'.setCell ⟨tb,9,none⟩ (.int .i64 z')):=by
 have h1:=Go.Gl.aI h.self 9 (.int .i64 z');simp only [afz,List.setIfInBounds_toArray,List.set_cons_zero,List.set_cons_succ] at h1;have hne:∀ b,(b=ha∨∃ n∈bE,b=n.blk∨b=n.arr)→b≠tb:=fun b hb e=>by
  have hs:=h.self;rcases hb with rfl|⟨n,hn,rfl|rfl⟩
  ·have h2:=h.skip.gZ.1
   rw [show (bC tb b).arr=b from rfl,e,hs] at h2;exact absurd (cA (bB h2)).2.1 (by decide)
  ·have h2:=h.skip.node n hn
   rw [e,hs] at h2;exact absurd (cA (bB h2)).2.1 (by decide)
  ·obtain ⟨p1,p2,e3⟩:=List.append_of_mem hn
   have h2:=h.skip.gZ.2.at e3;rw [e,hs] at h2;exact absurd (cA (bB h2)).2.1 (by decide)
 exact ⟨h.list,h1,h.aM,h.skip.keep (fun b hb=>aK _ _ _ _ (hne b hb)) ⟨by simp,fun b hb _=>aK _ _ _ _ (fun e=>hN (by have e':b=tb:=e;rw [←e'];exact hb))⟩,h.sep.trans (Sep.Ve _ w' (.inl rfl) 9 _)⟩
end
def awy (s4:Nat) (N:Nat→Prop) (w:World) (tb ha:Nat) (ns:List Nd) (dv:Value) (x:Ev) (pv bv:Value) (wx:World):Prop:=
 ∃ (q:Nat) (bE:List Nd) (dH:Nat),pv=au q∧q≠w.heap.size∧w.heap.size≤q∧oC N w tb ha ns dv x bE dH wx∧wx.heap[w.heap.size]?=some (.cells (bQ x) 60 (0,0))∧
  (s4≤wx.heap.size∧∀ b,w.heap.size≤b→b<s4→¬ FM tb ha bE b)∧
  ((∃ (y:Ev) (ya:Option Addr) (yc:Nat),y.v= .slice ya y.e.val.length yc∧wx.heap[q]?=some (.cells (bQ y) 60 (0,0))∧bv= .bool true∧costs (bE.map (fun n=>n.x.e))+iE y.e=costs (ns.map (fun n=>n.x.e))+iE x.e)∨
   (bv= .bool false∧costs (bE.map (fun n=>n.x.e))=costs (ns.map (fun n=>n.x.e))+iE x.e))
theorem awz {N Na:Nat→Prop} {w:World} {tb ha:Nat} {ns:List Nd} {aM:Nat} {dv:Value} {ds:List Int} (h:cX N w tb ha ns aM dv ds) (hN:∀ b,N b→b<w.heap.size∧¬ FM tb ha ns b) (hlen:ns.length≤1000000000) (x:Ev) (hx:kG Na w x) (eM:x.e.seq<18446744073709551616)
  (OO:costs (ns.map (fun n=>n.x.e))+iE x.e≤1000000000000):Calls Tryz.prog 84 #[au tb,.agg (bQ x)] w (awx N w tb ha ns dv ds (Vi x.e)):=by
 obtain ⟨⟨xk,xs,xg,xd⟩,xv⟩:=x;obtain ⟨xa,xc,dm⟩:=hx.slice;have bg:=hx.1;simp only at dm bg;subst dm;have gH:xk.size+xd.length+16≤1000000000000:=by unfold iE at OO;simp only at OO;omega
 obtain ⟨yd,OP⟩:∃ yd,yd=(if xg then [] else xd):=⟨_,rfl⟩
 have dX:yd.length≤xd.length:=by rw [OP];split<;>simp
 have afB:Vi ⟨xk,xs,xg,xd⟩=⟨xk,xs,xg,yd⟩:=by unfold Vi;rw [OP]
 rw [afB];have ai:=Grow.alloc w (.cells (bQ ⟨⟨xk,xs,xg,xd⟩,.slice xa xd.length xc⟩) 60);have hb:=aw w (.cells (bQ ⟨⟨xk,xs,xg,xd⟩,.slice xa xd.length xc⟩) 60);obtain ⟨w1,bS⟩:∃ w1,w.alloc (.cells (bQ ⟨⟨xk,xs,xg,xd⟩,.slice xa xd.length xc⟩) 60)=w1:=⟨_,rfl⟩
 rw [bS] at ai hb;obtain ⟨b0,b1,b2,b3⟩:=cK hb;have lb:=af hb;have f1:∀ i,w1.frozen? ⟨w.heap.size,i,none⟩=false:=fun i=>by simp [World.frozen?,hb]
 have H:=ae h;have HX:=ae (ah hx (ah eM (ah hN (ah hlen (ah OO gH)))));have Hy:=ae (ah OP dX);have Hg:=ae (ah ai hb);clear h hx eM hN hlen OO gH OP dX afB ai hb;go_enter Tryz.func84,Tryz.ntmps84;have Vj:=ae bg;have aFX:=ae (ah b2 (ah lb f1));clear bg
 go_upto_if 7 with fail
 go_cut [] from 8 to 8 (fun wx=>∃ sa sc,Grow w wx∧wx.heap[w.heap.size]?=some (.cells #[.string xk,.int .u64 xs,.bool xg,.slice sa yd.length sc] 60 (0,0))∧Bv wx (.slice sa yd.length sc) yd)
 case first=>
  cases xg with
  |false=>
   obtain rfl:yd=xd:=by have:=Hy.out.1;simpa using this
   go_wp2;go_meet;exact ⟨_,_,Hg.out.1,Hg.out.2,Vj.out.grow Hg.out.1⟩
  |true=>
   obtain rfl:yd= []:=by have:=Hy.out.1;simpa using this
   have hb2:=Go.Gl.aI Hg.out.2 3 (.slice none 0 0);simp only [bQ,List.setIfInBounds_toArray,List.set_cons_zero,List.set_cons_succ] at hb2;have pB:=ae hb2;clear hb2;go_wp2;go_meet;exact ⟨_,_,Hg.out.1.setCell (p:=⟨w.heap.size,3,none⟩) (ay _) _,pB.out,(UC (fun _=>True) _).1⟩
 case rest=>
 obtain ⟨sa,sc,hg2,hb2,CQ⟩:=hcut;generalize wc=w2 at*;have fL:=ae (uJ CQ (by have:=Hy.out.2;have:=HX.out.2.2.2.2.2;omega));obtain ⟨c0,c1,c2,c3⟩:=cK hb2;have l2:=af hb2;have oZ:=ae (ah hg2 hb2);clear CQ hg2 hb2
 go_wp2_with fail
 (with_reducible refine fL.out.mono ?_);rintro e w3 ⟨v,rfl,ho,hg3⟩;have fJ:=ho;obtain ⟨va,vc,rfl⟩:=Go.Gl.Row1.slice ho;rw [iL] at fJ ⊢;have hb3:=hg3.heap oZ.out.2;have hb4:=Go.Gl.aI hb3 3 (.slice va yd.length vc);simp only [List.setIfInBounds_toArray,List.set_cons_zero,List.set_cons_succ] at hb4;have hg4:Grow w (w3.setCell ⟨w.heap.size,3,none⟩ (.slice va yd.length vc)):=(oZ.out.1.trans hg3).setCell (p:=⟨w.heap.size,3,none⟩) (ay _) _;have s2:=oZ.out.1.size;have jr:aG w.heap.size (w3.setCell ⟨w.heap.size,3,none⟩ (.slice va yd.length vc)) (.slice va yd.length vc) yd:=by
  refine (fJ.mono s2).keep (fun g hgb=> ?_);have h9:=(fJ.lt hgb).1;exact aK _ _ _ _ (fun e=>by have e':g=w.heap.size:=e;omega)
 obtain ⟨d0,d1,d2,d3⟩:=cK hb3;have l3:=af hb3;have f3:w3.frozen? ⟨w.heap.size,3,none⟩=false:=by simp [World.frozen?,hb3]
 have Kc:=ae (ah hg4 (ah hb4 jr));clear hb3 hb4 hg4 jr ho fJ hg3 fL c0 c1 c2 c3 l2
 go_upto_region 4 with fail
 have ji:=Kc.out;generalize w3.setCell ⟨w.heap.size,3,none⟩ (.slice va yd.length vc)=w4 at*;obtain ⟨c0,c1,c2,c3⟩:=cK ji.2.1;have l4:=af ji.2.1;have hgd:=Grow.drew w4;have h4:=H.out.grow ji.1;have hN4:∀ W,Grow w4 W→∀ b,(N b∨(w.heap.size≤b∧b<w4.heap.size))→b<W.heap.size∧¬ FM tb ha ns b:=fun W hW b hb=>by
  have s4:=hW.size;rcases hb with hb|⟨hb1,hb2⟩
  ·exact ⟨cj (HX.out.2.2.1 b hb).1 (aN ji.1.size s4),(HX.out.2.2.1 b hb).2⟩
  ·exact ⟨by omega,fun hf=>by have:=H.out.lt hf;omega⟩
 have nO:kG (fun b=>N b∨(w.heap.size≤b∧b<w4.heap.size)) w4 ⟨⟨xk,xs,xg,yd⟩,.slice va yd.length vc⟩:=⟨cy ji.2.2,.inr (fun b hb=> .inr (ji.2.2.lt hb))⟩
 have Fp:=ae (fun W (hW:Grow w4 W)=>awb (((H.out.grow ji.1).mono (M:=(fun b=>N b∨(w.heap.size≤b∧b<w4.heap.size))) (fun b hb=> .inl hb)).grow hW) (hN4 W hW) HX.out.2.2.2.1 ⟨⟨xk,xs,xg,yd⟩,.slice va yd.length vc⟩ (nO.grow hW) HX.out.2.1);have Kd:=ae (ah ji.1 (ah ji.2.1 h4.self));have Ad:iE ⟨xk,xs,xg,yd⟩≤iE ⟨xk,xs,xg,xd⟩:=by have:=Hy.out.2;unfold iE;simp only;omega
 have awA:=ae Ad;clear hN4 nO h4 ji Kc d0 d1 d2 d3 l3 f3 Ad
 go_cut [4,5] from 13 to 22 (fun pv bv wx=>awy w4.heap.size (fun b=>N b∨(w.heap.size≤b∧b<w4.heap.size)) w tb ha ns dv ⟨⟨xk,xs,xg,yd⟩,.slice va yd.length vc⟩ pv bv wx)
 case first=>
  refine afx (fun V=>V.cell? ⟨w.heap.size,0,none⟩=some (.string xk)∧V.cell? ⟨w.heap.size,1,none⟩=some (.int .u64 xs)∧V.cell? ⟨w.heap.size,2,none⟩=some (.bool xg)∧V.cell? ⟨w.heap.size,3,none⟩=some (.slice va yd.length vc)∧w.heap.size<V.heap.size) [(0,false),(1,false),(2,false),(3,false),(4,false),(5,false)] 6 10 [(7,false),(8,false),(9,false),(10,true),(11,true),(12,false)] [(6,true),(7,false),(8,false),(9,false),(11,true),(12,false)] (by kernel_rfl) (by kernel_rfl) (fun c a d v w h=>by cases d<;>exact h) ⟨c0,c1,c2,c3,l4⟩ ?_;simp only [aP,nth]
  repeat (first|(refine aB (v:= ?_) (by rfl) ?_ ?_;rotate_left;(rintro W ⟨k0,k1,k2,k3,k4⟩;go_simp;with_reducible rfl);simp only [ag,List.set])|(refine aC (by rfl) ?_;simp only [ag,List.set]))
  refine bm (afy ?_ ?_)
  ·simp only [aP,nth]
   refine bj (by rfl) (by go_simp) (Fp.out w4.drew hgd) ?_;rintro e' w5 ⟨bE,dH,hP,xp⟩;have sB:w5.heap[w.heap.size]?=some (.cells #[.string xk,.int .u64 xs,.bool xg,.slice va yd.length vc] 60 (0,0)):=
    (hP.sep.out _ l4 (fun hf=>by have:=H.out.lt hf;omega)).trans Kd.out.2.1
   obtain ⟨e0,e1,e2,e3⟩:=cK sB;have l5:=af sB;have Ke:=hP.sep.size;have Kf:∀ b,w.heap.size≤b→b<w4.heap.size→¬ FM tb ha bE b:=fun b h1 h2 hf=>by
    rcases hP.sep.foot b hf with h3|h3
    ·have:=H.out.lt h3;omega
    ·have h4:w4.heap.size≤b:=by simp at h3;omega
     omega
   have HP:=ae (hP.base (Kd.out.1.trans hgd));clear Fp hP;have vJ:=Grow.alloc w5 (.cells #[.string ⟨#[]⟩,.int .u64 0,.bool false,.slice none 0 0] 60);obtain ⟨g0,g1,g2,g3⟩:=cK (vJ.heap sB);rcases xp with ⟨⟨⟨yk,ys,yg,yl⟩,yv⟩,⟨ya,yc,ir⟩,rfl,Kg,hc'⟩|⟨rfl,Kg,hc'⟩
   ·simp only at ir
    subst ir;refine ⟨_,rfl,⟨e0,e1,e2,e3,l5⟩,?_⟩
    try first|simp only [ag,List.set]|simp only [aD]
    repeat (first|(refine aB (v:= ?_) (by rfl) ?_ ?_;rotate_left;(rintro W ⟨k0,k1,k2,k3,k4⟩;go_simp;with_reducible rfl);simp only [ag,List.set])|(refine aC (by rfl) ?_;simp only [ag,List.set]))
    refine fQ (by rfl) (fun K hK=> ?_);go_simp;refine hK _ _ ⟨⟨g0,g1,g2,g3,by simp;omega⟩,?_⟩;clear hK K
    try first|simp only [ag,List.set]|simp only [aD]
    have uf:=Grow.alloc w5 (.cells #[.string yk,.int .u64 ys,.bool yg,.slice ya yl.length yc] 60);have OQ:=aw w5 (.cells #[.string yk,.int .u64 ys,.bool yg,.slice ya yl.length yc] 60);obtain ⟨j0,j1,j2,j3⟩:=cK (uf.heap sB);refine fQ (by rfl) (fun K hK=> ?_);go_simp;refine hK _ _ ⟨⟨j0,j1,j2,j3,by simp;omega⟩,?_⟩;clear hK K
    try first|simp only [ag,List.set]|simp only [aD]
    repeat (first|(refine aB (v:= ?_) (by rfl) ?_ ?_;rotate_left;(rintro W ⟨k0,k1,k2,k3,k4⟩;go_simp;with_reducible rfl);simp only [ag,List.set])|(refine aC (by rfl) ?_;simp only [ag,List.set]))
    refine bm ?_;have qW:=uf.heap sB;have xA:=HP.out.grow uf
    go_wp2_with fail
    go_meet;exact ⟨w5.heap.size,bE,dH,rfl,by omega,by omega,xA,qW,⟨by have h9:=Ke;simp at h9 ⊢;omega,Kf⟩,.inl ⟨⟨⟨yk,ys,yg,yl⟩,.slice ya yl.length yc⟩,ya,yc,rfl,OQ,rfl,hc'⟩⟩
   ·refine ⟨_,rfl,⟨e0,e1,e2,e3,l5⟩,?_⟩
    try first|simp only [ag,List.set]|simp only [aD]
    repeat (first|(refine aB (v:= ?_) (by rfl) ?_ ?_;rotate_left;(rintro W ⟨k0,k1,k2,k3,k4⟩;go_simp;with_reducible rfl);simp only [ag,List.set])|(refine aC (by rfl) ?_;simp only [ag,List.set]))
    refine fQ (by rfl) (fun K hK=> ?_);go_simp;refine hK _ _ ⟨⟨g0,g1,g2,g3,by simp;omega⟩,?_⟩;clear hK K
    try first|simp only [ag,List.set]|simp only [aD]
    have uf:=Grow.alloc w5 (.cells #[.string ⟨#[]⟩,.int .u64 0,.bool false,.slice none 0 0] 60);obtain ⟨j0,j1,j2,j3⟩:=cK (uf.heap sB);refine fQ (by rfl) (fun K hK=> ?_);go_simp;refine hK _ _ ⟨⟨j0,j1,j2,j3,by simp;omega⟩,?_⟩;clear hK K
    try first|simp only [ag,List.set]|simp only [aD]
    repeat (first|(refine aB (v:= ?_) (by rfl) ?_ ?_;rotate_left;(rintro W ⟨k0,k1,k2,k3,k4⟩;go_simp;with_reducible rfl);simp only [ag,List.set])|(refine aC (by rfl) ?_;simp only [ag,List.set]))
    refine bm ?_;have qW:=uf.heap sB;have xA:=HP.out.grow uf
    go_wp2_with fail
    go_meet;exact ⟨w5.heap.size,bE,dH,rfl,by omega,by omega,xA,qW,⟨by have h9:=Ke;simp at h9 ⊢;omega,Kf⟩,.inr ⟨rfl,hc'⟩⟩
  ·simp only [aP,nth]
   have OS:=Grow.alloc w4.drew (.cells #[.string ⟨#[]⟩,.int .u64 0,.bool false,.slice none 0 0] 60);have Fq:=aw w4.drew (.cells #[.string ⟨#[]⟩,.int .u64 0,.bool false,.slice none 0 0] 60);have vK:=OS.heap (hgd.heap Kd.out.2.1);obtain ⟨g0,g1,g2,g3⟩:=cK vK;have Vk:=af vK;refine fQ (by rfl) (fun K hK=> ?_);go_simp;refine hK _ _ ⟨⟨g0,g1,g2,g3,Vk⟩,?_⟩;clear hK K
   try first|simp only [ag,List.set]|simp only [aD]
   have s4:=Kd.out.1.size;have qJ:w.heap.size≠w4.heap.size:=by have:=l4;omega
   refine bj (by rfl) (by go_simp) (Fp.out _ (hgd.trans OS)) ?_;rintro e' w5 ⟨bE,dH,hP,xp⟩;have sB:w5.heap[w.heap.size]?=some (.cells #[.string xk,.int .u64 xs,.bool xg,.slice va yd.length vc] 60 (0,0)):=
    (hP.sep.out _ Vk (fun hf=>by have:=H.out.lt hf;omega)).trans vK
   have nI:w5.heap[w4.heap.size]?=some (.cells #[.string ⟨#[]⟩,.int .u64 0,.bool false,.slice none 0 0] 60 (0,0)):=(hP.sep.out _ (af Fq) (fun hf=>by have:=H.out.lt hf;have e:w4.drew.heap.size=w4.heap.size:=rfl;omega)).trans Fq;have hqF:¬ FM tb ha bE w4.heap.size:=fun hf=>by
    rcases hP.sep.foot _ hf with h1|h1
    ·have:=H.out.lt h1;omega
    ·have h2:w4.heap.size+1≤w4.heap.size:=by simpa using h1
     omega
   obtain ⟨e0,e1,e2,e3⟩:=cK sB;have l5:=af sB;have Ke:=hP.sep.size;have Kf:∀ b,w.heap.size≤b→b<w4.heap.size→¬ FM tb ha bE b:=fun b h1 h2 hf=>by
    rcases hP.sep.foot b hf with h3|h3
    ·have:=H.out.lt h3;omega
    ·have h4:w4.heap.size≤b:=by simp at h3;omega
     omega
   have HP:=ae (ah (hP.base ((Kd.out.1.trans hgd).trans OS)) hqF);have Vd:¬ (N w4.heap.size∨(w.heap.size≤w4.heap.size∧w4.heap.size<w4.heap.size)):=fun h=>by
    rcases h with h|h
    ·have:=(HX.out.2.2.1 _ h).1;omega
    ·omega
   clear Fp hP OS Fq vK g0 g1 g2 g3 Vk hqF;obtain ⟨r0,r1,r2,r3⟩:=cK nI;have lq:=af nI;have frq:∀ i,w5.frozen? ⟨w4.heap.size,i,none⟩=false:=fun i=>by simp [World.frozen?,nI]
   rcases xp with ⟨⟨⟨yk,ys,yg,yl⟩,yv⟩,⟨ya,yc,ir⟩,rfl,Kg,hc'⟩|⟨rfl,Kg,hc'⟩
   ·simp only at ir
    subst ir;refine ⟨_,rfl,⟨e0,e1,e2,e3,l5⟩,?_⟩
    try first|simp only [ag,List.set]|simp only [aD]
    repeat (first|(refine aB (v:= ?_) (by rfl) ?_ ?_;rotate_left;(rintro W ⟨k0,k1,k2,k3,k4⟩;go_simp;with_reducible rfl);simp only [ag,List.set])|(refine aC (by rfl) ?_;simp only [ag,List.set]))
    have OQ:=zV (v0:= .string yk) (v1:= .int .u64 ys) (v2:= .bool yg) (v3:= .slice ya yl.length yc) nI;have qW:=(qR (w:=w5) qJ (.string yk) (.int .u64 ys) (.bool yg) (.slice ya yl.length yc)).trans sB;obtain ⟨j0,j1,j2,j3⟩:=cK qW;have l6:=af qW;have xA:=HP.out.1.store HP.out.2 Vd s4 (.string yk) (.int .u64 ys) (.bool yg) (.slice ya yl.length yc);refine fQ (by rfl) (fun K hK=> ?_);go_simp;refine hK _ _ ⟨⟨j0,j1,j2,j3,l6⟩,?_⟩;clear hK K
    try first|simp only [ag,List.set]|simp only [aD]
    have bG:=ae (ah OQ (ah qW xA));clear OQ qW xA
    repeat (first|(refine aB (v:= ?_) (by rfl) ?_ ?_;rotate_left;(rintro W ⟨k0,k1,k2,k3,k4⟩;go_simp;with_reducible rfl);simp only [ag,List.set])|(refine aC (by rfl) ?_;simp only [ag,List.set]))
    refine bm ?_
    go_wp2_with fail
    go_meet;exact ⟨w4.heap.size,bE,dH,rfl,fun e=>qJ e.symm,s4,bG.out.2.2,bG.out.2.1,⟨by have h9:=Ke;simp at h9 ⊢;omega,Kf⟩,.inl ⟨⟨⟨yk,ys,yg,yl⟩,.slice ya yl.length yc⟩,ya,yc,rfl,bG.out.1,rfl,hc'⟩⟩
   ·refine ⟨_,rfl,⟨e0,e1,e2,e3,l5⟩,?_⟩
    try first|simp only [ag,List.set]|simp only [aD]
    repeat (first|(refine aB (v:= ?_) (by rfl) ?_ ?_;rotate_left;(rintro W ⟨k0,k1,k2,k3,k4⟩;go_simp;with_reducible rfl);simp only [ag,List.set])|(refine aC (by rfl) ?_;simp only [ag,List.set]))
    have qW:=(qR (w:=w5) qJ (.string ⟨#[]⟩) (.int .u64 0) (.bool false) (.slice none 0 0)).trans sB;obtain ⟨j0,j1,j2,j3⟩:=cK qW;have l6:=af qW;have xA:=HP.out.1.store HP.out.2 Vd s4 (.string ⟨#[]⟩) (.int .u64 0) (.bool false) (.slice none 0 0);refine fQ (by rfl) (fun K hK=> ?_);go_simp;refine hK _ _ ⟨⟨j0,j1,j2,j3,l6⟩,?_⟩;clear hK K
    try first|simp only [ag,List.set]|simp only [aD]
    have bG:=ae (ah qW xA);clear qW xA
    repeat (first|(refine aB (v:= ?_) (by rfl) ?_ ?_;rotate_left;(rintro W ⟨k0,k1,k2,k3,k4⟩;go_simp;with_reducible rfl);simp only [ag,List.set])|(refine aC (by rfl) ?_;simp only [ag,List.set]))
    refine bm ?_
    go_wp2_with fail
    go_meet;exact ⟨w4.heap.size,bE,dH,rfl,fun e=>qJ e.symm,s4,bG.out.2,bG.out.1,⟨by have h9:=Ke;simp at h9 ⊢;omega,Kf⟩,.inr ⟨rfl,hc'⟩⟩
 case rest=>
  obtain ⟨q,bE,dH,rfl,qJ,hqw,hP,jZ,hP4,xp⟩:=hcut;have Vl:¬ (N tb∨(w.heap.size≤tb∧tb<w4.heap.size)):=fun h=>by
   rcases h with h|h
   ·exact (HX.out.2.2.1 _ h).2 (.inl rfl)
   ·have:=H.out.lt (.inl rfl);omega
  have afE:=HX.out.2.2.2.2.1;have IW:=awA.out;have mF:w4.heap.size≤wc.heap.size∧∀ b,w.heap.size≤b→b<w4.heap.size→¬ FM tb ha bE b:=hP4
  have pQ:iE ⟨xk,xs,xg,yd⟩=xk.size+yd.length+16:=rfl;rcases xp with ⟨⟨⟨yk,ys,yg,yl⟩,yv⟩,ya,yc,ir,hq,rfl,hc'⟩|⟨rfl,hc'⟩
  ·simp only at ir
   subst ir;have hyy:iE ⟨yk,ys,yg,yl⟩=yk.size+yl.length+16:=rfl;simp only at hc';generalize hC:costs (ns.map (fun n=>n.x.e))=C at*;generalize Kh:costs (bE.map (fun n=>n.x.e))=C' at*;have ke:=hP.toZ;rw [hC] at ke;have dS:=ke.self;obtain ⟨t9,lt⟩:wc.cell? ⟨tb,9,none⟩=some (.int .i64 (C:Int))∧tb<wc.heap.size:=⟨by simp [World.cell?,dS],af dS⟩
   obtain ⟨q0,q1,q2,q3⟩:=cK hq;have lq:=af hq;have lj:IntKind.i64.wrap ((C:Int)-((yk.size+yl.length+16:Nat):Int))=(C:Int)-((yk.size+yl.length+16:Nat):Int):=aR _ (by omega);have Vm:yk.size≤1000000000000∧yl.length≤1000000000000:=by omega
   have Ae:=ae (fun W=>UO W yk ys yg ya yl.length yc Vm.1 Vm.2);generalize hS:yk.size+yl.length+16=sy at*;have afG:=hyy;have Ki:C'≤2000000000000:=by omega
   have Vn:=mF;obtain ⟨z,hz⟩:∃ z,(C:Int)-(sy:Int)=z:=⟨_,rfl⟩
   replace lj:IntKind.i64.wrap ((C:Int)-(sy:Int))=z:=lj.trans hz;have eX:=ae (ah ke (ah jZ (ah hz (ah hC (ah Kh hc')))));clear ke jZ hz hC Kh hc' hP hq dS hS Vm afE IW pQ hyy
   go_upto_region 6 with fail
   have aQ:=Grow.cells (w:=wc);refine sX (fun V=>Below wc.heap.size wc V) [(0,false),(1,false),(2,false),(3,false),(4,false),(5,true),(6,false),(7,false),(8,false)] 9 (by kernel_rfl) (by kernel_rfl) (fun c a d v w h=>by cases d<;>exact h) (by (repeat (first|exact Below.refl _ _|assumption|refine Below.drew ?_|refine cp ?_|refine Below.setCell ?_ (by first|omega|(simp<;>omega)) _|refine Below.alloc ?_ (by first|omega|(simp<;>omega)) _))) ?_;simp only [aP,nth]
   repeat (first|(refine aB (v:= ?_) (by rfl) ?_ ?_;rotate_left;(rintro W hW;go_simp;with_reducible rfl);simp only [ag,List.set])|(refine aC (by rfl) ?_;simp only [ag,List.set]))
   refine bj (by rfl) (by go_simp) (Ae.out wc.drew) ?_;rintro e' w7 ⟨rfl,cF⟩;have hgx:=(Grow.drew wc).trans cF;refine ⟨_,rfl,hgx,?_⟩
   try first|simp only [ag,List.set]|simp only [aD]
   repeat (first|(refine aB (v:= ?_) (by rfl) ?_ ?_;rotate_left;(rintro W hW;go_simp;with_reducible rfl);simp only [ag,List.set])|(refine aC (by rfl) ?_;simp only [ag,List.set]))
   refine bm (sY (by rfl) (fun K hK=> ?_));have ke:=eX.out.1.grow hgx;have dS:=ke.self;have f9:∀ i,w7.frozen? ⟨tb,i,none⟩=false:=fun i=>by simp [World.frozen?,dS]
   have Kj:w7.cell? ⟨tb,9,none⟩=some (.int .i64 (C:Int)):=by simp [World.cell?,dS]
   have Kk:=af dS;go_simp;refine hK _ _ ?_;clear hK K
   try simp only [Act.put,List.setIfInBounds_toArray,List.set_cons_zero,List.set_cons_succ]
   have Af:=ke.size Vl z;have afH:=(aK w7 ⟨tb,9,none⟩ (.int .i64 z) w.heap.size (fun e=>by have e':w.heap.size=tb:=e;have:=H.out.lt (.inl rfl:FM tb ha ns tb);omega)).trans (hgx.heap eX.out.2.1);have awC:w4.heap.size≤(w7.setCell ⟨tb,9,none⟩ (.int .i64 z)).heap.size:=by have h1:=hgx.size;have h2:=Vn.1;simp;omega
   have bI:=ae (ah Af afH);generalize w7.setCell ⟨tb,9,none⟩ (.int .i64 z)=wz at*;clear ke dS f9 Kj Kk Af afH aQ t9 lt q0 q1 q2 q3 lq cF hgx;have Vo:Hid (z+((xk.size+yd.length+16:Nat):Int)=(C':Int)):=ae (by
    have h1:=eX.out.2.2.1;have h2:=eX.out.2.2.2.2.2;have h3:iE ⟨yk,ys,yg,yl⟩=sy:=afG;have h4:iE ⟨xk,xs,xg,yd⟩=xk.size+yd.length+16:=rfl;omega)
   have Vp:Hid (C'≤2000000000000):=ae Ki;have Vq:=ae eX.out.2.2.2.2.1;have Kl:=ae (ah awC Vn.2);clear eX Ae afG Ki Vn;have dS:=bI.out.1.self;obtain ⟨t9,lt⟩:wz.cell? ⟨tb,9,none⟩=some (.int .i64 z)∧tb<wz.heap.size:=⟨by simp [World.cell?,dS],af dS⟩
   obtain ⟨q0,q1,q2,q3⟩:=cK bI.out.2;have lq:=af bI.out.2;have gH:=HX.out.2.2.2.2.2;have dX:=Hy.out.2;have Ae:=ae (fun W=>UO W xk xs xg va yd.length vc (by omega) (by omega));obtain ⟨sx,xB⟩:∃ sx,xk.size+yd.length+16=sx:=⟨_,rfl⟩
   rw [xB] at Ae;have lC:IntKind.i64.wrap (z+(sx:Int))=(C':Int):=by
    have h1:z+(sx:Int)=(C':Int):=by rw [←xB];exact Vo.out
    rw [h1];have h2:=Vp.out;exact aR _ (by omega)
   clear dS gH dX xB
   go_upto_region 7 with fail
   have aQ:=Grow.cells (w:=wz);refine sX (fun V=>Below wz.heap.size wz V) [(0,false),(1,false),(2,false),(3,false),(4,false),(5,true),(6,false),(7,false),(8,false)] 9 (by kernel_rfl) (by kernel_rfl) (fun c a d v w h=>by cases d<;>exact h) (by (repeat (first|exact Below.refl _ _|assumption|refine Below.drew ?_|refine cp ?_|refine Below.setCell ?_ (by first|omega|(simp<;>omega)) _|refine Below.alloc ?_ (by first|omega|(simp<;>omega)) _))) ?_;simp only [aP,nth]
   repeat (first|(refine aB (v:= ?_) (by rfl) ?_ ?_;rotate_left;(rintro W hW;go_simp;with_reducible rfl);simp only [ag,List.set])|(refine aC (by rfl) ?_;simp only [ag,List.set]))
   refine bj (by rfl) (by go_simp) (Ae.out wz.drew) ?_;rintro e' w8 ⟨rfl,cx⟩;have hgx:=(Grow.drew wz).trans cx;refine ⟨_,rfl,hgx,?_⟩
   try first|simp only [ag,List.set]|simp only [aD]
   repeat (first|(refine aB (v:= ?_) (by rfl) ?_ ?_;rotate_left;(rintro W hW;go_simp;with_reducible rfl);simp only [ag,List.set])|(refine aC (by rfl) ?_;simp only [ag,List.set]))
   refine bm (sY (by rfl) (fun K hK=> ?_));have ke:=bI.out.1.grow hgx;have dS:=ke.self;have f9:∀ i,w8.frozen? ⟨tb,i,none⟩=false:=fun i=>by simp [World.frozen?,dS]
   have Kj:w8.cell? ⟨tb,9,none⟩=some (.int .i64 z):=by simp [World.cell?,dS]
   have Kk:=af dS;go_simp;refine hK _ _ ?_;clear hK K
   try simp only [Act.put,List.setIfInBounds_toArray,List.set_cons_zero,List.set_cons_succ]
   have Af:=ke.size Vl (C':Int);have pR:Hid (w4.heap.size≤(w8.setCell ⟨tb,9,none⟩ (.int .i64 (C':Int))).heap.size):=ae (by have h1:=hgx.size;have h2:=Kl.out.1;simp;omega);have bG:=ae Af;generalize w8.setCell ⟨tb,9,none⟩ (.int .i64 (C':Int))=wf at*;clear ke dS f9 Kj Kk Af aQ t9 lt q0 q1 q2 q3 lq cx hgx lC;go_wp2;refine bodyPost_ret (results_none rfl _ _ _) rfl ?_;have hE:=bG.out;have hdr:Iw N wf dv ds:=H.out.draws.kp ⟨hE.sep.size,fun b hb hl=>hE.sep.out b hl (HX.out.2.2.1 b hb).2⟩;refine ⟨rfl,bE,dH,?_,hE.list,hE.sep⟩;have Vr:∀ b,(N b∨(w.heap.size≤b∧b<w4.heap.size))→(N b∨(w.heap.size≤b∧b<wf.heap.size∧¬ FM tb ha bE b)):=fun b hb=>by
    rcases hb with hb|⟨hb1,hb2⟩
    ·exact .inl hb
    ·have s1:=pR.out
     refine .inr ⟨hb1,by omega,fun hf=> ?_⟩;exact Kl.out.2 b hb1 hb2 hf
   exact ⟨by rw [Vq.out];exact hE.self,hE.skip.mono Vr,hE.aM,hdr.mono (fun b hb=> .inl hb)⟩
  ·simp only at hc'
   generalize hC:costs (ns.map (fun n=>n.x.e))=C at*;generalize Kh:costs (bE.map (fun n=>n.x.e))=C' at*;have ke:=hP.toZ;rw [hC] at ke;have Ki:C'≤2000000000000:=by omega
   obtain ⟨z,hz⟩:∃ z:Int,(C:Int)=z:=⟨_,rfl⟩
   have Vo:Hid (z+((xk.size+yd.length+16:Nat):Int)=(C':Int)):=ae (by omega);rw [hz] at ke;have bI:=ae (ah ke jZ);have Vp:Hid (C'≤2000000000000):=ae Ki;have Vq:=ae Kh;have Kl:=ae mF;clear ke jZ hz hC Kh hc' hP afE IW pQ mF Ki;have dS:=bI.out.1.self;obtain ⟨t9,lt⟩:wc.cell? ⟨tb,9,none⟩=some (.int .i64 z)∧tb<wc.heap.size:=⟨by simp [World.cell?,dS],af dS⟩
   obtain ⟨q0,q1,q2,q3⟩:=cK bI.out.2;have lq:=af bI.out.2;have gH:=HX.out.2.2.2.2.2;have dX:=Hy.out.2;have Ae:=ae (fun W=>UO W xk xs xg va yd.length vc (by omega) (by omega));obtain ⟨sx,xB⟩:∃ sx,xk.size+yd.length+16=sx:=⟨_,rfl⟩
   rw [xB] at Ae;have lC:IntKind.i64.wrap (z+(sx:Int))=(C':Int):=by
    have h1:z+(sx:Int)=(C':Int):=by rw [←xB];exact Vo.out
    rw [h1];have h2:=Vp.out;exact aR _ (by omega)
   clear dS gH dX xB
   go_upto_region 7 with fail
   have aQ:=Grow.cells (w:=wc);refine sX (fun V=>Below wc.heap.size wc V) [(0,false),(1,false),(2,false),(3,false),(4,false),(5,true),(6,false),(7,false),(8,false)] 9 (by kernel_rfl) (by kernel_rfl) (fun c a d v w h=>by cases d<;>exact h) (by (repeat (first|exact Below.refl _ _|assumption|refine Below.drew ?_|refine cp ?_|refine Below.setCell ?_ (by first|omega|(simp<;>omega)) _|refine Below.alloc ?_ (by first|omega|(simp<;>omega)) _))) ?_;simp only [aP,nth]
   repeat (first|(refine aB (v:= ?_) (by rfl) ?_ ?_;rotate_left;(rintro W hW;go_simp;with_reducible rfl);simp only [ag,List.set])|(refine aC (by rfl) ?_;simp only [ag,List.set]))
   refine bj (by rfl) (by go_simp) (Ae.out wc.drew) ?_;rintro e' w8 ⟨rfl,cx⟩;have hgx:=(Grow.drew wc).trans cx;refine ⟨_,rfl,hgx,?_⟩
   try first|simp only [ag,List.set]|simp only [aD]
   repeat (first|(refine aB (v:= ?_) (by rfl) ?_ ?_;rotate_left;(rintro W hW;go_simp;with_reducible rfl);simp only [ag,List.set])|(refine aC (by rfl) ?_;simp only [ag,List.set]))
   refine bm (sY (by rfl) (fun K hK=> ?_));have ke:=bI.out.1.grow hgx;have dS:=ke.self;have f9:∀ i,w8.frozen? ⟨tb,i,none⟩=false:=fun i=>by simp [World.frozen?,dS]
   have Kj:w8.cell? ⟨tb,9,none⟩=some (.int .i64 z):=by simp [World.cell?,dS]
   have Kk:=af dS;go_simp;refine hK _ _ ?_;clear hK K
   try simp only [Act.put,List.setIfInBounds_toArray,List.set_cons_zero,List.set_cons_succ]
   have Af:=ke.size Vl (C':Int);have pR:Hid (w4.heap.size≤(w8.setCell ⟨tb,9,none⟩ (.int .i64 (C':Int))).heap.size):=ae (by have h1:=hgx.size;have h2:=Kl.out.1;simp;omega);have bG:=ae Af;generalize w8.setCell ⟨tb,9,none⟩ (.int .i64 (C':Int))=wf at*;clear ke dS f9 Kj Kk Af aQ t9 lt q0 q1 q2 q3 lq cx hgx lC;go_wp2;refine bodyPost_ret (results_none rfl _ _ _) rfl ?_;have hE:=bG.out;have hdr:Iw N wf dv ds:=H.out.draws.kp ⟨hE.sep.size,fun b hb hl=>hE.sep.out b hl (HX.out.2.2.1 b hb).2⟩;refine ⟨rfl,bE,dH,?_,hE.list,hE.sep⟩;have Vr:∀ b,(N b∨(w.heap.size≤b∧b<w4.heap.size))→(N b∨(w.heap.size≤b∧b<wf.heap.size∧¬ FM tb ha bE b)):=fun b hb=>by
    rcases hb with hb|⟨hb1,hb2⟩
    ·exact .inl hb
    ·have s1:=pR.out
     refine .inr ⟨hb1,by omega,fun hf=> ?_⟩;exact Kl.out.2 b hb1 hb2 hf
   exact ⟨by rw [Vq.out];exact hE.self,hE.skip.mono Vr,hE.aM,hdr.mono (fun b hb=> .inl hb)⟩
end Go.Proofs.YtoolkdapflaeeaaGreatDoor
namespace Go.Proofs.YtoolkdapflaeeaaGreatDoor
open Go.RowKit Go.Gl Go.aH Mn
theorem awD (w:World):(Instr.makeSlice 174 (.int .i64 12) (.int .i64 12)).run Tryz.prog w= .ok (.slice (some ⟨w.heap.size,0,none⟩) 12 12) (w.alloc (.cells #[.pointer none,.pointer none,.pointer none,.pointer none,.pointer none,.pointer none,.pointer none,.pointer none,.pointer none,.pointer none,.pointer none,.pointer none] 287)):=aeH (k:=12) (ay _) w
theorem afI {N:Nat→Prop} {w:World} {v:Value} {ds:List Int} (h:Iw N w v ds):
  Calls Tryz.prog 50 #[v] w fun e w'=>∃ tb ha dv,e= .returned (au tb)∧cX (fun b=>w.heap.size≤b∧b<w'.heap.size∧¬ FM tb ha [] b) w' tb ha [] 0 dv ds∧Grow w w'∧w.heap.size≤tb∧w.heap.size≤ha∧Go.Gl.Row1 3 w.heap.size w' dv (ds.map (fun x=> .int .i64 x)):=by
 have hlen:ds.length≤1000000000:=by obtain ⟨_,_,_,h,_⟩:=h;exact h
 have fL:=ae (aeE h);obtain ⟨va,vc,rfl,_⟩:=h;go_enter Tryz.func50,Tryz.ntmps50
 go_wp2_with fail
 (with_reducible refine fL.out.mono ?_);rintro e w1 ⟨dv,rfl,Vs,hg1⟩;have OT:=Vs;obtain ⟨da,dc,rfl⟩:=Vs.slice;rw [List.length_map] at OT ⊢;have afu:=awD
 go_upto_region 2 with fail
 have ai:=Grow.alloc w1 (.cells #[.string ⟨#[]⟩,.int .u64 0,.bool false,.slice none 0 0,.slice none 0 0,.nilFunc,.int .i64 0,.int .i64 0,.slice da ds.length dc,.int .i64 0] 181);have hb:=aw w1 (.cells #[.string ⟨#[]⟩,.int .u64 0,.bool false,.slice none 0 0,.slice none 0 0,.nilFunc,.int .i64 0,.int .i64 0,.slice da ds.length dc,.int .i64 0] 181);have s1:=hg1.size;have s2:(w1.alloc (.cells #[.string ⟨#[]⟩,.int .u64 0,.bool false,.slice none 0 0,.slice none 0 0,.nilFunc,.int .i64 0,.int .i64 0,.slice da ds.length dc,.int .i64 0] 181)).heap.size=w1.heap.size+1:=World.size_alloc _ _;generalize w1.alloc (.cells #[.string ⟨#[]⟩,.int .u64 0,.bool false,.slice none 0 0,.slice none 0 0,.nilFunc,.int .i64 0,.int .i64 0,.slice da ds.length dc,.int .i64 0] 181)=w2 at*;generalize dp:w1.heap.size=tb at*;have hgb:=Grow.alloc w2 (.cells #[.pointer none,.pointer none,.pointer none,.pointer none,.pointer none,.pointer none,.pointer none,.pointer none,.pointer none,.pointer none,.pointer none,.pointer none] 287);have ha2:=aw w2 (.cells #[.pointer none,.pointer none,.pointer none,.pointer none,.pointer none,.pointer none,.pointer none,.pointer none,.pointer none,.pointer none,.pointer none,.pointer none] 287);have hb3:=hgb.heap hb;rw [s2] at ha2;have oZ:=ae s2;have e4:w2.heap.size=tb+1:=s2;have fw:=ae dp;clear s2 dp;obtain ⟨w3,hw3⟩:∃ w3,w2.alloc (.cells #[.pointer none,.pointer none,.pointer none,.pointer none,.pointer none,.pointer none,.pointer none,.pointer none,.pointer none,.pointer none,.pointer none,.pointer none] 287)=w3:=⟨_,rfl⟩
 rw [hw3] at hgb ha2 hb3;have h4:=Go.Gl.aI hb3 4 (.slice (some ⟨tb+1,0,none⟩) 12 12);simp only [List.setIfInBounds_toArray,List.set_cons_zero,List.set_cons_succ] at h4;have h5:=Go.Gl.aI h4 5 (.func (.func 93) #[] #[]);simp only [List.setIfInBounds_toArray,List.set_cons_zero,List.set_cons_succ] at h5;have hle:w.heap.size≤tb:=by omega
 have hgr:Grow w ((w3.setCell ⟨tb,4,none⟩ (.slice (some ⟨tb+1,0,none⟩) 12 12)).setCell ⟨tb,5,none⟩ (.func (.func 93) #[] #[])):=((hg1.trans (ai.trans hgb)).setCell (p:=⟨tb,4,none⟩) hle _).setCell (p:=⟨tb,5,none⟩) hle _;have tJ:((w3.setCell ⟨tb,4,none⟩ (.slice (some ⟨tb+1,0,none⟩) 12 12)).setCell ⟨tb,5,none⟩ (.func (.func 93) #[] #[])).heap[tb+1]?=some (.cells #[.pointer none,.pointer none,.pointer none,.pointer none,.pointer none,.pointer none,.pointer none,.pointer none,.pointer none,.pointer none,.pointer none,.pointer none] 287 (0,0)):=by
  rw [aK _ _ _ _ (by simp),aK _ _ _ _ (by simp)];exact ha2
 have gM:Go.Gl.Row1 3 w.heap.size ((w3.setCell ⟨tb,4,none⟩ (.slice (some ⟨tb+1,0,none⟩) 12 12)).setCell ⟨tb,5,none⟩ (.func (.func 93) #[] #[])) (.slice da ds.length dc) (ds.map (fun x=> .int .i64 x)):=by
  refine ((OT.grow (ai.trans hgb))).keep (fun g hgb'=> ?_);have h9:=(OT.lt hgb').2;rw [fw.out] at h9;have hne:g≠tb:=by omega
  rw [aK _ _ _ _ hne,aK _ _ _ _ hne]
 have Ja:=af hb3;obtain ⟨c4,c5⟩:w3.cell? ⟨tb,4,none⟩=some (.slice none 0 0)∧w3.cell? ⟨tb,5,none⟩=some .nilFunc:=by simp [World.cell?,hb3]
 have f3:∀ i,w3.frozen? ⟨tb,i,none⟩=false:=fun i=>by simp [World.frozen?,hb3]
 have bG:=ae (ah h5 (ah hgr (ah tJ gM)));clear h4 h5 hgr tJ gM hb3 ha2 ai hgb hb Vs OT fL;have rQ:∀ W,(store ⟨tb,5,none⟩ (.func (.func 93) #[] #[])).run Tryz.prog W=stored Tryz.prog W ⟨tb,5,none⟩ (.func (.func 93) #[] #[]) .plain:=fun W=>run_store Tryz.prog W ⟨tb,5,none⟩ (.func (.func 93) #[] #[]) .plain rfl
 go_wp2;go_ret;have hE:=bG.out;have afJ:(Value.slice (some ⟨tb+1,0,none⟩) 12 12)= .slice (some ⟨(bC tb (tb+1)).arr,0,none⟩) 12 12:=rfl;refine ⟨tb,tb+1,.slice da ds.length dc,rfl,⟨hE.1,⟨fun n hn=>(by cases hn),⟨hE.2.2.1,trivial⟩,fun n hn=>(by cases hn),List.nodup_nil,by simp,fun n hn=>(by cases hn),cQ.nil⟩,bk _,?_⟩,hE.2.1,hle,by omega,hE.2.2.2⟩;refine JR hE.2.2.2 hlen (fun g hg=> ?_);obtain ⟨h1,h2⟩:=hE.2.2.2.lt hg;refine ⟨h1,h2,fun hf=> ?_⟩;obtain ⟨cur,hc⟩:=hE.2.2.2.block hg;rcases hf with hf|hf|⟨n,hn,_⟩
 ·rw [hf,hE.1] at hc
  exact absurd (cA (bB hc)).2.1 (by decide)
 ·rw [hf,hE.2.2.1] at hc
  exact absurd (cA (bB hc)).2.1 (by decide)
 ·cases hn
theorem awE {N:Nat→Prop} {w:World} {v:Value} {ds:List Int} (h:Iw N w v ds):
  Calls Tryz.prog 50 #[v] w fun e w'=>∃ tb ha dv,e= .returned (au tb)∧cX (fun b=>w.heap.size≤b∧b<w'.heap.size∧¬ FM tb ha [] b) w' tb ha [] 0 dv ds∧Grow w w'∧w.heap.size≤tb∧w.heap.size≤ha:=by
 refine (afI h).mono ?_;rintro e w' ⟨tb,ha,dv,h1,h2,h3,h4,h5,_⟩;exact ⟨tb,ha,dv,h1,h2,h3,h4,h5⟩
end Go.Proofs.YtoolkdapflaeeaaGreatDoor
namespace Go.Proofs.YtoolkdapflaeeaaGreatDoor
open Go.RowKit Go.Gl
abbrev W0:Fence:=Fence.wide
def Fs {α:Type} (P:Program) (f:FuncId) (lb:Array Value) (R:α→Array Value→World→Prop) (N:Nat→Prop) (xs:List α) (w:World):Prop:=
 ∀ (l:Nat) (J Jx:List α→World→Prop) (W:World),Kp N w W→OwnFrom W.heap.size J→OwnFrom W.heap.size Jx→
  (∀ pre x rest v W1,xs=pre++x::rest→J pre W1→R x v W1→YieldAt W0 3 P l v W1 fun e W'=>
   (e= .returned (.bool true)∧J (pre++ [x]) W'∧Kp N W1 W')∨(e= .returned (.bool false)∧Jx (pre++ [x]) W'))→
  J [] W→
  CallsIn W0 3 P f (#[.func (.yield l) #[] #[]]++lb) W fun e W'=>(∃ v,e= .returned v)∧(J xs W'∨∃ pre x rest,xs=pre++x::rest∧Jx (pre++ [x]) W')
theorem Kp.putObj {N:Nat→Prop} {W:World} {l:Nat} (o:Obj) (hl:¬ N l):Kp N W (W.putObj l o):=
 Kp.grown (grownBy_putObj' W l o) (fun b e=>by cases e;exact hl)
def awF {α:Type} (B:Nat) (N:Nat→Prop) (I:List α→World→Prop) (Ix:Code→List α→World→Prop) (xs:List α) (W:World):Exit→Act→World→Prop:=ownPostG B (Kp N) I Ix xs W
theorem afK {α:Type} {P:Program} {g:Operand} {ps:Array Tmp} {assign body:Code} {Q:Exit→Act→World→Prop} {a:Act} {w:World} {gf:Nat} {lb:Array Value}
  (hg:a.eval g= .func (.func gf) #[] lb) (eg:∀ args w,(callFunc gf args).run P w= .ok (.enter gf args) w)
  {R:α→Array Value→World→Prop} {N:Nat→Prop} {xs:List α} {w0:World} (hs:Fs P gf lb R N xs w0) (hk:Kp N w0 w) (hN:∀ b,N b→b<w.heap.size)
  (eh:∀ x v W,R x v W→v.size=ps.size) (hR:∀ x v,OwnFrom w.heap.size (fun (_:Unit) W=>R x v W))
  (I:List α→World→Prop) (Ix:Code→List α→World→Prop) (hI:OwnFrom w.heap.size I) (CR:∀ c,OwnFrom w.heap.size (Ix c)) (h0:I [] w)
  (awG:∀ (l:Nat) (pre:List α) (x:α) (rest:List α) (v:Array Value) (W:World),xs=pre++x::rest→w.heap.size≤l→w.heap.size≤W.heap.size→I pre W→R x v W→
   assign.wpIn (W0.inRound l) 3 P (Exit.then (fun a' W'=>Grow W W'∧∀ W2:World,W'.heap.size≤W2.heap.size→(∀ (b:Nat) arr t f,W'.heap[b]?=some (Obj.cells arr t f)→W2.heap[b]?=some (Obj.cells arr t f))→I pre W2→R x v W2→
    body.wpIn (W0.inRound l) 3 P (awF w.heap.size N I Ix (pre++ [x]) W2) a' W2) (fun _ _ _=>False)) {tmps:=(ps.zip v).foldl (fun t (p,v)=>t.setIfInBounds p v) a.tmps,defers:= []} W)
  (hdone:∀ (D:Nat) (W:World),w.heap.size≤D→I xs W→W.heap[D]?=some (.deferred (some []))→Q .normal {a with defers:={target:= .collected D,args:=#[]}::a.defers} W)
  (awH:∀ (D:Nat) (c:Code) (pre:List α) (x:α) (rest:List α) (W:World),w.heap.size≤D→xs=pre++x::rest→Ix c (pre++ [x]) W→W.heap[D]?=some (.deferred (some []))→c.wp P Q {a with defers:={target:= .collected D,args:=#[]}::a.defers} W):
  (Code.rangeFunc g ps assign body).wp P Q a w:=by
 refine (wpIn_wide (n:=4)).1 ?_;refine wpIn_rangeFunc ?_;intro fn hfn;obtain ⟨rec,oH⟩:∃ rec:LoopState→Option Code→Loop,rec=fun st pe=>{state:=st,pending:=pe,fn,tmps:=a.tmps,params:=ps,assign,body,defers:=w.heap.size}:=⟨_,rfl⟩
 obtain ⟨W1,hW1⟩:∃ W1,(w.alloc (.deferred (some []))).alloc (.loop (rec .ready none))=W1:=⟨_,rfl⟩
 have hL1:W1.heap[w.heap.size+1]?=some (.loop (rec .ready none)):=by
  rw [←hW1];have:=World.alloc_heap_new (w.alloc (.deferred (some []))) (.loop (rec .ready none));rwa [World.size_alloc] at this
 have OU:W1.heap[w.heap.size]?=some (.deferred (some [])):=by
  rw [←hW1];exact (Below.heap_alloc _ _ _ (by simp)).trans (World.alloc_heap_new w _)
 have hI1:I [] W1:=by rw [←hW1];exact hI.alloc _ (hI.alloc _ h0)
 have hz1:W1.heap.size=w.heap.size+2:=by rw [←hW1];simp
 have hb1:Kp N w0 W1:=by
  rw [←hW1];exact hk.trans (.bF ((Grow.alloc w _).trans ((Grow.alloc _ _))))
 have hNl:∀ b,w.heap.size≤b→¬ N b:=fun b hb hn=>by have:=hN b hn;omega
 refine ⟨w.heap.size+1,[{target:= .collected w.heap.size,args:=#[]}],W1,{target:= .fn (.func gf) lb,args:=#[.func (.yield (w.heap.size+1)) #[] #[]]},W1,gf,
  #[.func (.yield (w.heap.size+1)) #[] #[]]++lb,W1,?_,?_,?_,?_,(fun h=>by cases h),?_⟩
 ·rw [←hW1,oH];exact run_enterLoop_outer _ _ _ _ _
 ·simp only [resolve,hg]
  simp [go_sem]
 ·intro f' _;trivial
 ·simp [invoke,go_sem,eg]
 ·have dV:∀ {A B:World} {row:Option Nat},(∀ r,row=some r→W1.heap.size≤r∧∃ o:Obj,A.heap[r]?=some o∧o.isCells=false)→(∀ r,row=some r→w.heap.size≤r∧∃ o:Obj,A.heap[r]?=some o∧o.isCells=false):=
   fun hr r e=>⟨by have:=(hr r e).1;omega,(hr r e).2⟩
  have OV:∀ {A B:World} {row:Option Nat} (b:Nat) (o:Obj),b<W1.heap.size→A.grownBy B row→(∀ r,row=some r→W1.heap.size≤r∧∃ o:Obj,A.heap[r]?=some o∧o.isCells=false)→A.heap[b]?=some o→B.heap[b]?=some o:=
   fun {A B row} b o hb hg hr ho=>by rw [hg.block b (af ho) (fun e=>by have:=(hr b e.symm).1;omega)];exact ho
  refine (hs (w.heap.size+1)
   (fun pre W=>I pre W∧W.heap[w.heap.size+1]?=some (.loop (rec .ready none))∧W.heap[w.heap.size]?=some (.deferred (some [])))
   (fun pre W=>∃ c,Ix c pre W∧W.heap[w.heap.size+1]?=some (.loop (rec .done (some c)))∧W.heap[w.heap.size]?=some (.deferred (some [])))
   W1 hb1
   (fun s A B row hs eA hr=>⟨hI s A B row hs.1 eA (dV (B:=B) hr),OV _ _ (by omega) eA hr hs.2.1,OV _ _ (by omega) eA hr hs.2.2⟩)
   (fun s A B row hs eA hr=>by
    obtain ⟨c,hc,hl,hk⟩:=hs;exact ⟨c,CR c s A B row hc eA (dV (B:=B) hr),OV _ _ (by omega) eA hr hl,OV _ _ (by omega) eA hr hk⟩)
   ?_ ⟨hI1,hL1,OU⟩).mono ?_
  ·rintro pre x rest v W eM ⟨hi,hl,CS⟩ CT
   have hlt:w.heap.size+1<W.heap.size:=af hl;have hy:=run_yield (P:=P) (args:=v) hl (by rw [oH];exact eh x v W CT);rw [oH] at hy;refine ⟨fn,_,assign,body,hy,roundIn_of_wpIn hfn (wpIn_mono (awG (w.heap.size+1) pre x rest v W eM (by omega) (by omega) hi CT) ?_)⟩;clear hy;rintro e0 a' Wa wP;cases e0<;>try exact wP.elim
   obtain ⟨ai,awK⟩:=wP;have hia:=hI pre W Wa none hi ⟨ai.os,ai.tape,ai.output,ai.size,fun b hb _=>ai.block b hb⟩ (fun r e=>by cases e);have hRa:=hR x v () W Wa none CT ⟨ai.os,ai.tape,ai.output,ai.size,fun b hb _=>ai.block b hb⟩ (fun r e=>by cases e);replace hl:=ai.heap hl;replace CS:=ai.heap CS;have Fo:Kp N W Wa:= .bF ai;clear hi CT hlt;have hlt:w.heap.size+1<Wa.heap.size:=af hl;refine ⟨_,run_beginRound hl (by rw [oH]),?_⟩;have hl2:(Wa.putObj (w.heap.size+1) (.loop {rec .ready none with state:= .busy})).heap[w.heap.size+1]?=some (.loop {rec .ready none with state:= .busy}):=World.putObj_heap_same hlt;have hk2:(Wa.putObj (w.heap.size+1) (.loop {rec .ready none with state:= .busy})).heap[w.heap.size]?=some (.deferred (some [])):=(World.putObj_heap_other (by omega)).trans CS;have hw2:Kp N W (Wa.putObj (w.heap.size+1) (.loop {rec .ready none with state:= .busy})):=Fo.trans (Kp.putObj _ (hNl _ (by omega)));have adr:∀ (b:Nat) arr t f,Wa.heap[b]?=some (Obj.cells arr t f)→(Wa.putObj (w.heap.size+1) (.loop {rec .ready none with state:= .busy})).heap[b]?=some (Obj.cells arr t f):=fun b arr t f hb=>
    (World.putObj_heap_other (fun e=>by subst e;rw [hl] at hb;cases hb)).trans hb
   have OW:Wa.heap.size≤(Wa.putObj (w.heap.size+1) (.loop {rec .ready none with state:= .busy})).heap.size:=(grownBy_putObj' Wa _ _).size;refine wpIn_mono (awK _ OW adr (hI.putObj _ hia (by omega) hl rfl) ((hR x v).putObj (s:=()) _ hRa (by omega) hl rfl)) ?_;have fin:∀ (jump:Option Code) (W3:World),KeepsFrom w.heap.size (Wa.putObj (w.heap.size+1) (.loop {rec .ready none with state:= .busy})) W3→
     (Instr.endRound (w.heap.size+1) jump).run P W3= .ok (.bool jump.isNone) (W3.putObj (w.heap.size+1) (.loop (rec (if jump.isNone then .ready else .done) jump)))∧
     W3.heap[w.heap.size+1]?=some (.loop {rec .ready none with state:= .busy})∧
     (W3.putObj (w.heap.size+1) (.loop (rec (if jump.isNone then .ready else .done) jump))).heap[w.heap.size+1]?=some (.loop (rec (if jump.isNone then .ready else .done) jump))∧
     (W3.putObj (w.heap.size+1) (.loop (rec (if jump.isNone then .ready else .done) jump))).heap[w.heap.size]?=some (.deferred (some [])):=fun jump W3 hk3=>by
    have nP:=hk3.same _ _ (by omega) hl2 rfl;have:=run_endRound (P:=P) jump nP;rw [oH] at this ⊢;exact ⟨this,by rw [oH] at nP;exact nP,World.putObj_heap_same (af nP),(World.putObj_heap_other (by omega)).trans (hk3.same _ _ (ay _) hk2 rfl)⟩
   rintro e a3 W3 hp;cases e with
   |normal=>
    obtain ⟨hk3,awN,CU⟩:=hp;obtain ⟨hr,nP,hl4,hk4⟩:=fin none W3 hk3;exact ⟨_,_,hr,.inl ⟨rfl,⟨hI.putObj _ CU (by omega) nP rfl,hl4,hk4⟩,(hw2.trans awN).trans (Kp.putObj _ (hNl _ (by omega)))⟩⟩
   |ret=>
    obtain ⟨hk3,CU⟩:=hp;obtain ⟨hr,nP,hl4,hk4⟩:=fin (some .ret) W3 hk3;exact ⟨_,_,hr,.inr ⟨rfl,.ret,(CR _).putObj _ CU (by omega) nP rfl,hl4,hk4⟩⟩
   |exit id=>
    obtain ⟨hk3,CU⟩:=hp;obtain ⟨hr,nP,hl4,hk4⟩:=fin (some (.exit id)) W3 hk3;exact ⟨_,_,hr,.inr ⟨rfl,.exit id,(CR _).putObj _ CU (by omega) nP rfl,hl4,hk4⟩⟩
   |goto t=>
    obtain ⟨hk3,CU⟩:=hp;obtain ⟨hr,nP,hl4,hk4⟩:=fin (some (.goto t)) W3 hk3;exact ⟨_,_,hr,.inr ⟨rfl,.goto t,(CR _).putObj _ CU (by omega) nP rfl,hl4,hk4⟩⟩
   |panic ch=>exact hp.elim
   |outgrown=>exact hp.elim
  ·rintro e W2 ⟨⟨v,rfl⟩,(⟨hi,hl,CS⟩|⟨pre,x,rest,eM,c,hi,hl,CS⟩)⟩
   ·exact ⟨none,_,by have:=run_endLoop (P:=P) hl (by rw [oH];simp);rw [oH] at this;exact this,hdone _ _ (ay _) (hI.putObj _ hi (by omega) hl rfl) ((World.putObj_heap_other (by omega)).trans CS)⟩
   ·exact ⟨some c,_,by have:=run_endLoop (P:=P) hl (by rw [oH];simp);rw [oH] at this;exact this,wpIn_wide.2 (awH _ c pre x rest _ (ay _) eM ((CR c).putObj _ hi (by omega) hl rfl) ((World.putObj_heap_other (by omega)).trans CS))⟩
end Go.Proofs.YtoolkdapflaeeaaGreatDoor
namespace Go.Proofs.YtoolkdapflaeeaaGreatDoor
open Go.RowKit Go.Gl Go.aH Mn
attribute [local go_sem] Oper.semAt_some
def Rt (N:Nat→Prop) (y:Ev) (v:Array Value) (W:World):Prop:=v=#[.agg (bQ y)]∧kG N W y
theorem Vt {m:Nat} (m':Nat) {P:Program} {l:Nat} {f:FuncId} {tmps:Array Value} {assign body:Code} {w:World} {R:Ending→World→Prop} (h:RoundIn W0 m P l f tmps assign body w R):RoundIn W0 m' P l f tmps assign body w R:=
 ⟨h.1,fun c cs _=>h.2 c cs (fun d hd=>by cases hd)⟩
theorem Km {α:Type} {B:Nat} {J:α→World→Prop} {s:α} {W W':World} (hJ:OwnFrom B J) (h:J s W) (hg:Grow W W'):J s W':=
 hJ s W W' none h ⟨hg.os,hg.tape,hg.output,hg.size,fun b hb _=>hg.block b hb⟩ (fun r e=>by cases e)
theorem afM {N:Nat→Prop} {w:World} {tb ha:Nat} {ns:List Nd} {aM:Nat} {dv:Value} {ds:List Int} (h:cX N w tb ha ns aM dv ds) (x:Ev) {xa:Option Addr} {xl xc:Nat} (dm:x.v= .slice xa xl xc) {Bl Bx:Nat} {tl:TypeId}
  (hl:w.heap[Bl]?=some (.cells #[au tb] tl (0,0))) (hx:w.heap[Bx]?=some (.cells (bQ x) 60 (0,0))):
  Fs Tryz.prog 216 #[.pointer (some ⟨Bl,0,none⟩),.pointer (some ⟨Bx,0,none⟩)] (Rt N) (fun b=>N b∨FM tb ha ns b∨b=Bl∨b=Bx) ((fk x.e ns).map Nd.x) w:=by
 intro l J Jx W hW hJ hJx hY h0;obtain ⟨⟨xk,xs,xg,xd⟩,xv⟩:=x;simp only at dm;subst dm;have Vu:∀ W',Kp (fun b=>N b∨FM tb ha ns b∨b=Bl∨b=Bx) w W'→cX N W' tb ha ns aM dv ds:=fun W' hk=>h.keep (fun b hb=>hk.same b (.inr (.inl hb)) (h.lt hb)) (hk.mono (fun b hb=> .inl hb))
 have hM:=Vu W hW;have uh:W.heap[Bl]?=some (.cells #[au tb] tl (0,0)):=(hW.same Bl (.inr (.inr (.inl rfl))) (af hl)).trans hl;have Vv:W.heap[Bx]?=some (.cells (bQ ⟨⟨xk,xs,xg,xd⟩,.slice xa xl xc⟩) 60 (0,0)):=(hW.same Bx (.inr (.inr (.inr rfl))) (af hx)).trans hx;have c0:W.cell? ⟨Bl,0,none⟩=some (au tb):=by simp [World.cell?,uh]
 obtain ⟨d0,d1,d2,d3⟩:=cK Vv;have lBl:=af uh;have lBx:=af Vv;obtain ⟨bf,jU,JZ⟩:=levels ⟨xk,xs,xg,xd⟩ ns tb ha;have CN:=aex hM ⟨⟨xk,xs,xg,xd⟩,.slice xa xl xc⟩ (xa:=xa) (xl:=xl) (xc:=xc) rfl;rw [JZ] at CN;have Bu:∀ V:World,(Instr.index 288 (.agg #[au (bf 0).blk,au (bf 1).blk,au (bf 2).blk,au (bf 3).blk,au (bf 4).blk,au (bf 5).blk,au (bf 6).blk,au (bf 7).blk,au (bf 8).blk,au (bf 9).blk,au (bf 10).blk,au (bf 11).blk]) (.int .i64 0)).run Tryz.prog V= .ok (au (bf 0).blk) V:=fun V=>by
  simp [Instr.index,run_underlying Tryz.underlying288,go_sem]
 have tu:∀ V,Grow W V→V.cell? ⟨(bf 0).blk,4,none⟩=some (.slice (some ⟨(bf 0).arr,0,none⟩) (bf 0).h (bf 0).h)∧(bf 0).blk<V.heap.size∧V.cell? ⟨(bf 0).arr,0,none⟩=some (bV 0 (fk ⟨xk,xs,xg,xd⟩ ns))∧(bf 0).arr<V.heap.size∧(0:Int)<((bf 0).h:Int):=fun V hg=>by
  have hV:=hM.grow hg;obtain ⟨pre,m,eL,tC⟩:=last_zero (L:=bC tb ha::bR ⟨xk,xs,xg,xd⟩ ns) (by simp) (fun n hn=>by
   rcases List.mem_cons.1 hn with rfl|hn
   ·show 1≤12;omega
   ·exact (hM.skip.hs n (by rw [←iZ ⟨xk,xs,xg,xd⟩ ns];exact List.mem_append_left _ hn)).1)
  have ue:bf 0=m:=by have:=jU 0 (by decide);rw [tC] at this;exact (bB this).symm
  have e2:bC tb ha::ns=pre++m::fk ⟨xk,xs,xg,xd⟩ ns:=by
   have h1:bC tb ha::ns=(bC tb ha::bR ⟨xk,xs,xg,xd⟩ ns)++fk ⟨xk,xs,xg,xd⟩ ns:=by rw [List.cons_append,iZ]
   rw [h1,eL];simp
  have cO:m∈bC tb ha::ns:=by rw [e2];simp
  have fY:0<m.h:=by
   rcases List.mem_cons.1 cO with rfl|hn
   ·show 0<12;omega
   ·exact (hM.skip.hs m hn).1
  obtain ⟨t4,lm⟩:=hV.tail cO;obtain ⟨tl,la⟩:=hV.link e2 fY;rw [ue];exact ⟨t4,lm,tl,la,by omega⟩
 have UM:=ae tu;have HK:=ae Vu;have HW:=ae hW;have OG:=ae jU;have OE:=ae CN;have H:=ae h;have HY:=ae hY;have H0:=ae h0;have HJ:=ae hJ;clear tu h hl hx Vu hM uh Vv jU CN JZ hW hY h0 hJ;refine callsIn_of_wp Tryz.func216 rfl trivial ?_ rfl;simp only [Tryz.ntmps216,List.size_toArray,List.length_cons,List.length_nil,Nat.reduceAdd,Nat.reduceSub,Array.replicate_succ,Array.replicate_zero,List.push_toArray,List.append_toArray,List.nil_append,List.cons_append]
 gi_wp2_with (refine ⟨trivial,?_⟩;gi_at_call 182;refine (callsIn_wide.2 OE.out).mono ?_;rintro e w' ⟨rfl,hg⟩;obtain ⟨t4,lm,tl,la,fY⟩:=UM.out w' hg)
 have hJ1:=Km HJ.out H0.out hg;have OU:=HW.out.trans (.bF hg);have hbl:((fk ⟨xk,xs,xg,xd⟩ ns).map Nd.blk).Nodup:=by
  have h2:=H.out.skip.EY;rw [←iZ ⟨xk,xs,xg,xd⟩ ns,List.map_append] at h2;exact (List.nodup_append.1 h2).2.1
 have lj:∀ n∈fk ⟨xk,xs,xg,xd⟩ ns,n∈ns:=fun n hn=>by rw [←iZ ⟨xk,xs,xg,xd⟩ ns];exact mg _ hn
 have hl0:∀ rest:List Nd,(∀ n∈rest,n∈ns)→bV 0 rest=match rest with| []=> .pointer none|n::_=>au n.blk:=fun rest hr=>by
  cases rest with
  |nil=>rfl
  |cons n r=>simp only;rw [bV,if_pos (show 0<n.h from (H.out.skip.hs n (hr n (eQ ..))).1)]
 generalize hHI:fk ⟨xk,xs,xg,xd⟩ ns=HI at*;have zP:=ae hbl;have afR:=ae lj;have Hl0:=ae hl0;have Vx:=ae hHI;have H1:=ae (ah hJ1 OU);clear hJ1 OU hbl lj hl0 hHI hg t4 lm tl la fY c0 d0 d1 d2 d3
 gi_loopw [4] (fun p wr=>∃ (pre rest:List Nd),p=bV 0 rest∧HI=pre++rest∧Kp (fun b=>N b∨FM tb ha ns b∨b=Bl∨b=Bx) w wr∧J (pre.map Nd.x) wr) (fun p _=>mleft HI p)
 case atStart=>exact ⟨[],HI,rfl,rfl,H1.out.2,H1.out.1⟩
 case round=>
  obtain ⟨pre,rest,rfl,hx,hk,hJs⟩:=hrel;have rQ:∀ n∈rest,n∈ns:=fun n hn=>afR.out n (by rw [hx];exact mg _ hn)
  cases rest with
  |nil=>
   have e0:bV 0 []= .pointer none:=rfl;rw [e0];have MA:HI=pre:=by rw [hx,List.append_nil]
   have Hx':=ae MA;clear hx MA;gi_wp2;go_end0;exact ⟨⟨_,rfl⟩,.inl (by rw [Vx.out,Hx'.out];exact hJs)⟩
  |cons n rest=>
   have iU:=rQ n (eQ ..);have hh:=H.out.skip.hs n iU;have e0:bV 0 (n::rest)=au n.blk:=by rw [bV,if_pos (show 0<n.h from hh.1)]
   rw [e0];have hM:=HK.out wr hk;obtain ⟨d0,d1,d2,d3⟩:=hM.az iU;have ln:=af (hM.skip.node n iU);have Hx:=ae hx;have ow:HI.map Nd.x=pre.map Nd.x++n.x::rest.map Nd.x:=by rw [hx];simp
   have Hxm:=ae ow;obtain ⟨fn,tmps,assign,body,hy,hR⟩:=HY.out (pre.map Nd.x) n.x (rest.map Nd.x) #[.agg (bQ n.x)] wr ow hJs ⟨rfl,(hM.skip.vals n iU).1⟩;dsimp only [bQ] at hy;have fT:=fun (V:World) (hV:Kp (fun b=>N b∨FM tb ha ns b∨b=Bl∨b=Bx) w V)=>show (V.cell? ⟨n.blk,4,none⟩=some (.slice (some ⟨n.arr,0,none⟩) n.h n.h)∧n.blk<V.heap.size∧V.cell? ⟨n.arr,0,none⟩=some (bV 0 rest)∧n.arr<V.heap.size) from by
    have hMV:=HK.out V hV;obtain ⟨t4,lm⟩:=hMV.tail (gz _ iU);have e2:bC tb ha::ns=(bC tb ha::bR ⟨xk,xs,xg,xd⟩ ns++pre)++n::rest:=by
     have h1:bC tb ha::ns=(bC tb ha::bR ⟨xk,xs,xg,xd⟩ ns)++fk ⟨xk,xs,xg,xd⟩ ns:=by rw [List.cons_append,iZ]
     rw [h1,Vx.out,hx];simp
    obtain ⟨tl,la⟩:=hMV.link e2 hh.1;exact ⟨t4,lm,tl,la⟩
   have awQ:=ae fT;have gD:(0:Int)<(n.h:Int):=by omega
   clear hx ow hM fT rQ;gi_wp2;refine (Vt 2 hR).mono ?_;rintro e W3 (⟨rfl,hJ3,hk3⟩|⟨rfl,awR⟩)
   ·have hk4:=hk.trans hk3
    obtain ⟨t4,lm,tl,la⟩:=awQ.out W3 hk4;clear hy hR d0 d1 d2 d3 ln hJs;gi_wp2;go_roundw
    case rel=>exact ⟨pre++ [n],rest,rfl,by rw [Hx.out];simp,hk4,by rw [List.map_append];exact hJ3⟩
    case measure=>
     have h5:=Oj zP.out Hx.out;rw [h5];cases rest with
     |nil=>exact Nat.zero_lt_succ _
     |cons m r=>
      have jB:=H.out.skip.hs m (afR.out m (by rw [Hx.out];simp));rw [bV,if_pos (show 0<m.h from jB.1),Oj zP.out (show HI=(pre++ [n])++m::r by rw [Hx.out];simp)];simp
   ·gi_wp2
    refine bodyPost_ret (results_none rfl _ _ _) rfl ?_;exact ⟨⟨_,rfl⟩,.inr ⟨pre.map Nd.x,n.x,rest.map Nd.x,by rw [Vx.out];exact Hxm.out,awR⟩⟩
end Go.Proofs.YtoolkdapflaeeaaGreatDoor
namespace Go.Proofs.YtoolkdapflaeeaaGreatDoor
open Go.RowKit Go.Gl Go.aH Mn
attribute [local go_sem] Oper.semAt_some
def nQ (N:Nat→Prop) (B:Nat) (W:World) (y:Ev):Prop:=
 Bv W y.v y.e.val∧(y.e.val= []∨∀ b,y.v.ownBlock=some b→N b∨(B≤b∧∃ cur f,W.heap[b]?=some (.cells cur 5 f)))
theorem awS {W W':World} {v:Value} {l:List UInt8} (h:Bv W v l) (hs:W.heap.size≤W'.heap.size) (hk:l≠ []→∀ b,v.ownBlock=some b→W'.heap[b]?=W.heap[b]?):Bv W' v l:=by
 obtain ⟨a,c,rfl,hl,hm,hn,h⟩:=h;refine ⟨a,c,rfl,hl,hm,hn,?_⟩;rcases h with h|⟨b,o,rfl,hb,hc⟩
 ·exact .inl h
 ·by_cases he:l= []
  ·exact .inl he
  ·refine .inr ⟨b,o,rfl,cj hb hs,fun j x hx=> ?_⟩
   rw [←hc j x hx];simp only [World.cell?,hk he b rfl]
theorem nQ.keep {N:Nat→Prop} {B:Nat} {W W':World} {y:Ev} (h:nQ N B W y) (hs:W.heap.size≤W'.heap.size) (hN:∀ b,N b→W'.heap[b]?=W.heap[b]?)
  (hc:∀ (b:Nat) (cur:Array Value) (f:Nat×Nat),B≤b→W.heap[b]?=some (.cells cur 5 f)→W'.heap[b]?=some (.cells cur 5 f)):nQ N B W' y:=by
 refine ⟨awS h.1 hs (fun hne b hb=> ?_),h.2.imp id (fun h2 b hb=>(h2 b hb).imp id (fun ⟨h3,cur,f,h4⟩=>⟨h3,cur,f,hc b cur f h3 h4⟩))⟩;rcases h.2 with h2|h2
 ·exact absurd h2 hne
 ·rcases h2 b hb with h3|⟨h3,cur,f,h4⟩
  ·exact hN b h3
  ·rw [hc b cur f h3 h4,h4]
theorem nQ.slice {N:Nat→Prop} {B:Nat} {W:World} {y:Ev} (h:nQ N B W y):∃ a c,y.v= .slice a y.e.val.length c:=h.1.slice
theorem nQ.awT {N M:Nat→Prop} {B:Nat} {W:World} {y:Ev} (h:nQ N B W y) (hM:∀ b,N b∨B≤b→M b):kG M W y:=
 ⟨h.1,h.2.imp id (fun h2 b hb=>hM b ((h2 b hb).imp id (fun h3=>h3.1)))⟩
def dt (B:Nat) (N:Nat→Prop) (W:World) (v:Value) (ys:List Ev):Prop:=W.ownsRow B 60 4 v ys.length (ys.flatMap eJ)∧∀ y∈ys,nQ N B W y
theorem dt.es {B:Nat} {N M:Nat→Prop} {W:World} {v:Value} {ys:List Ev} (h:dt B N W v ys) (hM:∀ b,N b∨B≤b→M b):Es M W v ys:=
 UD.es (B:=B) ⟨h.1,fun y hy=>(h.2 y hy).awT hM⟩ (fun g hg=>by
  rcases h.1.2 with ⟨h1,_⟩|⟨g',cap,cur,h1,hB,_⟩
  ·rw [h1] at hg;cases hg
  ·rw [h1] at hg;cases hg;exact hM _ (.inr hB))
theorem xC {B:Nat} {N:Nat→Prop} {W:World} {v:Value} {ys:List Ev} (h:dt B N W v ys) {g:Nat} (hg:v.ownBlock=some g):B≤g∧∃ cur,W.heap[g]?=some (.cells cur 60 (0,0)):=by
 rcases h.1.2 with ⟨h1,h0⟩|⟨g',cap,cur,h1,hB,h3,_⟩
 ·rw [h1] at hg;cases hg
 ·rw [h1] at hg;cases hg;exact ⟨hB,cur,h3⟩
theorem dt.keep {B:Nat} {N:Nat→Prop} {W W':World} {v:Value} {ys:List Ev} (h:dt B N W v ys) (hs:W.heap.size≤W'.heap.size) (hN:∀ b,N b→W'.heap[b]?=W.heap[b]?)
  (hc:∀ (b:Nat) (cur:Array Value) (t:TypeId) (f:Nat×Nat),B≤b→(t=5∨t=60)→W.heap[b]?=some (.cells cur t f)→W'.heap[b]?=some (.cells cur t f)):dt B N W' v ys:=by
 refine ⟨⟨h.1.1,?_⟩,fun y hy=>(h.2 y hy).keep hs hN (fun b cur f hb hcb=>hc b cur _ f hb (.inl rfl) hcb)⟩;rcases h.1.2 with h1|⟨g,cap,cur,h1,h2,h3,h4⟩
 ·exact .inl h1
 ·exact .inr ⟨g,cap,cur,h1,h2,hc g cur _ _ h2 (.inr rfl) h3,h4⟩
theorem afT {B:Nat} {N:Nat→Prop} {w:World} {v:Value} {ys:List Ev} (h:dt B N w v ys) {x:Ev} (hx:nQ N B w x) (xD:∀ b,N b→b<B) (hB:B≤w.heap.size) (hl:ys.length≤1000000000):
  ∃ g cap w',(Builtin.append_ #[57,57] 57 #[v,.slice (some ⟨w.heap.size,0,none⟩) 1 1]).run Tryz.prog (w.alloc (.cells (bQ x) 60))= .ok (.slice (some ⟨g,0,none⟩) (ys.length+1) cap) w'∧
   dt B N w' (.slice (some ⟨g,0,none⟩) (ys.length+1) cap) (ys++ [x])∧w.grownBy w' v.ownBlock:=by
 obtain ⟨i0,bK,hz0,hz1,hz2⟩:=info_parts Tryz.UE;have nj:∀ u∈eJ x,u.oneCell'=true:=fun u hu=>by
  obtain ⟨a,c,hv⟩:=hx.slice;simp only [eJ,List.mem_cons,List.not_mem_nil,or_false] at hu;rcases hu with rfl|rfl|rfl|rfl
  ·rfl
  ·rfl
  ·rfl
  ·rw [hv];rfl
 have dV:(w.alloc (.cells (bQ x) 60)).heap[w.heap.size]?=some (.cells (bQ x) 60 (0,0)):=aw _ _;obtain ⟨g,cap,w',hrun,hown,hgr,_,_⟩:=run_append_lies (P:=Tryz.prog) (w.alloc (.cells (bQ x) 60)) 57 57 B 60 i0 _ 4 56 Tryz.underlying57 bK hz0 hz1 hz2 rfl (by decide) _ _ _ (ek h.1 (Grow.alloc _ _))
  ⟨w.heap.size,0,none⟩ 1 1 (eJ x) rfl (fun j u hu=>World.news_of_block dV j u (by simpa [eJ] using hu)) nj (by decide) (by unfold maxLen;omega) (by omega) (by simp;omega) _ rfl
 have hgb:w.grownBy w' v.ownBlock:=by
  obtain ⟨a,b,c,d,e⟩:=hgr;exact ⟨a,b,c,aN (by simp) d,fun k hk hn=>by rw [e k (by simp;omega) hn];exact heap_alloc_old _ _ hk⟩
 refine ⟨g,cap,w',hrun,⟨?_,fun y hy=> ?_⟩,hgb⟩
 ·have wT:(ys++ [x]).flatMap eJ=ys.flatMap eJ++eJ x:=by simp
  rw [List.length_append,wT];exact hown
 ·have hy':nQ N B w y:=by
   rcases List.mem_append.1 hy with h1|h1
   ·exact h.2 y h1
   ·rw [cY.1 h1];exact hx
  refine hy'.keep hgb.size (fun b hb=> ?_) (fun b cur f hb hc=> ?_)
  ·refine hgb.block b (cj (xD b hb) hB) (fun e=> ?_)
   have:=(xC h e.symm).1;have:=xD b hb;omega
  ·rw [hgb.block b (af hc) (fun e=> ?_)]
   ·exact hc
   ·obtain ⟨_,cur',h2⟩:=xC h e.symm
    rw [hc] at h2;exact absurd (cA (bB h2)).2.1 (by decide)
end Go.Proofs.YtoolkdapflaeeaaGreatDoor
