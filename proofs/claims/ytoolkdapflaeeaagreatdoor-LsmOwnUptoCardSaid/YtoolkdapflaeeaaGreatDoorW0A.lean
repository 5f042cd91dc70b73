/- Helpers. -/
import Derived.Test.YtoolkdapflaeeaaGreatDoorW09
import Derived.Test.YtoolkdapflaeeaaGreatDoorW00
import Derived.RangeFuncNested
import Derived.RangeFuncBound
import Derived.RangeFuncCalls
import Derived.RangeFuncLeaves
import Derived.ControlIn
import Derived.Test.YtoolkdapflaeeaaGreatDoorW06
import Derived.Shelf.Abstract
import Derived.Shelf.RegionOpen
import Derived.WalkKit
import Derived.OwnWalkIn
import Derived.TacticsInMore
import Derived.LoopNIn
import Derived.LoopIn
import Derived.Deep.CutRange
import Derived.Deep.DeepCutAuto
import Derived.Test.YtoolkdapflaeeaaGreatDoorW05
set_option maxRecDepth 100000
set_option maxHeartbeats 16000000
set_option linter.unusedSimpArgs false
open Go
variable{B B' b g ha aX i m n o q tb:Nat}{M N:Nat→Prop}{W W' w w' w0 wr wr':World}{bv dv fv ov pv u v xv:Value}{cur:Array Value}{ds:List Int}{f:Nat × Nat}{l:List UInt8}{t:TypeId}
namespace Go.Proofs.YtoolkdapflaeeaaGreatDoor
open Go.RowKit Go.Gl Go.aF Mn
section
def Zj(e:En):En:=⟨e.key,e.seq,e.gone,if e.gone then[]else e.val⟩
def aCm(N:Nat->Prop)(w:World)(tb ha:Nat)(ns:List Nd)(dv:Value)(ds:List Int)(x:En)(e:Ending)(w':World):Prop:=
 e=.returned (.tuple #[])/\∃bR eT,ed (λb=>N b\/(w.heap.size<=b/\b<w'.heap.size/\¬FM tb ha bR b)) w' tb ha bR eT dv ds/\
  bR.map (λn=>n.x.e)=kR x (ns.map (λn=>n.x.e))/\Sep (FM tb ha ns) w w' (FM tb ha bR)
theorem qT.base{N:Nat->Prop}{w w':World}{tb ha:Nat}{ns bR:List Nd}{dv:Value}{x:Ev}{eT:Nat}(a:qT N W tb ha ns dv x bR eT w')(b:Grow w W):qT N w tb ha ns dv x bR eT w':=
 ⟨a.list,a.self,a.aX,a.skip,(Sep.bO b).trans a.sep⟩
theorem qT.grow{N:Nat->Prop}{w w' w'':World}{tb ha:Nat}{ns bR:List Nd}{dv:Value}{x:Ev}{eT:Nat}(a:qT N w tb ha ns dv x bR eT w')(b:Grow w' w''):qT N w tb ha ns dv x bR eT w'':=
 ⟨a.list,b.heap a.self,a.aX,a.skip.grow b,a.sep.trans (Sep.bO b)⟩
theorem qT.store{N:Nat->Prop}{w w':World}{tb ha:Nat}{ns bR:List Nd}{dv:Value}{x:Ev}{eT:Nat}(a:qT N w tb ha ns dv x bR eT w')(e:¬FM tb ha bR q)(f:¬N q)(g:w.heap.size<=q)(v0 v1 v2 v3:Value):qT N w tb ha ns dv x bR eT (jS w' q v0 v1 v2 v3):=
 ⟨a.list,(tA (λc=>e (.inl c.symm)) _ _ _ _).trans a.self,a.aX,a.skip.keep (λb d=>tA (λc=>e (.inr (by rw[<-c];exact d))) _ _ _ _) ⟨by simp,λb d _=>tA (λc=>f (by rw[<-c];exact d)) _ _ _ _⟩,a.sep.aji g v0 v1 v2 v3⟩
abbrev ajY(ha aX a:Nat)(dv:Value)(z:Int):Array Value:=#[.string ByteArray.empty,.int .u64 0,.bool false,.slice none 0 0,.slice (some ⟨ha,0,none⟩) 12 12,.func (.func 93) #[] #[],.int .i64 aX,.int .i64 a,dv,.int .i64 z]
structure Fs(N:Nat->Prop)(w:World)(tb ha:Nat)(ns:List Nd)(dv:Value)(x:Ev)(bR:List Nd)(eT:Nat)(z:Int)(w':World):Prop where
 list:bR.map (λn=>n.x.e)=kR x.e (ns.map (λn=>n.x.e))
 self:w'.heap[tb]?=some (.cells (ajY ha eT bR.length dv z) 181 (0,0))
 aX:eT<=12
 skip:kU N w' tb ha bR
 sep:Sep (FM tb ha ns) w w' (FM tb ha bR)
section
variable{N:Nat→Prop}{w w' w'':World}{tb ha:Nat}{ns bR:List Nd}{dv:Value}{x:Ev}{eT:Nat}{zz:Int}
theorem qT.toZ(a:qT N w tb ha ns dv x bR eT w'):Fs N w tb ha ns dv x bR eT ((costs (ns.map (λn=>n.x.e)):Nat):Int) w':=⟨a.list,a.self,a.aX,a.skip,a.sep⟩
theorem Fs.grow(a:Fs N w tb ha ns dv x bR eT zz w')(b:Grow w' w''):Fs N w tb ha ns dv x bR eT zz w'':=⟨a.list,b.heap a.self,a.aX,a.skip.grow b,a.sep.trans (Sep.bO b)⟩
theorem Fs.size(a:Fs N w tb ha ns dv x bR eT zz w')(h:¬N tb)(c:Int):Fs N w tb ha ns dv x bR eT c (w'.setCell ⟨tb,9,none⟩ (.int .i64 c)):=by
 have g:=Go.Gl.aK a.self 9 (.int .i64 c);simp only[ajY,nZ,List.set_cons_zero,lU]at g;have i:∀b,(b=ha\/∃n∈bR,b=n.blk\/b=n.arr)->b≠tb:=λb d e=>by
  have f:=a.self;rcases d with rfl|⟨n,hn,rfl|rfl⟩
  .have c:=a.skip.ju.1;rw[show(bP tb b).arr=b from rfl,e,f]at c;exact absurd (cp (bh c)).2.1 (by decide)
  .have c:=a.skip.node n hn;rw[e,f]at c;exact absurd (cp (bh c)).2.1 (by decide)
  .obtain⟨j,j,j⟩:=ry hn;have c:=a.skip.ju.2.at j;rw[e,f]at c;exact absurd (cp (bh c)).2.1 (by decide)
 exact⟨a.list,g,a.aX,a.skip.keep (λb d=>aN _ _ _ _ (i b d)) ⟨by simp,λb d _=>aN _ _ _ _ (λe=>h (by have c:b=tb:=e;rw[<-c];exact d))⟩,a.sep.trans (Sep.Zd _ w' (.inl rfl) 9 _)⟩
end
def aCn(c:Nat)(N:Nat->Prop)(w:World)(tb ha:Nat)(ns:List Nd)(dv:Value)(x:Ev)(pv bv:Value)(a:World):Prop:=
 ∃(q:Nat)(bR:List Nd)(eT:Nat),pv=au q/\q≠w.heap.size/\w.heap.size<=q/\qT N w tb ha ns dv x bR eT a/\a.heap[w.heap.size]?=some (.cells (cd x) 60 (0,0))/\
  (c<=a.heap.size/\∀b,w.heap.size<=b->b<c->¬FM tb ha bR b)/\
  ((∃(b:Ev)(c:Option Addr)(d:Nat),b.v=.slice c b.e.val.length d/\a.heap[q]?=some (.cells (cd b) 60 (0,0))/\bv=.bool true/\costs (bR.map (λn=>n.x.e))+iH b.e=costs (ns.map (λn=>n.x.e))+iH x.e)\/
   (bv=.bool false/\costs (bR.map (λn=>n.x.e))=costs (ns.map (λn=>n.x.e))+iH x.e))
theorem aCo{N Na:Nat->Prop}{w:World}{tb ha:Nat}{ns:List Nd}{dv:Value}(h:ed N w tb ha ns aX dv ds)(hN:∀b,N b->b<w.heap.size/\¬FM tb ha ns b)(hlen:ns.length<=1000000000)(x:Ev)(hx:lM Na w x)(dC:x.e.seq<18446744073709551616)(SX:costs (ns.map (λn=>n.x.e))+iH x.e<=1000000000000):Calls Tryz.prog 84 #[au tb,.agg (cd x)] w (aCm N w tb ha ns dv ds (Zj x.e)):=by
 obtain⟨⟨xk,xs,xg,xd⟩,xv⟩:=x;obtain⟨xa,xc,cI⟩:=hx.slice;have bD:=hx.1;simp only at cI bD;subst cI;have iT:xk.size+xd.length+16<=1000000000000:=by unfold iH at SX;simp only at SX;omega
 obtain⟨yd,SY⟩:∃yd,yd=(if xg then[]else xd):=⟨_,rfl⟩
 have dM:yd.length<=xd.length:=by rw[SY];split<;>simp
 have aka:Zj ⟨xk,xs,xg,xd⟩=⟨xk,xs,xg,yd⟩:=by unfold Zj;rw[SY]
 rw[aka];have ai:=ar w (.cells (cd ⟨⟨xk,xs,xg,xd⟩,.slice xa xd.length xc⟩) 60);have hb:=ax w (.cells (cd ⟨⟨xk,xs,xg,xd⟩,.slice xa xd.length xc⟩) 60);obtain⟨w1,bT⟩:∃w1,w.alloc (.cells (cd ⟨⟨xk,xs,xg,xd⟩,.slice xa xd.length xc⟩) 60)=w1:=⟨_,rfl⟩
 rw[bT]at ai hb;obtain⟨b0,b1,b2,b3⟩:=cX hb;have lb:=af hb;have f1:=bG hb;have H:=ae h;have HX:=ae (ag hx (ag dC (ag hN (ag hlen (ag SX iT)))));have Hy:=ae (ag SY dM);have Hg:=ae (ag ai hb);clear h hx dC hN hlen SX iT SY dM aka ai hb;go_enter Tryz.func84,Tryz.ntmps84;have Zk:=ae bD;have aNj:=ae (ag b2 (ag lb f1));clear bD
 go_upto_if 7 with fail
 go_cut []from 8 to 8 (λwx=>∃sa sc,Grow w wx/\wx.heap[w.heap.size]?=some (.cells #[.string xk,.int .u64 xs,.bool xg,.slice sa yd.length sc] 60 (0,0))/\Bv wx (.slice sa yd.length sc) yd)
 case first=>
  cases xg with
  |false=>
   obtain rfl:yd=xd:=by have:=Hy.out.1;simpa using this
   go_wp2;go_meet;exact⟨_,_,Hg.out.1,Hg.out.2,Zk.out.grow Hg.out.1⟩
  |true=>
   obtain rfl:yd=[]:=by have:=Hy.out.1;simpa using this
   have hb2:=Go.Gl.aK Hg.out.2 3 (.slice none 0 0);simp only[cd,nZ,List.set_cons_zero,lU]at hb2;have rO:=ae hb2;clear hb2;go_wp2;go_meet;exact⟨_,_,Hg.out.1.setCell (p:=⟨w.heap.size,3,none⟩) (aw _) _,rO.out,(YB (λ_=>True) _).1⟩
 case rest=>
 obtain⟨sa,sc,hg2,hb2,Fu⟩:=hcut;generalize wc=w2 at*;have gC:=ae (xG Fu (by have:=Hy.out.2;have:=HX.out.2.2.2.2.2;omega));obtain⟨c0,c1,c2,c3⟩:=cX hb2;have l2:=af hb2;have rE:=ae (ag hg2 hb2);clear Fu hg2 hb2
 go_wp2_with fail
 (with_reducible refine gC.out.mono ?_);rintro e w3 ⟨v,rfl,ho,hg3⟩;have eM:=ho;obtain⟨va,vc,rfl⟩:=Go.Gl.Row1.slice ho;rw[jX]at eM ⊢;have hb3:=hg3.heap rE.out.2;have hb4:=Go.Gl.aK hb3 3 (.slice va yd.length vc);simp only[nZ,List.set_cons_zero,lU]at hb4;have hg4:Grow w (w3.setCell ⟨w.heap.size,3,none⟩ (.slice va yd.length vc)):=(rE.out.1.trans hg3).setCell (p:=⟨w.heap.size,3,none⟩) (aw _) _;have s2:=rE.out.1.size;have kM:aI w.heap.size (w3.setCell ⟨w.heap.size,3,none⟩ (.slice va yd.length vc)) (.slice va yd.length vc) yd:=by refine(eM.mono s2).keep (λg hgb=>?_);have h9:=(eM.lt hgb).1;exact aN _ _ _ _ (λe=>by have e':g=w.heap.size:=e;omega)
 obtain⟨d0,d1,d2,d3⟩:=cX hb3;have l3:=af hb3;have f3:w3.frozen? ⟨w.heap.size,3,none⟩=false:=by simp[World.frozen?,hb3]
 have Nu:=ae (ag hg4 (ag hb4 kM));clear hb3 hb4 hg4 kM ho eM hg3 gC c0 c1 c2 c3 l2
 go_upto_region 4 with fail
 have kE:=Nu.out;generalize w3.setCell ⟨w.heap.size,3,none⟩ (.slice va yd.length vc)=w4 at*;obtain⟨c0,c1,c2,c3⟩:=cX kE.2.1;have l4:=af kE.2.1;have hgd:=ay w4;have h4:=H.out.grow kE.1;have hN4:∀W,Grow w4 W->∀b,(N b\/(w.heap.size<=b/\b<w4.heap.size))->b<W.heap.size/\¬FM tb ha ns b:=λW hW b hb=>by
  have s4:=hW.size;rcases hb with hb|⟨hb1,hb2⟩
  .exact⟨bF (HX.out.2.2.1 b hb).1 (aJ kE.1.size s4),(HX.out.2.2.1 b hb).2⟩
  .exact⟨by omega,λhf=>by have:=H.out.lt hf;omega⟩
 have qV:lM (λb=>N b\/(w.heap.size<=b/\b<w4.heap.size)) w4 ⟨⟨xk,xs,xg,yd⟩,.slice va yd.length vc⟩:=⟨cE kE.2.2,.inr (λb hb=>.inr (kE.2.2.lt hb))⟩
 have Jy:=ae (λW (hW:Grow w4 W)=>aBR (((H.out.grow kE.1).mono (M:=(λb=>N b\/(w.heap.size<=b/\b<w4.heap.size))) (λb hb=>.inl hb)).grow hW) (hN4 W hW) HX.out.2.2.2.1 ⟨⟨xk,xs,xg,yd⟩,.slice va yd.length vc⟩ (qV.grow hW) HX.out.2.1);have Nv:=ae (ag kE.1 (ag kE.2.1 h4.self));have CH:iH ⟨xk,xs,xg,yd⟩<=iH ⟨xk,xs,xg,xd⟩:=by have:=Hy.out.2;unfold iH;simp only;omega
 have aCp:=ae CH;clear hN4 qV h4 kE Nu d0 d1 d2 d3 l3 f3 CH
 go_cut [4,5]from 13 to 22 (λpv bv wx=>aCn w4.heap.size (λb=>N b\/(w.heap.size<=b/\b<w4.heap.size)) w tb ha ns dv ⟨⟨xk,xs,xg,yd⟩,.slice va yd.length vc⟩ pv bv wx)
 case first=>
  refine Zh (λV=>V.cell? ⟨w.heap.size,0,none⟩=some (.string xk)/\V.cell? ⟨w.heap.size,1,none⟩=some (.int .u64 xs)/\V.cell? ⟨w.heap.size,2,none⟩=some (.bool xg)/\V.cell? ⟨w.heap.size,3,none⟩=some (.slice va yd.length vc)/\w.heap.size<V.heap.size) [(0,false),(1,false),(2,false),(3,false),(4,false),(5,false)] 6 10 [(7,false),(8,false),(9,false),(10,true),(11,true),(12,false)] [(6,true),(7,false),(8,false),(9,false),(11,true),(12,false)] (by kernel_rfl) (by kernel_rfl) (bB λ_ _ _ _ _ h=>h) ⟨c0,c1,c2,c3,l4⟩ ?_;simp only[cm,nth]
  repeat ((first|(apply az;rfl;rintro W ⟨k0,k1,k2,k3,k4⟩;go_simp;with_reducible rfl)|(apply aA;rfl));simp only[ah,List.set])
  refine bg (Zi ?_ ?_)
  .simp only[cm,nth]
   refine bw (by rfl) (by go_simp) (Jy.out w4.drew hgd) ?_;rintro e' w5 ⟨bR,eT,hP,tr⟩;have uU:w5.heap[w.heap.size]?=some (.cells #[.string xk,.int .u64 xs,.bool xg,.slice va yd.length vc] 60 (0,0)):=
    (hP.sep.out _ l4 (λhf=>by have:=H.out.lt hf;omega)).trans Nv.out.2.1
   obtain⟨e0,e1,e2,e3⟩:=cX uU;have l5:=af uU;have Nw:=hP.sep.size;have Nx:∀b,w.heap.size<=b->b<w4.heap.size->¬FM tb ha bR b:=λb h1 h2 hf=>by
    rcases hP.sep.foot b hf with h3|h3
    .have:=H.out.lt h3;omega
    .have h4:w4.heap.size<=b:=by simp at h3;omega
     omega
   have HP:=ae (hP.base (Nv.out.1.trans hgd));clear Jy hP;have yH:=ar w5 (.cells #[.string ⟨#[]⟩,.int .u64 0,.bool false,.slice none 0 0] 60);obtain⟨g0,g1,g2,g3⟩:=cX (yH.heap uU);rcases tr with⟨⟨⟨yk,ys,yg,yl⟩,yv⟩,⟨ya,yc,eZ⟩,rfl,Ny,hc'⟩|⟨rfl,Ny,hc'⟩
   .simp only at eZ
    subst eZ;refine⟨_,rfl,⟨e0,e1,e2,e3,l5⟩,?_⟩
    try simp only[ah,List.set,aC]
    repeat ((first|(apply az;rfl;rintro W ⟨k0,k1,k2,k3,k4⟩;go_simp;with_reducible rfl)|(apply aA;rfl));simp only[ah,List.set])
    refine fK (by rfl) (λK hK=>?_);go_simp;refine hK _ _ ⟨⟨g0,g1,g2,g3,by simp;omega⟩,?_⟩;clear hK K
    try simp only[ah,List.set,aC]
    have wP:=ar w5 (.cells #[.string yk,.int .u64 ys,.bool yg,.slice ya yl.length yc] 60);have SZ:=ax w5 (.cells #[.string yk,.int .u64 ys,.bool yg,.slice ya yl.length yc] 60);obtain⟨j0,j1,j2,j3⟩:=cX (wP.heap uU);refine fK (by rfl) (λK hK=>?_);go_simp;refine hK _ _ ⟨⟨j0,j1,j2,j3,by simp;omega⟩,?_⟩;clear hK K
    try simp only[ah,List.set,aC]
    repeat ((first|(apply az;rfl;rintro W ⟨k0,k1,k2,k3,k4⟩;go_simp;with_reducible rfl)|(apply aA;rfl));simp only[ah,List.set])
    refine bg ?_;have tF:=wP.heap uU;have Al:=HP.out.grow wP
    go_wp2_with fail
    go_meet;exact⟨w5.heap.size,bR,eT,rfl,by omega,by omega,Al,tF,⟨by have h9:=Nw;simp at h9 ⊢;omega,Nx⟩,.inl ⟨⟨⟨yk,ys,yg,yl⟩,.slice ya yl.length yc⟩,ya,yc,rfl,SZ,rfl,hc'⟩⟩
   .refine⟨_,rfl,⟨e0,e1,e2,e3,l5⟩,?_⟩
    try simp only[ah,List.set,aC]
    repeat ((first|(apply az;rfl;rintro W ⟨k0,k1,k2,k3,k4⟩;go_simp;with_reducible rfl)|(apply aA;rfl));simp only[ah,List.set])
    refine fK (by rfl) (λK hK=>?_);go_simp;refine hK _ _ ⟨⟨g0,g1,g2,g3,by simp;omega⟩,?_⟩;clear hK K
    try simp only[ah,List.set,aC]
    have wP:=ar w5 (.cells #[.string ⟨#[]⟩,.int .u64 0,.bool false,.slice none 0 0] 60);obtain⟨j0,j1,j2,j3⟩:=cX (wP.heap uU);refine fK (by rfl) (λK hK=>?_);go_simp;refine hK _ _ ⟨⟨j0,j1,j2,j3,by simp;omega⟩,?_⟩;clear hK K
    try simp only[ah,List.set,aC]
    repeat ((first|(apply az;rfl;rintro W ⟨k0,k1,k2,k3,k4⟩;go_simp;with_reducible rfl)|(apply aA;rfl));simp only[ah,List.set])
    refine bg ?_;have tF:=wP.heap uU;have Al:=HP.out.grow wP
    go_wp2_with fail
    go_meet;exact⟨w5.heap.size,bR,eT,rfl,by omega,by omega,Al,tF,⟨by have h9:=Nw;simp at h9 ⊢;omega,Nx⟩,.inr ⟨rfl,hc'⟩⟩
  .simp only[cm,nth]
   have Ta:=ar w4.drew (.cells #[.string ⟨#[]⟩,.int .u64 0,.bool false,.slice none 0 0] 60);have Jz:=ax w4.drew (.cells #[.string ⟨#[]⟩,.int .u64 0,.bool false,.slice none 0 0] 60);have qo:=Ta.heap (hgd.heap Nv.out.2.1);obtain⟨g0,g1,g2,g3⟩:=cX qo;have Zl:=af qo;refine fK (by rfl) (λK hK=>?_);go_simp;refine hK _ _ ⟨⟨g0,g1,g2,g3,Zl⟩,?_⟩;clear hK K
   try simp only[ah,List.set,aC]
   have s4:=Nv.out.1.size;have mZ:w.heap.size≠w4.heap.size:=by have:=l4;omega
   refine bw (by rfl) (by go_simp) (Jy.out _ (hgd.trans Ta)) ?_;rintro e' w5 ⟨bR,eT,hP,tr⟩;have uU:w5.heap[w.heap.size]?=some (.cells #[.string xk,.int .u64 xs,.bool xg,.slice va yd.length vc] 60 (0,0)):=
    (hP.sep.out _ Zl (λhf=>by have:=H.out.lt hf;omega)).trans qo
   have qi:w5.heap[w4.heap.size]?=some (.cells #[.string ⟨#[]⟩,.int .u64 0,.bool false,.slice none 0 0] 60 (0,0)):=(hP.sep.out _ (af Jz) (λhf=>by have:=H.out.lt hf;have e:w4.drew.heap.size=w4.heap.size:=rfl;omega)).trans Jz;have hqF:¬FM tb ha bR w4.heap.size:=λhf=>by
    rcases hP.sep.foot _ hf with h1|h1
    .have:=H.out.lt h1;omega
    .have h2:w4.heap.size+1<=w4.heap.size:=by simpa using h1
     omega
   obtain⟨e0,e1,e2,e3⟩:=cX uU;have l5:=af uU;have Nw:=hP.sep.size;have Nx:∀b,w.heap.size<=b->b<w4.heap.size->¬FM tb ha bR b:=λb h1 h2 hf=>by
    rcases hP.sep.foot b hf with h3|h3
    .have:=H.out.lt h3;omega
    .have h4:w4.heap.size<=b:=by simp at h3;omega
     omega
   have HP:=ae (ag (hP.base ((Nv.out.1.trans hgd).trans Ta)) hqF);have Zc:¬(N w4.heap.size\/(w.heap.size<=w4.heap.size/\w4.heap.size<w4.heap.size)):=λh=>by
    rcases h with h|h
    .have:=(HX.out.2.2.1 _ h).1;omega
    .omega
   clear Jy hP Ta Jz qo g0 g1 g2 g3 Zl hqF;obtain⟨r0,r1,r2,r3⟩:=cX qi;have lq:=af qi;have frq:=bG qi;rcases tr with⟨⟨⟨yk,ys,yg,yl⟩,yv⟩,⟨ya,yc,eZ⟩,rfl,Ny,hc'⟩|⟨rfl,Ny,hc'⟩
   .simp only at eZ
    subst eZ;refine⟨_,rfl,⟨e0,e1,e2,e3,l5⟩,?_⟩
    try simp only[ah,List.set,aC]
    repeat ((first|(apply az;rfl;rintro W ⟨k0,k1,k2,k3,k4⟩;go_simp;with_reducible rfl)|(apply aA;rfl));simp only[ah,List.set])
    have SZ:=CA (v0:=.string yk) (v1:=.int .u64 ys) (v2:=.bool yg) (v3:=.slice ya yl.length yc) qi;have tF:=(tA (w:=w5) mZ (.string yk) (.int .u64 ys) (.bool yg) (.slice ya yl.length yc)).trans uU;obtain⟨j0,j1,j2,j3⟩:=cX tF;have l6:=af tF;have Al:=HP.out.1.store HP.out.2 Zc s4 (.string yk) (.int .u64 ys) (.bool yg) (.slice ya yl.length yc);refine fK (by rfl) (λK hK=>?_);go_simp;refine hK _ _ ⟨⟨j0,j1,j2,j3,l6⟩,?_⟩;clear hK K
    try simp only[ah,List.set,aC]
    have aZ:=ae (ag SZ (ag tF Al));clear SZ tF Al
    repeat ((first|(apply az;rfl;rintro W ⟨k0,k1,k2,k3,k4⟩;go_simp;with_reducible rfl)|(apply aA;rfl));simp only[ah,List.set])
    refine bg ?_
    go_wp2_with fail
    go_meet;exact⟨w4.heap.size,bR,eT,rfl,λe=>mZ e.symm,s4,aZ.out.2.2,aZ.out.2.1,⟨by have h9:=Nw;simp at h9 ⊢;omega,Nx⟩,.inl ⟨⟨⟨yk,ys,yg,yl⟩,.slice ya yl.length yc⟩,ya,yc,rfl,aZ.out.1,rfl,hc'⟩⟩
   .refine⟨_,rfl,⟨e0,e1,e2,e3,l5⟩,?_⟩
    try simp only[ah,List.set,aC]
    repeat ((first|(apply az;rfl;rintro W ⟨k0,k1,k2,k3,k4⟩;go_simp;with_reducible rfl)|(apply aA;rfl));simp only[ah,List.set])
    have tF:=(tA (w:=w5) mZ (.string ⟨#[]⟩) (.int .u64 0) (.bool false) (.slice none 0 0)).trans uU;obtain⟨j0,j1,j2,j3⟩:=cX tF;have l6:=af tF;have Al:=HP.out.1.store HP.out.2 Zc s4 (.string ⟨#[]⟩) (.int .u64 0) (.bool false) (.slice none 0 0);refine fK (by rfl) (λK hK=>?_);go_simp;refine hK _ _ ⟨⟨j0,j1,j2,j3,l6⟩,?_⟩;clear hK K
    try simp only[ah,List.set,aC]
    have aZ:=ae (ag tF Al);clear tF Al
    repeat ((first|(apply az;rfl;rintro W ⟨k0,k1,k2,k3,k4⟩;go_simp;with_reducible rfl)|(apply aA;rfl));simp only[ah,List.set])
    refine bg ?_
    go_wp2_with fail
    go_meet;exact⟨w4.heap.size,bR,eT,rfl,λe=>mZ e.symm,s4,aZ.out.2,aZ.out.1,⟨by have h9:=Nw;simp at h9 ⊢;omega,Nx⟩,.inr ⟨rfl,hc'⟩⟩
 case rest=>
  obtain⟨q,bR,eT,rfl,mZ,hqw,hP,gV,hP4,tr⟩:=hcut;have Zm:¬(N tb\/(w.heap.size<=tb/\tb<w4.heap.size)):=λh=>by
   rcases h with h|h
   .exact(HX.out.2.2.1 _ h).2 (.inl rfl)
   .have:=H.out.lt (.inl rfl);omega
  have akd:=HX.out.2.2.2.2.1;have Md:=aCp.out;have jR:w4.heap.size<=wc.heap.size/\∀b,w.heap.size<=b->b<w4.heap.size->¬FM tb ha bR b:=hP4
  have qp:iH ⟨xk,xs,xg,yd⟩=xk.size+yd.length+16:=rfl;rcases tr with⟨⟨⟨yk,ys,yg,yl⟩,yv⟩,ya,yc,eZ,hq,rfl,hc'⟩|⟨rfl,hc'⟩
  .simp only at eZ
   subst eZ;have hyy:iH ⟨yk,ys,yg,yl⟩=yk.size+yl.length+16:=rfl;simp only at hc';generalize hC:costs (ns.map (λn=>n.x.e))=C at*;generalize Nz:costs (bR.map (λn=>n.x.e))=C' at*;have mE:=hP.toZ;rw[hC]at mE;have eK:=mE.self;obtain⟨t9,lt⟩:wc.cell? ⟨tb,9,none⟩=some (.int .i64 (C:Int))/\tb<wc.heap.size:=⟨by simp[World.cell?,eK],af eK⟩
   obtain⟨q0,q1,q2,q3⟩:=cX hq;have lq:=af hq;have nK:IntKind.i64.wrap ((C:Int)-((yk.size+yl.length+16:Nat):Int))=(C:Int)-((yk.size+yl.length+16:Nat):Int):=aQ _ (by omega);have Zn:yk.size<=1000000000000/\yl.length<=1000000000000:=by omega
   have CI:=ae (λW=>YN W yk ys yg ya yl.length yc Zn.1 Zn.2);generalize hS:yk.size+yl.length+16=sy at*;have akf:=hyy;have NA:C'<=2000000000000:=by omega
   have Zo:=jR;obtain⟨z,hz⟩:∃z,(C:Int)-(sy:Int)=z:=⟨_,rfl⟩
   replace nK:IntKind.i64.wrap ((C:Int)-(sy:Int))=z:=nK.trans hz;have gB:=ae (ag mE (ag gV (ag hz (ag hC (ag Nz hc')))));clear mE gV hz hC Nz hc' hP hq eK hS Zn akd Md qp hyy
   go_upto_region 6 with fail
   have aU:=Grow.cells (w:=wc);refine ue (λV=>Below wc.heap.size wc V) [(0,false),(1,false),(2,false),(3,false),(4,false),(5,true),(6,false),(7,false),(8,false)] 9 (by kernel_rfl) (by kernel_rfl) (bB λ_ _ _ _ _ h=>h) (by((repeat (first|exact bW _ _|assumption|refine cC ?_|refine cD ?_|refine cw ?_ ?_ _|refine cB ?_ ?_ _))<;>try (first|omega|(simp<;>omega)))) ?_;simp only[cm,nth]
   repeat ((first|(apply az;rfl;rintro W hW;go_simp;with_reducible rfl)|(apply aA;rfl));simp only[ah,List.set])
   refine bw (by rfl) (by go_simp) (CI.out wc.drew) ?_;rintro e' w7 ⟨rfl,dF⟩;have hgx:=(ay wc).trans dF;refine⟨_,rfl,hgx,?_⟩
   try simp only[ah,List.set,aC]
   repeat ((first|(apply az;rfl;rintro W hW;go_simp;with_reducible rfl)|(apply aA;rfl));simp only[ah,List.set])
   refine bg (uf (by rfl) (λK hK=>?_));have mE:=gB.out.1.grow hgx;have eK:=mE.self;have f9:=bG eK;have NB:w7.cell? ⟨tb,9,none⟩=some (.int .i64 (C:Int)):=by simp[World.cell?,eK]
   have NC:=af eK;go_simp;refine hK _ _ ?_;clear hK K
   try simp only[Act.put,nZ,List.set_cons_zero,lU]
   have CJ:=mE.size Zm z;have akg:=(aN w7 ⟨tb,9,none⟩ (.int .i64 z) w.heap.size (λe=>by have e':w.heap.size=tb:=e;have:=H.out.lt (.inl rfl:FM tb ha ns tb);omega)).trans (hgx.heap gB.out.2.1);have aCr:w4.heap.size<=(w7.setCell ⟨tb,9,none⟩ (.int .i64 z)).heap.size:=by have h1:=hgx.size;have h2:=Zo.1;simp;omega
   have bz:=ae (ag CJ akg);generalize w7.setCell ⟨tb,9,none⟩ (.int .i64 z)=wz at*;clear mE eK f9 NB NC CJ akg aU t9 lt q0 q1 q2 q3 lq dF hgx;have Zp:Hid (z+((xk.size+yd.length+16:Nat):Int)=(C':Int)):=ae (by have h1:=gB.out.2.2.1;have h2:=gB.out.2.2.2.2.2;have h3:iH ⟨yk,ys,yg,yl⟩=sy:=akf;have h4:iH ⟨xk,xs,xg,yd⟩=xk.size+yd.length+16:=rfl;omega)
   have Zq:Hid (C'<=2000000000000):=ae NA;have Zr:=ae gB.out.2.2.2.2.1;have ND:=ae (ag aCr Zo.2);clear gB CI akf NA Zo;have eK:=bz.out.1.self;obtain⟨t9,lt⟩:wz.cell? ⟨tb,9,none⟩=some (.int .i64 z)/\tb<wz.heap.size:=⟨by simp[World.cell?,eK],af eK⟩
   obtain⟨q0,q1,q2,q3⟩:=cX bz.out.2;have lq:=af bz.out.2;have iT:=HX.out.2.2.2.2.2;have dM:=Hy.out.2;have CI:=ae (λW=>YN W xk xs xg va yd.length vc (by omega) (by omega));obtain⟨sx,Am⟩:∃sx,xk.size+yd.length+16=sx:=⟨_,rfl⟩
   rw[Am]at CI;have nS:IntKind.i64.wrap (z+(sx:Int))=(C':Int):=by
    have h1:z+(sx:Int)=(C':Int):=by rw[<-Am];exact Zp.out
    rw[h1];have h2:=Zq.out;exact aQ _ (by omega)
   clear eK iT dM Am
   go_upto_region 7 with fail
   have aU:=Grow.cells (w:=wz);refine ue (λV=>Below wz.heap.size wz V) [(0,false),(1,false),(2,false),(3,false),(4,false),(5,true),(6,false),(7,false),(8,false)] 9 (by kernel_rfl) (by kernel_rfl) (bB λ_ _ _ _ _ h=>h) (by((repeat (first|exact bW _ _|assumption|refine cC ?_|refine cD ?_|refine cw ?_ ?_ _|refine cB ?_ ?_ _))<;>try (first|omega|(simp<;>omega)))) ?_;simp only[cm,nth]
   repeat ((first|(apply az;rfl;rintro W hW;go_simp;with_reducible rfl)|(apply aA;rfl));simp only[ah,List.set])
   refine bw (by rfl) (by go_simp) (CI.out wz.drew) ?_;rintro e' w8 ⟨rfl,cW⟩;have hgx:=(ay wz).trans cW;refine⟨_,rfl,hgx,?_⟩
   try simp only[ah,List.set,aC]
   repeat ((first|(apply az;rfl;rintro W hW;go_simp;with_reducible rfl)|(apply aA;rfl));simp only[ah,List.set])
   refine bg (uf (by rfl) (λK hK=>?_));have mE:=bz.out.1.grow hgx;have eK:=mE.self;have f9:=bG eK;have NB:w8.cell? ⟨tb,9,none⟩=some (.int .i64 z):=by simp[World.cell?,eK]
   have NC:=af eK;go_simp;refine hK _ _ ?_;clear hK K
   try simp only[Act.put,nZ,List.set_cons_zero,lU]
   have CJ:=mE.size Zm (C':Int);have sf:Hid (w4.heap.size<=(w8.setCell ⟨tb,9,none⟩ (.int .i64 (C':Int))).heap.size):=ae (by have h1:=hgx.size;have h2:=ND.out.1;simp;omega);have aZ:=ae CJ;generalize w8.setCell ⟨tb,9,none⟩ (.int .i64 (C':Int))=wf at*;clear mE eK f9 NB NC CJ aU t9 lt q0 q1 q2 q3 lq cW hgx nS;go_wp2;refine bodyPost_ret (results_none rfl _ _ _) rfl ?_;have hE:=aZ.out;have hdr:Iw N wf dv ds:=H.out.draws.kp ⟨hE.sep.size,λb hb hl=>hE.sep.out b hl (HX.out.2.2.1 b hb).2⟩;refine⟨rfl,bR,eT,?_,hE.list,hE.sep⟩;have Zs:∀b,(N b\/(w.heap.size<=b/\b<w4.heap.size))->(N b\/(w.heap.size<=b/\b<wf.heap.size/\¬FM tb ha bR b)):=λb hb=>by
    rcases hb with hb|⟨hb1,hb2⟩
    .exact .inl hb
    .have s1:=sf.out;refine .inr ⟨hb1,by omega,λhf=>?_⟩;exact ND.out.2 b hb1 hb2 hf
   exact⟨by rw[Zr.out];exact hE.self,hE.skip.mono Zs,hE.aX,hdr.mono (λb hb=>.inl hb)⟩
  .simp only at hc'
   generalize hC:costs (ns.map (λn=>n.x.e))=C at*;generalize Nz:costs (bR.map (λn=>n.x.e))=C' at*;have mE:=hP.toZ;rw[hC]at mE;have NA:C'<=2000000000000:=by omega
   obtain⟨z,hz⟩:∃z:Int,(C:Int)=z:=⟨_,rfl⟩
   have Zp:Hid (z+((xk.size+yd.length+16:Nat):Int)=(C':Int)):=ae (by omega);rw[hz]at mE;have bz:=ae (ag mE gV);have Zq:Hid (C'<=2000000000000):=ae NA;have Zr:=ae Nz;have ND:=ae jR;clear mE gV hz hC Nz hc' hP akd Md qp jR NA;have eK:=bz.out.1.self;obtain⟨t9,lt⟩:wc.cell? ⟨tb,9,none⟩=some (.int .i64 z)/\tb<wc.heap.size:=⟨by simp[World.cell?,eK],af eK⟩
   obtain⟨q0,q1,q2,q3⟩:=cX bz.out.2;have lq:=af bz.out.2;have iT:=HX.out.2.2.2.2.2;have dM:=Hy.out.2;have CI:=ae (λW=>YN W xk xs xg va yd.length vc (by omega) (by omega));obtain⟨sx,Am⟩:∃sx,xk.size+yd.length+16=sx:=⟨_,rfl⟩
   rw[Am]at CI;have nS:IntKind.i64.wrap (z+(sx:Int))=(C':Int):=by
    have h1:z+(sx:Int)=(C':Int):=by rw[<-Am];exact Zp.out
    rw[h1];have h2:=Zq.out;exact aQ _ (by omega)
   clear eK iT dM Am
   go_upto_region 7 with fail
   have aU:=Grow.cells (w:=wc);refine ue (λV=>Below wc.heap.size wc V) [(0,false),(1,false),(2,false),(3,false),(4,false),(5,true),(6,false),(7,false),(8,false)] 9 (by kernel_rfl) (by kernel_rfl) (bB λ_ _ _ _ _ h=>h) (by((repeat (first|exact bW _ _|assumption|refine cC ?_|refine cD ?_|refine cw ?_ ?_ _|refine cB ?_ ?_ _))<;>try (first|omega|(simp<;>omega)))) ?_;simp only[cm,nth]
   repeat ((first|(apply az;rfl;rintro W hW;go_simp;with_reducible rfl)|(apply aA;rfl));simp only[ah,List.set])
   refine bw (by rfl) (by go_simp) (CI.out wc.drew) ?_;rintro e' w8 ⟨rfl,cW⟩;have hgx:=(ay wc).trans cW;refine⟨_,rfl,hgx,?_⟩
   try simp only[ah,List.set,aC]
   repeat ((first|(apply az;rfl;rintro W hW;go_simp;with_reducible rfl)|(apply aA;rfl));simp only[ah,List.set])
   refine bg (uf (by rfl) (λK hK=>?_));have mE:=bz.out.1.grow hgx;have eK:=mE.self;have f9:=bG eK;have NB:w8.cell? ⟨tb,9,none⟩=some (.int .i64 z):=by simp[World.cell?,eK]
   have NC:=af eK;go_simp;refine hK _ _ ?_;clear hK K
   try simp only[Act.put,nZ,List.set_cons_zero,lU]
   have CJ:=mE.size Zm (C':Int);have sf:Hid (w4.heap.size<=(w8.setCell ⟨tb,9,none⟩ (.int .i64 (C':Int))).heap.size):=ae (by have h1:=hgx.size;have h2:=ND.out.1;simp;omega);have aZ:=ae CJ;generalize w8.setCell ⟨tb,9,none⟩ (.int .i64 (C':Int))=wf at*;clear mE eK f9 NB NC CJ aU t9 lt q0 q1 q2 q3 lq cW hgx nS;go_wp2;refine bodyPost_ret (results_none rfl _ _ _) rfl ?_;have hE:=aZ.out;have hdr:Iw N wf dv ds:=H.out.draws.kp ⟨hE.sep.size,λb hb hl=>hE.sep.out b hl (HX.out.2.2.1 b hb).2⟩;refine⟨rfl,bR,eT,?_,hE.list,hE.sep⟩;have Zs:∀b,(N b\/(w.heap.size<=b/\b<w4.heap.size))->(N b\/(w.heap.size<=b/\b<wf.heap.size/\¬FM tb ha bR b)):=λb hb=>by
    rcases hb with hb|⟨hb1,hb2⟩
    .exact .inl hb
    .have s1:=sf.out;refine .inr ⟨hb1,by omega,λhf=>?_⟩;exact ND.out.2 b hb1 hb2 hf
   exact⟨by rw[Zr.out];exact hE.self,hE.skip.mono Zs,hE.aX,hdr.mono (λb hb=>.inl hb)⟩
end
theorem aCs(w:World):(Instr.makeSlice 174 (.int .i64 12) (.int .i64 12)).run Tryz.prog w=.ok (.slice (some ⟨w.heap.size,0,none⟩) 12 12) (w.alloc (.cells #[.pointer none,.pointer none,.pointer none,.pointer none,.pointer none,.pointer none,.pointer none,.pointer none,.pointer none,.pointer none,.pointer none,.pointer none] 287)):=ajk (k:=12) (aw _) w
theorem akh{w:World}{ds:List Int}(a:Iw N w v ds):
  Calls Tryz.prog 50 #[v] w λe w'=>∃tb ha dv,e=.returned (au tb)/\ed (λb=>w.heap.size<=b/\b<w'.heap.size/\¬FM tb ha [] b) w' tb ha [] 0 dv ds/\Grow w w'/\w.heap.size<=tb/\w.heap.size<=ha/\Go.Gl.Row1 3 w.heap.size w' dv (ds.map (λx=>.int .i64 x)):=by
 have u:ds.length<=1000000000:=by obtain⟨_,_,_,a,_⟩:=a;exact a
 have o:=ae (ajh a);obtain⟨b,b,rfl,_⟩:=a;go_enter Tryz.func50,Tryz.ntmps50
 go_wp2_with fail
 (with_reducible refine o.out.mono ?_);rintro e a ⟨dv,rfl,k,q⟩;have f:=k;obtain⟨b,c,rfl⟩:=k.slice;rw[bA]at f ⊢;have d:=aCs
 go_upto_region 2 with fail
 have l:=ar a (.cells #[.string ⟨#[]⟩,.int .u64 0,.bool false,.slice none 0 0,.slice none 0 0,.nilFunc,.int .i64 0,.int .i64 0,.slice b ds.length c,.int .i64 0] 181);have r:=ax a (.cells #[.string ⟨#[]⟩,.int .u64 0,.bool false,.slice none 0 0,.slice none 0 0,.nilFunc,.int .i64 0,.int .i64 0,.slice b ds.length c,.int .i64 0] 181);have d:=q.size;have h:(a.alloc (.cells #[.string ⟨#[]⟩,.int .u64 0,.bool false,.slice none 0 0,.slice none 0 0,.nilFunc,.int .i64 0,.int .i64 0,.slice b ds.length c,.int .i64 0] 181)).heap.size=a.heap.size+1:=World.size_alloc _ _;generalize a.alloc (.cells #[.string ⟨#[]⟩,.int .u64 0,.bool false,.slice none 0 0,.slice none 0 0,.nilFunc,.int .i64 0,.int .i64 0,.slice b ds.length c,.int .i64 0] 181)=i at*;generalize m:a.heap.size=tb at*;have e:=ar i (.cells #[.pointer none,.pointer none,.pointer none,.pointer none,.pointer none,.pointer none,.pointer none,.pointer none,.pointer none,.pointer none,.pointer none,.pointer none] 287);have j:=ax i (.cells #[.pointer none,.pointer none,.pointer none,.pointer none,.pointer none,.pointer none,.pointer none,.pointer none,.pointer none,.pointer none,.pointer none,.pointer none] 287);have d:=e.heap r;rw[h]at j;have a:=ae h;have a:i.heap.size=tb+1:=h;have t:=ae m;clear h m;obtain⟨a,h⟩:∃a,i.alloc (.cells #[.pointer none,.pointer none,.pointer none,.pointer none,.pointer none,.pointer none,.pointer none,.pointer none,.pointer none,.pointer none,.pointer none,.pointer none] 287)=a:=⟨_,rfl⟩
 rw[h]at e j d;have h:=Go.Gl.aK d 4 (.slice (some ⟨tb+1,0,none⟩) 12 12);simp only[nZ,List.set_cons_zero,lU]at h;have i:=Go.Gl.aK h 5 (.func (.func 93) #[] #[]);simp only[nZ,List.set_cons_zero,lU]at i;have m:w.heap.size<=tb:=by omega
 have s:Grow w ((a.setCell ⟨tb,4,none⟩ (.slice (some ⟨tb+1,0,none⟩) 12 12)).setCell ⟨tb,5,none⟩ (.func (.func 93) #[] #[])):=((q.trans (l.trans e)).setCell (p:=⟨tb,4,none⟩) m _).setCell (p:=⟨tb,5,none⟩) m _;have p:((a.setCell ⟨tb,4,none⟩ (.slice (some ⟨tb+1,0,none⟩) 12 12)).setCell ⟨tb,5,none⟩ (.func (.func 93) #[] #[])).heap[tb+1]?=some (.cells #[.pointer none,.pointer none,.pointer none,.pointer none,.pointer none,.pointer none,.pointer none,.pointer none,.pointer none,.pointer none,.pointer none,.pointer none] 287 (0,0)):=by rw[aN _ _ _ _ (by simp),aN _ _ _ _ (by simp)];exact j
 have q:Go.Gl.Row1 3 w.heap.size ((a.setCell ⟨tb,4,none⟩ (.slice (some ⟨tb+1,0,none⟩) 12 12)).setCell ⟨tb,5,none⟩ (.func (.func 93) #[] #[])) (.slice b ds.length c) (ds.map (λx=>.int .i64 x)):=by
  refine((f.grow (l.trans e))).keep (λg v=>?_);have w:=(f.lt v).2;rw[t.out]at w;have t:g≠tb:=by omega
  rw[aN _ _ _ _ t,aN _ _ _ _ t]
 have t:=af d;obtain⟨t,t⟩:a.cell? ⟨tb,4,none⟩=some (.slice none 0 0)/\a.cell? ⟨tb,5,none⟩=some .nilFunc:=by simp[World.cell?,d]
 have a:=bG d;have t:=ae (ag i (ag s (ag p q)));clear h i s p q d j l e r k f o;have a:∀W,(store ⟨tb,5,none⟩ (.func (.func 93) #[] #[])).run Tryz.prog W=stored Tryz.prog W ⟨tb,5,none⟩ (.func (.func 93) #[] #[]) .plain:=λW=>run_store Tryz.prog W ⟨tb,5,none⟩ (.func (.func 93) #[] #[]) .plain rfl
 go_wp2;go_ret;have a:=t.out;have d:(Value.slice (some ⟨tb+1,0,none⟩) 12 12)=.slice (some ⟨(bP tb (tb+1)).arr,0,none⟩) 12 12:=rfl;refine⟨tb,tb+1,.slice b ds.length c,rfl,⟨a.1,⟨λn b=>(by cases b),⟨a.2.2.1,trivial⟩,λn b=>(by cases b),List.nodup_nil,by simp,λn b=>(by cases b),cx.nil⟩,aY _,?_⟩,a.2.1,m,by omega,a.2.2.2⟩;refine Nc a.2.2.2 u (λg e=>?_);obtain⟨c,d⟩:=a.2.2.2.lt e;refine⟨c,d,λc=>?_⟩;obtain⟨cur,d⟩:=a.2.2.2.block e;rcases c with c|c|⟨n,b,_⟩
 .rw[c,a.1]at d;exact absurd (cp (bh d)).2.1 (by decide)
 .rw[c,a.2.2.1]at d;exact absurd (cp (bh d)).2.1 (by decide)
 .cases b
theorem aCt(a:Iw N w v ds):
  Calls Tryz.prog 50 #[v] w λe w'=>∃tb ha dv,e=.returned (au tb)/\ed (λb=>w.heap.size<=b/\b<w'.heap.size/\¬FM tb ha [] b) w' tb ha [] 0 dv ds/\Grow w w'/\w.heap.size<=tb/\w.heap.size<=ha:=by
 refine(akh a).mono ?_;rintro e w' ⟨tb,ha,dv,a,b,c,d,e,_⟩;exact⟨tb,ha,dv,a,b,c,d,e⟩
end Go.Proofs.YtoolkdapflaeeaaGreatDoor
namespace Go.Proofs.YtoolkdapflaeeaaGreatDoor
open Go.RowKit Go.Gl
abbrev W0:Fence:=Fence.wide
def CK{a:Type}(P:Program)(f:FuncId)(lb:Array Value)(R:a->Array Value->World->Prop)(N:Nat->Prop)(xs:List a)(w:World):Prop:=
 ∀(l:Nat)(b e:List a->World->Prop)(W:World),Kp N w W->OwnFrom W.heap.size b->OwnFrom W.heap.size e->
  (∀a x g v c,xs=a++x::g->b a c->R x v c->YieldAt W0 3 P l v c λd W'=>
   (d=.returned (.bool true)/\b (a++[x]) W'/\Kp N c W')\/(d=.returned (.bool false)/\e (a++[x]) W'))->
  b [] W->
  CallsIn W0 3 P f (#[.func (.yield l) #[] #[]]++lb) W λd W'=>(∃v,d=.returned v)/\(b xs W'\/∃a x g,xs=a++x::g/\e (a++[x]) W')
theorem Kp.putObj{l:Nat}(o:Obj)(a:¬N l):Kp N W (W.putObj l o):=
 Kp.grown (grownBy_putObj' W l o) (λb b=>by cases b;exact a)
def aCu{a:Type}(B:Nat)(N:Nat->Prop)(b:List a->World->Prop)(c:Code->List a->World->Prop)(xs:List a)(W:World):Exit->Act->World->Prop:=ownPostG B (Kp N) b c xs W
theorem Zu{α:Type}{P:Program}{g:Operand}{ps:Array Tmp}{assign body:Code}{Q:Exit->Act->World->Prop}{a:Act}{w:World}{gf:Nat}{lb:Array Value}(hg:a.eval g=.func (.func gf) #[] lb)(eg:∀args w,(callFunc gf args).run P w=.ok (.enter gf args) w){R:α->Array Value->World->Prop}{xs:List α}(hs:CK P gf lb R N xs w0)(hk:Kp N w0 w)(hN:∀b,N b->b<w.heap.size)(fH:∀x v W,R x v W->v.size=ps.size)(hR:∀x v,OwnFrom w.heap.size (λ(_:Unit) W=>R x v W))(I:List α->World->Prop)(Ix:Code->List α->World->Prop)(hI:OwnFrom w.heap.size I)(Fv:∀c,OwnFrom w.heap.size (Ix c))(h0:I [] w)(aCv:∀(l:Nat)(pre:List α)(x:α)(rest:List α)(v:Array Value) (W:World),xs=pre++x::rest->w.heap.size<=l->w.heap.size<=W.heap.size->I pre W->R x v W->
   assign.wpIn (W0.inRound l) 3 P (Exit.then (λa' W'=>Grow W W'/\∀W2:World,W'.heap.size<=W2.heap.size->(∀(b:Nat) arr t f,W'.heap[b]?=some (Obj.cells arr t f)->W2.heap[b]?=some (Obj.cells arr t f))->I pre W2->R x v W2->
    body.wpIn (W0.inRound l) 3 P (aCu w.heap.size N I Ix (pre++[x]) W2) a' W2) (λ_ _ _=>False)) {tmps:=(ps.zip v).foldl (λt (p,v)=>t.setIfInBounds p v) a.tmps,defers:=[]} W)(hdone:∀(D:Nat)(W:World),w.heap.size<=D->I xs W->W.heap[D]?=some (.deferred (some []))->Q .normal {a with defers:={target:=.collected D,args:=#[]}::a.defers} W)(aCw:∀(D:Nat)(c:Code)(pre:List α)(x:α)(rest:List α) (W:World),w.heap.size<=D->xs=pre++x::rest->Ix c (pre++[x]) W->W.heap[D]?=some (.deferred (some []))->c.wp P Q {a with defers:={target:=.collected D,args:=#[]}::a.defers} W):
  (Code.rangeFunc g ps assign body).wp P Q a w:=by
 refine(wpIn_wide (n:=4)).1 ?_;refine wpIn_rangeFunc ?_;intro fn hfn;obtain⟨rec,qW⟩:∃rec:LoopState->Option Code->Loop,rec=λst pe=>{state:=st,pending:=pe,fn,tmps:=a.tmps,params:=ps,assign,body,defers:=w.heap.size}:=⟨_,rfl⟩
 obtain⟨W1,hW1⟩:∃W1,(w.alloc (.deferred (some []))).alloc (.loop (rec .ready none))=W1:=⟨_,rfl⟩
 have hL1:W1.heap[w.heap.size+1]?=some (.loop (rec .ready none)):=by rw[<-hW1];have:=World.alloc_heap_new (w.alloc (.deferred (some []))) (.loop (rec .ready none));rwa[World.size_alloc]at this
 have Td:W1.heap[w.heap.size]?=some (.deferred (some [])):=by rw[<-hW1];exact(Below.heap_alloc _ _ _ (by simp)).trans (World.alloc_heap_new w _)
 have hI1:I [] W1:=by rw[<-hW1];exact hI.alloc _ (hI.alloc _ h0)
 have hz1:W1.heap.size=w.heap.size+2:=by rw[<-hW1];simp
 have hb1:Kp N w0 W1:=by rw[<-hW1];exact hk.trans (.bO ((ar w _).trans ((ar _ _))))
 have hNl:∀b,w.heap.size<=b->¬N b:=λb hb hn=>by have:=hN b hn;omega
 refine⟨w.heap.size+1,[{target:=.collected w.heap.size,args:=#[]}],W1,{target:=.fn (.func gf) lb,args:=#[.func (.yield (w.heap.size+1)) #[] #[]]},W1,gf,
  #[.func (.yield (w.heap.size+1)) #[] #[]]++lb,W1,?_,?_,?_,?_,(λh=>by cases h),?_⟩
 .rw[<-hW1,qW];exact run_enterLoop_outer _ _ _ _ _
 .simp only[resolve,hg];simp[go_sem]
 .intro f' _;trivial
 .simp[invoke,go_sem,eg]
 .have eU:∀{A B:World}{row:Option Nat},(∀r,row=some r->W1.heap.size<=r/\∃o:Obj,A.heap[r]?=some o/\o.isCells=false)->(∀r,row=some r->w.heap.size<=r/\∃o:Obj,A.heap[r]?=some o/\o.isCells=false):=
   λhr r e=>⟨by have:=(hr r e).1;omega,(hr r e).2⟩
  have Fw:∀{A B:World}{row:Option Nat}(b:Nat)(o:Obj),b<W1.heap.size->A.grownBy B row->(∀r,row=some r->W1.heap.size<=r/\∃o:Obj,A.heap[r]?=some o/\o.isCells=false)->A.heap[b]?=some o->B.heap[b]?=some o:=
   λ{A B row} b o hb hg hr ho=>by rw[hg.block b (af ho) (λe=>by have:=(hr b e.symm).1;omega)];exact ho
  refine(hs (w.heap.size+1)
   (λpre W=>I pre W/\W.heap[w.heap.size+1]?=some (.loop (rec .ready none))/\W.heap[w.heap.size]?=some (.deferred (some [])))
   (λpre W=>∃c,Ix c pre W/\W.heap[w.heap.size+1]?=some (.loop (rec .done (some c)))/\W.heap[w.heap.size]?=some (.deferred (some [])))
   W1 hb1
   (λs A B row hs fj hr=>⟨hI s A B row hs.1 fj (eU (B:=B) hr),Fw _ _ (by omega) fj hr hs.2.1,Fw _ _ (by omega) fj hr hs.2.2⟩)
   (λs A B row hs fj hr=>by obtain⟨c,hc,hl,hk⟩:=hs;exact⟨c,Fv c s A B row hc fj (eU (B:=B) hr),Fw _ _ (by omega) fj hr hl,Fw _ _ (by omega) fj hr hk⟩)
   ?_ ⟨hI1,hL1,Td⟩).mono ?_
  .rintro pre x rest v W dC ⟨hi,hl,Fx⟩ Ao
   have hlt:w.heap.size+1<W.heap.size:=af hl;have hy:=run_yield (P:=P) (args:=v) hl (by rw[qW];exact fH x v W Ao);rw[qW]at hy;refine⟨fn,_,assign,body,hy,roundIn_of_wpIn hfn (wpIn_mono (aCv (w.heap.size+1) pre x rest v W dC (by omega) (by omega) hi Ao) ?_)⟩;clear hy;rintro e0 a' Wa zI;cases e0<;>try exact zI.elim
   obtain⟨ai,aCz⟩:=zI;have hia:=hI pre W Wa none hi ⟨ai.os,ai.tape,ai.output,ai.size,λb hb _=>ai.block b hb⟩ (λr e=>by cases e);have hRa:=hR x v () W Wa none Ao ⟨ai.os,ai.tape,ai.output,ai.size,λb hb _=>ai.block b hb⟩ (λr e=>by cases e);replace hl:=ai.heap hl;replace Fx:=ai.heap Fx;have Jw:Kp N W Wa:=.bO ai;clear hi Ao hlt;have hlt:w.heap.size+1<Wa.heap.size:=af hl;refine⟨_,run_beginRound hl (by rw[qW]),?_⟩;have hl2:(Wa.putObj (w.heap.size+1) (.loop {rec .ready none with state:=.busy})).heap[w.heap.size+1]?=some (.loop {rec .ready none with state:=.busy}):=World.putObj_heap_same hlt;have hk2:(Wa.putObj (w.heap.size+1) (.loop {rec .ready none with state:=.busy})).heap[w.heap.size]?=some (.deferred (some [])):=(World.putObj_heap_other (by omega)).trans Fx;have hw2:Kp N W (Wa.putObj (w.heap.size+1) (.loop {rec .ready none with state:=.busy})):=Jw.trans (Kp.putObj _ (hNl _ (by omega)));have ahZ:∀(b:Nat) arr t f,Wa.heap[b]?=some (Obj.cells arr t f)->(Wa.putObj (w.heap.size+1) (.loop {rec .ready none with state:=.busy})).heap[b]?=some (Obj.cells arr t f):=λb arr t f hb=>
    (World.putObj_heap_other (λe=>by subst e;rw[hl]at hb;cases hb)).trans hb
   have Te:Wa.heap.size<=(Wa.putObj (w.heap.size+1) (.loop {rec .ready none with state:=.busy})).heap.size:=(grownBy_putObj' Wa _ _).size;refine wpIn_mono (aCz _ Te ahZ (hI.putObj _ hia (by omega) hl rfl) ((hR x v).putObj (s:=()) _ hRa (by omega) hl rfl)) ?_;have fin:∀(jump:Option Code)(W3:World),KeepsFrom w.heap.size (Wa.putObj (w.heap.size+1) (.loop {rec .ready none with state:=.busy})) W3->
     (Instr.endRound (w.heap.size+1) jump).run P W3=.ok (.bool jump.isNone) (W3.putObj (w.heap.size+1) (.loop (rec (if jump.isNone then .ready else .done) jump)))/\
     W3.heap[w.heap.size+1]?=some (.loop {rec .ready none with state:=.busy})/\
     (W3.putObj (w.heap.size+1) (.loop (rec (if jump.isNone then .ready else .done) jump))).heap[w.heap.size+1]?=some (.loop (rec (if jump.isNone then .ready else .done) jump))/\
     (W3.putObj (w.heap.size+1) (.loop (rec (if jump.isNone then .ready else .done) jump))).heap[w.heap.size]?=some (.deferred (some [])):=λjump W3 hk3=>by
    have jU:=hk3.same _ _ (by omega) hl2 rfl;have:=run_endRound (P:=P) jump jU;rw[qW]at this ⊢;exact⟨this,by rw[qW]at jU;exact jU,World.putObj_heap_same (af jU),(World.putObj_heap_other (by omega)).trans (hk3.same _ _ (aw _) hk2 rfl)⟩
   rintro e a3 W3 hp;cases e with
   |normal=>obtain⟨hk3,aCC,Fy⟩:=hp;obtain⟨hr,jU,hl4,hk4⟩:=fin none W3 hk3;exact⟨_,_,hr,.inl ⟨rfl,⟨hI.putObj _ Fy (by omega) jU rfl,hl4,hk4⟩,(hw2.trans aCC).trans (Kp.putObj _ (hNl _ (by omega)))⟩⟩
   |ret=>obtain⟨hk3,Fy⟩:=hp;obtain⟨hr,jU,hl4,hk4⟩:=fin (some .ret) W3 hk3;exact⟨_,_,hr,.inr ⟨rfl,.ret,(Fv _).putObj _ Fy (by omega) jU rfl,hl4,hk4⟩⟩
   |exit id=>obtain⟨hk3,Fy⟩:=hp;obtain⟨hr,jU,hl4,hk4⟩:=fin (some (.exit id)) W3 hk3;exact⟨_,_,hr,.inr ⟨rfl,.exit id,(Fv _).putObj _ Fy (by omega) jU rfl,hl4,hk4⟩⟩
   |goto t=>obtain⟨hk3,Fy⟩:=hp;obtain⟨hr,jU,hl4,hk4⟩:=fin (some (.goto t)) W3 hk3;exact⟨_,_,hr,.inr ⟨rfl,.goto t,(Fv _).putObj _ Fy (by omega) jU rfl,hl4,hk4⟩⟩
   |panic ch=>exact hp.elim
   |outgrown=>exact hp.elim
  .rintro e W2 ⟨⟨v,rfl⟩,(⟨hi,hl,Fx⟩|⟨pre,x,rest,dC,c,hi,hl,Fx⟩)⟩
   .exact⟨none,_,by have:=run_endLoop (P:=P) hl (by rw[qW];simp);rw[qW]at this;exact this,hdone _ _ (aw _) (hI.putObj _ hi (by omega) hl rfl) ((World.putObj_heap_other (by omega)).trans Fx)⟩
   .exact⟨some c,_,by have:=run_endLoop (P:=P) hl (by rw[qW];simp);rw[qW]at this;exact this,wpIn_wide.2 (aCw _ c pre x rest _ (aw _) dC ((Fv c).putObj _ hi (by omega) hl rfl) ((World.putObj_heap_other (by omega)).trans Fx))⟩
end Go.Proofs.YtoolkdapflaeeaaGreatDoor
namespace Go.Proofs.YtoolkdapflaeeaaGreatDoor
open Go.RowKit Go.Gl Go.aF Mn
section
attribute [local go_sem] Oper.semAt_some
def Rt(N:Nat->Prop)(y:Ev)(v:Array Value)(W:World):Prop:=v=#[.agg (cd y)]/\lM N W y
theorem akk(e:Nat){P:Program}{l:Nat}{f:FuncId}{a:Array Value}{b c:Code}{R:Ending->World->Prop}(d:RoundIn W0 m P l f a b c w R):RoundIn W0 e P l f a b c w R:=
 ⟨d.1,λa b _=>d.2 a b (λa a=>by cases a)⟩
theorem Zv{a:Type}{c:a->World->Prop}{s:a}(d:OwnFrom B c)(e:c s W)(a:Grow W W'):c s W':=
 d s W W' none e ⟨a.os,a.tape,a.output,a.size,λb c _=>a.block b c⟩ (λa a=>by cases a)
theorem akl{ns:List Nd}(v:ed N w tb ha ns aX dv ds)(x:Ev){xa:Option Addr}{xl xc:Nat}(a:x.v=.slice xa xl xc){j o:Nat}{k:TypeId}(A:w.heap[j]?=some (.cells #[au tb] k (0,0)))(h:w.heap[o]?=some (.cells (cd x) 60 (0,0))):
  CK Tryz.prog 216 #[.pointer (some ⟨j,0,none⟩),.pointer (some ⟨o,0,none⟩)] (Rt N) (λb=>N b\/FM tb ha ns b\/b=j\/b=o) ((gH x.e ns).map Nd.x) w:=by
 intro l T c W t M c O P;obtain⟨⟨c,xs,d,e⟩,xv⟩:=x;simp only at a;subst a;have B:∀W',Kp (λb=>N b\/FM tb ha ns b\/b=j\/b=o) w W'->ed N W' tb ha ns aX dv ds:=λW' u=>v.keep (λb a=>u.same b (.inr (.inl a)) (v.lt a)) (u.mono (λb a=>.inl a))
 have i:=B W t;have C:W.heap[j]?=some (.cells #[au tb] k (0,0)):=(t.same j (.inr (.inr (.inl rfl))) (af A)).trans A;have D:W.heap[o]?=some (.cells (cd ⟨⟨c,xs,d,e⟩,.slice xa xl xc⟩) 60 (0,0)):=(t.same o (.inr (.inr (.inr rfl))) (af h)).trans h;have U:W.cell? ⟨j,0,none⟩=some (au tb):=by simp[World.cell?,C]
 obtain⟨E,F,G,H⟩:=cX D;have a:=af C;have a:=af D;obtain⟨a,I,Q⟩:=levels ⟨c,xs,d,e⟩ ns tb ha;have J:=ajb i ⟨⟨c,xs,d,e⟩,.slice xa xl xc⟩ (xa:=xa) (xl:=xl) (xc:=xc) rfl;rw[Q]at J;have f:∀f:World,(Instr.index 288 (.agg #[au (a 0).blk,au (a 1).blk,au (a 2).blk,au (a 3).blk,au (a 4).blk,au (a 5).blk,au (a 6).blk,au (a 7).blk,au (a 8).blk,au (a 9).blk,au (a 10).blk,au (a 11).blk]) (.int .i64 0)).run Tryz.prog f=.ok (au (a 0).blk) f:=λf=>by simp[Instr.index,run_underlying Tryz.underlying288,go_sem]
 have R:∀f,Grow W f->f.cell? ⟨(a 0).blk,4,none⟩=some (.slice (some ⟨(a 0).arr,0,none⟩) (a 0).h (a 0).h)/\(a 0).blk<f.heap.size/\f.cell? ⟨(a 0).arr,0,none⟩=some (cz 0 (gH ⟨c,xs,d,e⟩ ns))/\(a 0).arr<f.heap.size/\(0:Int)<((a 0).h:Int):=λf p=>by
  have x:=i.grow p;obtain⟨g,m,q,r⟩:=last_zero (L:=bP tb ha::cj ⟨c,xs,d,e⟩ ns) (by simp) (λn l=>by
   rcases bI.1 l with rfl|l
   .show 1<=12;omega
   .exact(i.skip.hs n (by rw[<-kr ⟨c,xs,d,e⟩ ns];exact jg _ l)).1)
  have z:a 0=m:=by have:=I 0 (by decide);rw[r]at this;exact(bh this).symm
  have y:bP tb ha::ns=g++m::gH ⟨c,xs,d,e⟩ ns:=by
   have K:bP tb ha::ns=(bP tb ha::cj ⟨c,xs,d,e⟩ ns)++gH ⟨c,xs,d,e⟩ ns:=by rw[gP,kr]
   rw[K,q];simp
  have a:m∈bP tb ha::ns:=by rw[y];simp
  have L:0<m.h:=by
   rcases bI.1 a with rfl|l
   .show 0<12;omega
   .exact(i.skip.hs m l).1
  obtain⟨q,r⟩:=x.tail a;obtain⟨k,s⟩:=x.link y L;rw[z];exact⟨q,r,k,s,by omega⟩
 have a:=ae R;have S:=ae B;have V:=ae t;have z:=ae I;have W:=ae J;have z:=ae v;have X:=ae O;have Y:=ae P;have Z:=ae M;clear R v A h B i C D I J Q t O P M;refine callsIn_of_wp Tryz.func216 rfl trivial ?_ rfl;simp only[Tryz.ntmps216,List.size_toArray,dD,iJ,Nat.reduceAdd,Nat.reduceSub,Array.replicate_succ,Array.replicate_zero,List.push_toArray,List.append_toArray,iK,gP]
 gi_wp2_with (refine⟨trivial,?_⟩;gi_at_call 182;refine(callsIn_wide.2 W.out).mono ?_;rintro R w' ⟨rfl,p⟩;obtain⟨q,r,k,s,L⟩:=a.out w' p)
 have A:=Zv Z.out Y.out p;have B:=V.out.trans (.bO p);have C:((gH ⟨c,xs,d,e⟩ ns).map Nd.blk).Nodup:=by have a:=z.out.skip.Jl;rw[<-kr ⟨c,xs,d,e⟩ ns,dS]at a;exact(List.nodup_append.1 a).2.1
 have D:∀n∈gH ⟨c,xs,d,e⟩ ns,n∈ns:=λn l=>by rw[<-kr ⟨c,xs,d,e⟩ ns];exact nz _ l
 have I:∀a:List Nd,(∀n∈a,n∈ns)->cz 0 a=match a with| []=>.pointer none|n::_=>au n.blk:=λa t=>by
  cases a with
  |nil=>rfl
  |cons n J=>simp only;rw[cz,if_pos (show 0<n.h from(z.out.skip.hs n (t n (ej ..))).1)]
 generalize M:gH ⟨c,xs,d,e⟩ ns=t at*;have O:=ae C;have P:=ae D;have v:=ae I;have v:=ae M;have Q:=ae (ag A B);clear A B C D I M p q r k s L U E F G H
 gi_loopw [4] (λp wr=>∃(g a:List Nd),p=cz 0 a/\t=g++a/\Kp (λb=>N b\/FM tb ha ns b\/b=j\/b=o) w wr/\T (g.map Nd.x) wr) (λp _=>mleft t p)
 case atStart=>exact⟨[],t,rfl,rfl,Q.out.2,Q.out.1⟩
 case round=>
  obtain⟨g,a,rfl,h,u,A⟩:=hrel;have C:∀n∈a,n∈ns:=λn l=>P.out n (by rw[h];exact nz _ l)
  cases a with
  |nil=>
   have p:cz 0 []=.pointer none:=rfl;rw[p];have l:t=g:=by rw[h,List.append_nil]
   have B:=ae l;clear h l;gi_wp2;go_end0;exact⟨⟨_,rfl⟩,.inl (by rw[v.out,B.out];exact A)⟩
  |cons n a=>
   have l:=C n (ej ..);have D:=z.out.skip.hs n l;have p:cz 0 (n::a)=au n.blk:=by rw[cz,if_pos (show 0<n.h from D.1)]
   rw[p];have i:=S.out wr u;obtain⟨E,F,G,H⟩:=i.aB l;have Q:=af (i.skip.node n l);have p:=ae h;have B:t.map Nd.x=g.map Nd.x++n.x::a.map Nd.x:=by rw[h];simp
   have T:=ae B;obtain⟨I,I,I,I,I,L⟩:=X.out (g.map Nd.x) n.x (a.map Nd.x) #[.agg (cd n.x)] wr B A ⟨rfl,(i.skip.vals n l).1⟩;dsimp only[cd]at I;have M:=λ(f:World)(x:Kp (λb=>N b\/FM tb ha ns b\/b=j\/b=o) w f)=>show(f.cell? ⟨n.blk,4,none⟩=some (.slice (some ⟨n.arr,0,none⟩) n.h n.h)/\n.blk<f.heap.size/\f.cell? ⟨n.arr,0,none⟩=some (cz 0 a)/\n.arr<f.heap.size)from by
    have b:=S.out f x;obtain⟨q,r⟩:=b.tail (fE _ l);have y:bP tb ha::ns=(bP tb ha::cj ⟨c,xs,d,e⟩ ns++g)++n::a:=by
     have K:bP tb ha::ns=(bP tb ha::cj ⟨c,xs,d,e⟩ ns)++gH ⟨c,xs,d,e⟩ ns:=by rw[gP,kr]
     rw[K,v.out,h];simp
    obtain⟨k,s⟩:=b.link y D.1;exact⟨q,r,k,s⟩
   have c:=ae M;have b:(0:Int)<(n.h:Int):=by omega
   clear h B i M C;gi_wp2;refine(akk 2 L).mono ?_;rintro R d (⟨rfl,e,f⟩|⟨rfl,h⟩)
   .have b:=u.trans f
    obtain⟨q,r,k,s⟩:=c.out d b;clear I L E F G H Q A;gi_wp2;go_roundw
    case rel=>exact⟨g++[n],a,rfl,by rw[p.out];simp,b,by rw[dS];exact e⟩
    case measure=>
     have b:=SB O.out p.out;rw[b];cases a with
     |nil=>exact Nat.zero_lt_succ _
     |cons m J=>have b:=z.out.skip.hs m (P.out m (by rw[p.out];simp));rw[cz,if_pos (show 0<m.h from b.1),SB O.out (show t=(g++[n])++m::J by rw[p.out];simp)];simp
   .gi_wp2;refine bodyPost_ret (results_none rfl _ _ _) rfl ?_;exact⟨⟨_,rfl⟩,.inr ⟨g.map Nd.x,n.x,a.map Nd.x,by rw[v.out];exact T.out,h⟩⟩
end
section
attribute [local go_sem] Oper.semAt_some
def nU(N:Nat->Prop)(B:Nat)(W:World)(y:Ev):Prop:=
 Bv W y.v y.e.val/\(y.e.val=[]\/∀b,y.v.ownBlock=some b->N b\/(B<=b/\∃cur f,W.heap[b]?=some (.cells cur 5 f)/\f=(0,0)))
theorem akq(a:Bv W v l)(c:W.heap.size<=W'.heap.size)(d:l≠[]->∀b,v.ownBlock=some b->W'.heap[b]?=W.heap[b]?):Bv W' v l:=by
 obtain⟨e,f,rfl,g,h,i,a⟩:=a;refine⟨e,f,rfl,g,h,i,?_⟩;rcases a with a|⟨b,o,rfl,hb,hc⟩
 .exact .inl a
 .by_cases a:l=[]
  .exact .inl a
  .refine .inr ⟨b,o,rfl,bF hb c,λc x e=>?_⟩;rw[<-hc c x e];simp only[World.cell?,d a b rfl]
theorem nU.keep{y:Ev}(e:nU N B W y)(a:W.heap.size<=W'.heap.size)(i:∀b,N b->W'.heap[b]?=W.heap[b]?)(h:∀(b:Nat)(cur:Array Value)(f:Nat×Nat),B<=b->W.heap[b]?=some (.cells cur 5 f)->W'.heap[b]?=some (.cells cur 5 f)):nU N B W' y:=by
 refine⟨akq e.1 a (λj b g=>?_),e.2.imp id (λc b g=>(c b g).imp id (λ⟨a,cur,f,d,k⟩=>⟨a,cur,f,h b cur f a d,k⟩))⟩;rcases e.2 with c|c
 .exact absurd c j
 .rcases c b g with a|⟨a,cur,f,d,_⟩
  .exact i b a
  .rw[h b cur f a d,d]
theorem nU.slice{y:Ev}(b:nU N B W y):∃a c,y.v=.slice a y.e.val.length c:=b.1.slice
theorem nU.aCJ{y:Ev}(a:nU N B W y)(c:∀b,N b\/B<=b->M b):lM M W y:=
 ⟨a.1,a.2.imp id (λa b d=>c b ((a b d).imp id (λa=>a.1)))⟩
def cQ(B:Nat)(N:Nat->Prop)(W:World)(v:Value)(a:List Ev):Prop:=W.ownsRow B 60 4 v a.length (a.flatMap fZ)/\∀b∈a,nU N B W b
theorem cQ.es{a:List Ev}(c:cQ B N W v a)(d:∀b,N b\/B<=b->M b):Es M W v a:=
 YC.es (B:=B) ⟨c.1,λa b=>(c.2 a b).aCJ d⟩ (λg a=>by
  rcases c.1.2 with⟨b,_⟩|⟨c,c,cur,b,c,_⟩
  .rw[b]at a;cases a
  .rw[b]at a;cases a;exact d _ (.inr c))
theorem sg{a:List Ev}(b:cQ B N W v a)(a:v.ownBlock=some g):B<=g/\∃cur,W.heap[g]?=some (.cells cur 60 (0,0)):=by
 rcases b.1.2 with⟨b,c⟩|⟨c,c,cur,b,c,d,_⟩
 .rw[b]at a;cases a
 .rw[b]at a;cases a;exact⟨c,cur,d⟩
theorem cQ.keep{c:List Ev}(a:cQ B N W v c)(e:W.heap.size<=W'.heap.size)(h:∀b,N b->W'.heap[b]?=W.heap[b]?)(d:∀(b:Nat)(cur:Array Value)(t:TypeId)(f:Nat×Nat),B<=b->(t=5\/t=60)->W.heap[b]?=some (.cells cur t f)->W'.heap[b]?=some (.cells cur t f)):cQ B N W' v c:=by
 refine⟨⟨a.1.1,?_⟩,λc i=>(a.2 c i).keep e h (λb cur f c e=>d b cur _ f c (.inl rfl) e)⟩;rcases a.1.2 with a|⟨g,cap,cur,a,h2,h3,h4⟩
 .exact .inl a
 .exact .inr ⟨g,cap,cur,a,h2,d g cur _ _ h2 (.inr rfl) h3,h4⟩
theorem NG{a:List Ev}(d:cQ B N w v a){x:Ev}(i:nU N B w x)(j:∀b,N b->b<B)(m:B<=w.heap.size)(c:a.length<=1000000000):
  ∃g e w',(Builtin.append_ #[57,57] 57 #[v,.slice (some ⟨w.heap.size,0,none⟩) 1 1]).run Tryz.prog (w.alloc (.cells (cd x) 60))=.ok (.slice (some ⟨g,0,none⟩) (a.length+1) e) w'/\
   cQ B N w' (.slice (some ⟨g,0,none⟩) (a.length+1) e) (a++[x])/\w.grownBy w' v.ownBlock:=by
 obtain⟨h,n,o,p,q⟩:=info_parts Tryz.YE;have r:∀u∈fZ x,u.oneCell'=true:=λu c=>by
  obtain⟨k,l,s⟩:=i.slice;simp only[fZ,bI,List.not_mem_nil,or_false]at c;rcases c with rfl|rfl|rfl|rfl
  .rfl
  .rfl
  .rfl
  .rw[s];rfl
 have s:(w.alloc (.cells (cd x) 60)).heap[w.heap.size]?=some (.cells (cd x) 60 (0,0)):=ax _ _;obtain⟨g,e,w',t,y,z,_,_⟩:=run_append_lies (P:=Tryz.prog) (w.alloc (.cells (cd x) 60)) 57 57 B 60 h _ 4 56 Tryz.underlying57 n o p q rfl (by decide) _ _ _ (fB d.1 (ar _ _))
  ⟨w.heap.size,0,none⟩ 1 1 (fZ x) rfl (λh u c=>World.news_of_block s h u (by simpa[fZ]using c)) r (by decide) (by unfold maxLen;omega) (by omega) (by simp;omega) _ rfl
 have h:w.grownBy w' v.ownBlock:=by obtain⟨k,b,l,n,c⟩:=z;exact⟨k,b,l,aJ (by simp) n,λk l n=>by rw[c k (by simp;omega) n];exact heap_alloc_old _ _ l⟩
 refine⟨g,e,w',t,⟨?_,λe g=>?_⟩,h⟩
 .have k:(a++[x]).flatMap fZ=a.flatMap fZ++fZ x:=by simp
  rw[aM,k];exact y
 .have k:nU N B w e:=by
   rcases dn.1 g with a|a
   .exact d.2 e a
   .rw[cZ.1 a];exact i
  refine k.keep h.size (λb a=>?_) (λb cur f a e=>?_)
  .refine h.block b (bF (j b a) m) (λc=>?_);have:=(sg d c.symm).1;have:=j b a;omega
  .rw[h.block b (af e) (λc=>?_)]
   .exact e
   .obtain⟨_,a,a⟩:=sg d c.symm;rw[e]at a;exact absurd (cp (bh a)).2.1 (by decide)
end
section
attribute [local go_sem] Oper.semAt_some
theorem si{a:Option Nat}(c:W.grownBy W' a)(d:∀r,a=some r->B<=r/\∃o:Obj,W.heap[r]?=some o/\o.isCells=false)(a:W.heap[b]?=some (.cells cur t f)):W'.heap[b]?=some (.cells cur t f):=by
 rw[c.block b (af a) (λe=>?_)]
 .exact a
 .obtain⟨_,o,c,f⟩:=d b e.symm;rw[a]at c;cases c;cases f
def FB{a:Type}(c:a->En)(d:Nat)(N:Nat->Prop)(w:World)(pre:List a)(W:World):Prop:=
 ∃(a:List Ev)(b:Value),a.map Ev.e=pre.map c/\W.heap[d]?=some (.cells #[b] 57 (0,0))/\cQ w.heap.size N W b a/\Below w.heap.size w W
theorem FB.own{a:Type}{c:a->En}{a:Nat}(g:∀b,N b->b<w.heap.size)(d:w.heap.size<=B):OwnFrom B (FB c a N w):=by rintro a W W' a ⟨e,h,i,j,k,d⟩ a c;refine⟨e,h,i,si a c j,k.keep a.size (λb h=>a.block b (bF (g b h) d.size) (λe=>by have:=(c b e.symm).1;have:=g b h;omega)) (λb cur t f _ _ b=>si a c b),?_⟩;exact d.grown a d.size (λa e=>by have:=(c a e).1;omega)
theorem akr{F:Fence}{P:Program}{ops:Array Oper}{c:List Oper}{o:Oper}{a:Act}{Q:Exit->Act->World->Prop}(e:o.guard=none)(s x:Operand)(t:TypeId)(b:o.op=Op.call {callee:=Callee.builtin Builtin.append,args:=#[s,x],argTypes:=#[t,t]}){d:Value}(f:a.eval s=d)(g:a.eval x=xv)(h:(Builtin.append_ #[t,t] o.type #[d,xv]).run P w=.ok v w')(d:wpListIn F n P ops Q c (a.put o.dst v) w'):wpListIn F n P ops Q (o::c) a w:=by
 refine wpListIn_plain e λa a=>?_
 unfold Oper.wpIn;refine⟨?_,?_⟩
 .simp[Oper.about,b,resolve,Target.leads,Sem.run_pure]
 .rw[Oper.semAt_plain F _ _ (by rw[b];intro c c;cases c)];simp[execOp,b,resolve,invoke,builtin,f,g,h,Result.andThen];exact a _ _ d
theorem OwnFrom.up{b:Type}{a:b->World->Prop}(b:OwnFrom B a)(d:B<=B'):OwnFrom B' a:=λc W W' e f g a=>b c W W' e f g (λb c=>⟨aJ d (a b c).1,(a b c).2⟩)
theorem aCK{α:Type}{gf:Nat}{lb:Array Value}{R:α->Array Value->World->Prop}{N':Nat->Prop}{xs:List α}{w:World}(ev:α->En)(eg:∀args w,(callFunc gf args).run Tryz.prog w=.ok (.enter gf args) w)(hs:CK Tryz.prog gf lb R N' xs w)(JA:∀b,N' b->b<w.heap.size)(hN:∀b,N b->b<w.heap.size)(hR:∀x v W,R x v W->∃y,v=#[.agg (cd y)]/\y.e=ev x/\nU N w.heap.size W y)(JB:∀x v,OwnFrom w.heap.size (λ(_:Unit) W=>R x v W))(hlen:xs.length<=1000000000):
  Calls Tryz.prog 104 #[.slice none 0 0,.func (.func gf) #[] lb] w λe w'=>∃v ys,e=.returned v/\ys.map Ev.e=xs.map ev/\cQ w.heap.size N w' v ys/\Grow w w':=by
 have ai:=ar w (.cells #[.slice none 0 0] 57);have hb:=ax w (.cells #[.slice none 0 0] 57);refine(callsIn_wide (n:=4)).1 (callsIn_of_wp_marks Tryz.func104 rfl trivial ?_ rfl);simp only[Tryz.ntmps104,List.size_toArray,dD,iJ,Nat.reduceAdd,Nat.reduceSub,Array.replicate_succ,Array.replicate_zero,List.push_toArray,List.append_toArray,iK,gP];refine wpIn_wide.2 ?_
 go_wp2_with fail
 have hsz:(w.alloc (.cells #[.slice none 0 0] 57)).heap.size=w.heap.size+1:=World.size_alloc _ _;generalize bT:w.alloc (.cells #[.slice none 0 0] 57)=w1 at*;have h0:FB ev w.heap.size N w [] w1:=⟨[],.slice none 0 0,rfl,hb,⟨jh _ _ _ _,λ_ h=>(by cases h)⟩,ai⟩
 refine Zu (gf:=gf) (lb:=lb) rfl eg (R:=R) (N:=N') (xs:=xs) hs (.bO ai) (λb hb'=>by have:=JA b hb';omega) (λx v W h=>by obtain⟨y,rfl,_⟩:=hR x v W h;rfl) (λx v=>OwnFrom.up (JB x v) (by omega))
  (FB ev w.heap.size N w) (λ_ _ _=>False) (FB.own hN (by omega)) (λ_ _ _ _ _ h=>h.elim) h0 ?round ?done ?stop
 case round=>
  rintro l pre x rest v W dC hl hW ⟨ys,rv,e1,gV,hrow,dX⟩ Ao;obtain⟨⟨⟨yk,ys',yg,yd⟩,yv⟩,rfl,FC,eZ⟩:=hR x v W Ao;obtain⟨ya,yc,hv⟩:=eZ.slice;simp only at hv;subst hv;have Hye:=ae FC;have HR:=ae hR;have HN:=ae (ag hN JA);have uV:=ae (ag dC hlen);clear FC eZ hR Ao gV hrow dX e1 hs JB h0 hN JA dC hlen;gi_wp2;refine⟨ar _ _,λW2 hs2 hc2 BS CL=>?_⟩;have iU:=hc2 _ _ _ _ _ (ax W (.cells #[.string yk,.int .u64 ys',.bool yg,.slice ya yd.length yc] 60));obtain⟨zs,rv,e1,gV,hrow,dX⟩:=BS;obtain⟨⟨e2,v2⟩,NH,aCL,akt⟩:=HR.out x _ W2 CL;have zB:e2=⟨yk,ys',yg,yd⟩:=aCL.trans Hye.out.symm;subst zB;have yI:v2=.slice ya yd.length yc:=by have h1:=congrArg (λa:Array Value=>a[0]?) NH;simp only[cd]at h1;simpa using h1.symm
  subst yI;have hzl:zs.length<=1000000000:=by have h1:=congrArg List.length e1;rw[bA,bA]at h1;have h2:=congrArg List.length uV.out.1;rw[aM]at h2;have:=uV.out.2;omega
  obtain⟨g,cap,w4,hrun,hrow4,hg4⟩:=NG hrow akt HN.out.1 (aJ dX.size (aw _)) hzl;obtain⟨ra,rc,rfl⟩:∃a c,rv=.slice a zs.length c:=by
   rcases hrow.1.2 with⟨h1,h2⟩|⟨g',cap',cur,h1,_⟩
   .exact⟨none,0,by rw[h1,h2]⟩
   .exact⟨_,_,h1⟩
  have b0:W2.cell? ⟨w.heap.size,0,none⟩=some (.slice ra zs.length rc):=by simp[World.cell?,gV]
  have Il:=af gV;obtain⟨q0,q1,q2,q3⟩:=cX iU;have lq2:=af iU;have qo:w4.heap[w.heap.size]?=some (.cells #[.slice ra zs.length rc] 57 (0,0)):=by
   rw[hg4.block _ Il (λe=>?_)]
   .exact gV
   .obtain⟨_,cur,h1⟩:=sg hrow e.symm;rw[gV]at h1;exact absurd (cp (bh h1)).2.1 (by decide)
  have c4:w4.cell? ⟨w.heap.size,0,none⟩=some (.slice ra zs.length rc):=by simp[World.cell?,qo]
  have f4:w4.frozen? ⟨w.heap.size,0,none⟩=false:=by simp[World.frozen?,qo]
  have l4:=af qo;have Hb:=ae (ag e1 (ag dX (ag hrow (ag hrow4 (ag hg4 qo)))));clear e1 dX hrow hrow4 hg4 qo gV iU hc2 hs2 NH akt CL HR;have cU:=ae hrun;clear hrun
  gi_wp2_with (gi_at_builtin;refine akr rfl _ _ _ rfl rfl rfl cU.out ?_)
  have hb:=Hb.out;have hs2:=hb.2.2.2.2.1;have Zz:(w4.setCell ⟨w.heap.size,0,none⟩ (.slice (some ⟨g,0,none⟩) (zs.length+1) cap)).heap[w.heap.size]?=some (.cells #[.slice (some ⟨g,0,none⟩) (zs.length+1) cap] 57 (0,0)):=Go.Gl.aK hb.2.2.2.2.2 0 _;have zK:∀b,b≠w.heap.size->b<W2.heap.size->(Value.slice ra zs.length rc).ownBlock≠some b->(w4.setCell ⟨w.heap.size,0,none⟩ (.slice (some ⟨g,0,none⟩) (zs.length+1) cap)).heap[b]?=W2.heap[b]?:=λb h1 h2 h3=>by rw[aN _ _ _ _ h1,hs2.block b h2 (λe=>h3 e.symm)]
  have hown:∀b,(Value.slice ra zs.length rc).ownBlock=some b->w.heap.size<=b/\∃cur,W2.heap[b]?=some (.cells cur 60 (0,0)):=λb e=>sg hb.2.2.1 e
  have NI:W2.heap.size<=(w4.setCell ⟨w.heap.size,0,none⟩ (.slice (some ⟨g,0,none⟩) (zs.length+1) cap)).heap.size:=by simpa using hs2.size
  refine⟨⟨NI,λk o hk ho hc=>?_⟩,⟨NI,λb JC hlt=>?_⟩,?_⟩
  .rw[zK k (by omega) (af ho) (λe=>?_)]
   .exact ho
   .obtain⟨_,cur,h1⟩:=hown k e;rw[ho]at h1;cases h1;cases hc
  .have h1:=HN.out.2 b JC;exact zK b (by omega) hlt (λe=>by have:=(hown b e).1;omega)
  .refine⟨zs++[⟨⟨yk,ys',yg,yd⟩,.slice ya yd.length yc⟩],.slice (some ⟨g,0,none⟩) (zs.length+1) cap,?_,Zz,?_,?_⟩
   .rw[dS,dS,hb.1];simp[Hye.out]
   .refine hb.2.2.2.1.keep (by simp) (λb JC=>?_) (λb cur t f hB ht hcb=>?_)
    .have h1:=HN.out.1 b JC;exact aN _ _ _ _ (λe=>by have e':b=w.heap.size:=e;omega)
    .rw[aN _ _ _ _ (λe=>?_)]
     .exact hcb
     .have e':b=w.heap.size:=e
      rw[e',hb.2.2.2.2.2]at hcb;have h9:=(cp (bh hcb)).2.1;rcases ht with rfl|rfl
      .exact absurd h9 (by decide)
      .exact absurd h9 (by decide)
   .refine(hb.2.1.grown hs2 hb.2.1.size (λk e=>(hown k e).1)).setCell (p:=⟨w.heap.size,0,none⟩) (aw _) _
 case done=>
  rintro D W hD ⟨ys,rv,e1,gV,hrow,dX⟩ hK;have b0:W.cell? ⟨w.heap.size,0,none⟩=some rv:=by simp[World.cell?,gV]
  have lb0:=af gV;have hgd:=grownBy_putObj' W D (.deferred none);have bq:∀r,some D=some r->w.heap.size<=r/\∃o:Obj,W.heap[r]?=some o/\o.isCells=false:=λr e=>by cases e;exact⟨by omega,_,hK,rfl⟩
  have hI:FB ev w.heap.size N w xs W:=⟨ys,rv,e1,gV,hrow,dX⟩
  obtain⟨ys',rv',Lz,FD,hrow',akv⟩:=FB.own (B:=w.heap.size) hN (aw _) xs W _ (some D) hI hgd bq;have hrr:rv'=rv:=by have h1:=si hgd bq gV;rw[h1]at FD;have h2:=(cp (bh FD)).1;simpa using h2.symm
  subst hrr;have aZ:=ae (ag Lz (ag hrow' akv));obtain⟨ra,rc,rfl⟩:∃a c,rv'=.slice a ys.length c:=by
   rcases hrow.1.2 with⟨h1,h2⟩|⟨g',cap',cur,h1,_⟩
   .exact⟨none,0,by rw[h1,h2]⟩
   .exact⟨_,_,h1⟩
  clear e1 gV hrow dX Lz FD hrow' akv hI hgd bq hs hR JB h0;go_wp2;refine⟨by simp,.inl ⟨_,_,rfl,run_takeDeferred hK,?_⟩⟩;exact⟨_,results_tmp rfl _ _ _,.slice ra ys.length rc,ys',rfl,aZ.out.1,aZ.out.2.1,aZ.out.2.2⟩
 case stop=>rintro D c pre x rest W hD dC h _;exact h.elim
theorem akx{a:Type}{gf:Nat}{lb:Array Value}{R:a->Array Value->World->Prop}{d:Nat->Prop}{xs:List a}{w:World}(c:a->En)(k:∀args w,(callFunc gf args).run Tryz.prog w=.ok (.enter gf args) w)(a:CK Tryz.prog gf lb R d xs w)(f:∀b,d b->b<w.heap.size)(d:∀b,N b->b<w.heap.size)(g:∀x v W,R x v W->∃y,v=#[.agg (cd y)]/\y.e=c x/\nU N w.heap.size W y)(h:∀x v,OwnFrom w.heap.size (λ(_:Unit) W=>R x v W))(i:xs.length<=1000000000):
  Calls Tryz.prog 58 #[.func (.func gf) #[] lb] w λe w'=>∃v b,e=.returned v/\b.map Ev.e=xs.map c/\cQ w.heap.size N w' v b/\Grow w w':=by
 have j:=ae (aCK c k a f d g h i);clear a f d g h i;go_enter Tryz.func58,Tryz.ntmps58
 go_wp2_with fail
 (with_reducible refine j.out.mono ?_);rintro e w' ⟨v,b,rfl,a,c,d⟩;have e:=ae (ag a (ag c d));obtain⟨f,f,rfl⟩:∃f g,v=.slice f b.length g:=by
  rcases c.1.2 with⟨a,c⟩|⟨f,f,cur,a,_⟩
  .exact⟨none,0,by rw[a,c]⟩
  .exact⟨_,_,a⟩
 clear a c d j;go_wp2;go_ret;exact⟨_,b,rfl,e.out⟩
end
section
attribute [local go_sem] Oper.semAt_some
def Ra(B:Nat)(x:En)(v:Array Value)(W:World):Prop:=∃a,v=#[.agg (cd ⟨x,a⟩)]/\aI B W a x.val
theorem ZA{a:List Ev}(d:Es N w v a)(c:a.length<=1000000000)(h:∀y∈a,y.e.val.length<=1000000000000){c:Nat}(e:w.heap[c]?=some (.cells #[v] 57 (0,0)))(q:N c):
  CK Tryz.prog 180 #[.pointer (some ⟨c,0,none⟩)] (Ra w.heap.size) N (a.map Ev.e) w/\CK Tryz.prog 155 #[.pointer (some ⟨c,0,none⟩)] (Ra w.heap.size) N (a.map Ev.e) w:=by
 constructor
 all_goals
  intro l m f W f j g k l;obtain⟨n,p,rfl⟩:=d.slice;have g:W.heap[c]?=some (.cells #[.slice n a.length p] 57 (0,0)):=(f.same c q (af e)).trans e;have q:W.cell? ⟨c,0,none⟩=some (.slice n a.length p):=by simp[World.cell?,g]
  have c:=af g;have q:=ae d;have n:=ae f;have u:=ae k;have r:=ae l;have p:=ae j;have s:=ae h;clear d e g f k l j h
  first|refine callsIn_of_wp Tryz.func180 rfl trivial ?_ rfl|refine callsIn_of_wp Tryz.func155 rfl trivial ?_ rfl
  simp only[Tryz.ntmps180,Tryz.ntmps155,List.size_toArray,dD,iJ,Nat.reduceAdd,Nat.reduceSub,Array.replicate_succ,Array.replicate_zero,List.push_toArray,List.append_toArray,iK,gP];gi_wp2
  gi_loopw [7] (λc wr=>∃i:Nat,c=.int .i64 (i:Int)/\i<=a.length/\Kp N w wr/\w.heap.size<=wr.heap.size/\m ((a.take i).map Ev.e) wr) (λc _=>a.length-(intOf c).toNat)
  case atStart=>exact⟨0,rfl,aY _,n.out,n.out.size,r.out⟩
  case round=>
   obtain⟨i,rfl,c,h,v,d⟩:=hrel;by_cases e:i<a.length
   .obtain⟨x,c⟩:∃x,a[i]?=some x:=⟨_,ek e⟩
    have j:=q.out.kp h;obtain⟨b,o,b,b,f,f,n⟩:=j.addr c;cases b;obtain⟨b,b,b,b⟩:=Cw n c;have f:=j.get c;obtain⟨l,o,k⟩:=f.slice;rw[k]at b;have q:=s.out x (dm c);have b:=ar wr (.cells #[.string x.e.key,.int .u64 x.e.seq,.bool x.e.gone,.slice l x.e.val.length o] 60);have g:=ae (ag (ajf (f.grow b) q) (ajg (f.grow b) q));have q:cd x=#[.string x.e.key,.int .u64 x.e.seq,.bool x.e.gone,.slice l x.e.val.length o]:=by rw[<-k]
    rw[q]at g;have o:a.map Ev.e=(a.take i).map Ev.e++x.e::(a.drop (i+1)).map Ev.e:=by
     have l:a=a.take i++x::a.drop (i+1):=by
      conv=>lhs;rw[<-List.take_append_drop i a]
      rw[nA e];congr 2;rw[ek e]at c;exact bh c
     conv=>lhs;rw[l]
     simp
    have r:(a.take (i+1)).map Ev.e=(a.take i).map Ev.e++[x.e]:=by rw[List.take_add_one,c];simp
    have s:=ae o;have y:=ae r;have l:(i:Int)<(a.length:Int):=by omega
    have l:(0:Int)<=(i:Int):=by omega
    have l:IntKind.i64.wrap ((i:Int)+1)=((i+1:Nat):Int):=by rw[aQ _ (by omega)];omega
    have z:=ae l;have t:=Zv p.out d b;have A:=ae t;have B:=ae b;have C:=ae (ag h v);clear j n f k q o r t d b c l h
    gi_wp2_with (refine⟨trivial,?_⟩;(first|(gi_at_call 181;refine(callsIn_wide.2 g.out.1).mono ?_)|(gi_at_call 156;refine(callsIn_wide.2 g.out.2).mono ?_));rintro n c ⟨f,rfl,h,b⟩;obtain⟨j,j,j,j,j,k⟩:=u.out ((a.take i).map Ev.e) x.e ((a.drop (i+1)).map Ev.e) #[.agg (cd ⟨x.e,f⟩)] c s.out (Zv p.out A.out b) ⟨f,rfl,h.mono (by simp;omega)⟩;dsimp only[cd]at j)
    refine(akk 2 k).mono ?_;have f:Kp N w c:=(C.out.1.trans (.bO B.out)).trans (.bO b);rintro n c (⟨rfl,n,o⟩|⟨rfl,p⟩)
    .have c:=f.trans o
     have l:=z.out;clear j k h b f g;gi_wp2;go_roundw
     case rel=>exact⟨i+1,rfl,e,c,c.size,by rw[y.out];exact n⟩
     case measure=>simp[intOf];omega
    .gi_wp2;refine bodyPost_ret (results_none rfl _ _ _) rfl ?_;exact⟨⟨_,rfl⟩,.inr ⟨(a.take i).map Ev.e,x.e,(a.drop (i+1)).map Ev.e,s.out,p⟩⟩
   .obtain rfl:i=a.length:=by omega
    have b:m (a.map Ev.e) wr:=by rw[iA]at d;exact d
    clear d;gi_wp2;go_end0;exact⟨⟨_,rfl⟩,.inl b⟩
end
theorem akz(w:World)(tb:Nat)(k:ByteArray)(s:Int)(g:Bool)(a:Option Addr)(n c:Nat):
  Calls Tryz.prog 179 #[au tb,.agg #[.string k,.int .u64 s,.bool g,.slice a n c]] w λe w'=>e=.returned (.func (.func 216) #[] #[.pointer (some ⟨w.heap.size,0,none⟩),.pointer (some ⟨w.heap.size+1,0,none⟩)])/\
   w'=(w.alloc (.cells #[au tb] 286)).alloc (.cells #[.string k,.int .u64 s,.bool g,.slice a n c] 60):=by
 go_enter Tryz.func179,Tryz.ntmps179;go_wp2;go_ret;exact⟨rfl,rfl⟩
theorem cQ.mono{c:List Ev}(a:cQ B N W v c)(d:B'<=B):cQ B' N W v c:=
 ⟨rK a.1 d,λc e=>⟨(a.2 c e).1,(a.2 c e).2.imp id (λa b c=>(a b c).imp id (λa=>⟨aJ d a.1,a.2⟩))⟩⟩
theorem cQ.grow{c:List Ev}(d:cQ B N W v c)(a:Grow W W')(e:∀b,N b->b<W.heap.size):cQ B N W' v c:=
 d.keep a.size (λb c=>a.block b (e b c)) (λ_ _ _ _ _ _ b=>a.heap b)
theorem cQ.slice{b:List Ev}(d:cQ B N W v b):∃a c,v=.slice a b.length c:=by
 rcases d.1.2 with⟨a,b⟩|⟨c,c,cur,a,_⟩
 .exact⟨none,0,by rw[a,b]⟩
 .exact⟨_,_,a⟩
abbrev yJ(key:ByteArray)(up:Nat):Ev:=⟨⟨key,up,false,[]⟩,.slice none 0 0⟩
theorem aCS{y:Ev}(a:lM N W y):nU N B W y:=⟨a.1,a.2.imp id (λa b c=>.inl (a b c))⟩
theorem akA(d:∀b,N b->b<B)(y:Ev)(v:Array Value):OwnFrom B (λ(_:Unit) W=>Rt N y v W):=λ_ W W' a a c e=>
 ⟨a.1,a.2.kp ⟨c.size,λb a f=>c.block b f (λc=>by have:=(e b c.symm).1;have:=d b a;omega)⟩⟩
def NJ(N:Nat->Prop)(w:World)(l:List En)(e:Ending)(w':World)(gf:Nat):Prop:=
 ∃(a:Nat)(b:List Ev)(v:Value),e=.returned (.func (.func gf) #[] #[.pointer (some ⟨a,0,none⟩)])/\w.heap.size<=a/\w'.heap[a]?=some (.cells #[v] 57 (0,0))/\b.map Ev.e=l/\cQ w.heap.size N w' v b/\Grow w w'
theorem akB{N:Nat->Prop}{w:World}{ns:List Nd}(f:ed N w tb ha ns aX dv ds)(d:∀b,N b->b<w.heap.size)(a:ns.length<=1000000000)(key:ByteArray):
  Calls Tryz.prog 124 #[au tb,.string key] w λe w'=>NJ N w (eI ⟨key,18446744073709551615,false,[]⟩ (ns.map (λn=>n.x.e))) e w' 180:=by
 have c:=ar w (.cells #[au tb] 286);have g:=ar (w.alloc (.cells #[au tb] 286)) (.cells (cd (yJ key 18446744073709551615)) 60);have j:=g.heap (ax w (.cells #[au tb] 286));have h:=ax (w.alloc (.cells #[au tb] 286)) (.cells (cd (yJ key 18446744073709551615)) 60);rw[World.size_alloc]at h;have i:=c.trans g;have k:=f.grow i;have l:=f.self;have a:=af l;have r:=ae (akz w tb key 18446744073709551615 false none 0 0);have m:((w.alloc (.cells #[au tb] 286)).alloc (.cells (cd (yJ key 18446744073709551615)) 60)).heap.size=w.heap.size+2:=by simp
 generalize s:(w.alloc (.cells #[au tb] 286)).alloc (.cells (cd (yJ key 18446744073709551615)) 60)=a at*;have o:=akl k (yJ key 18446744073709551615) (xa:=none) (xl:=0) (xc:=0) rfl j h;have p:=akx (N:=N) (λa:Ev=>a.e) (enters_of Tryz.func216 (by kernel_rfl) rfl) o (λb a=>by
   rcases a with a|a|rfl|rfl
   .have:=d b a;omega
   .have:=f.lt a;omega
   .omega
   .omega) (λb a=>by have:=d b a;omega) (λx v W q=>⟨x,q.1,rfl,aCS q.2⟩) (λx v=>akA (λb a=>by have:=d b a;omega) x v) (by rw[bA];have:=congrArg List.length (kr (yJ key 18446744073709551615).e ns);rw[aM]at this;omega)
 have q:=ae p;have t:=ae i;have u:=ae m;have x:=ae d;clear k l j h c g o p i m f d s;go_enter Tryz.func124,Tryz.ntmps124
 go_wp2_with fail
 (with_reducible refine r.out.mono ?_);rintro e w' ⟨rfl,rfl⟩
 go_wp2_with fail
 (with_reducible refine q.out.mono ?_);rintro e d ⟨v,e,rfl,j,h,i⟩;obtain⟨f,g,rfl⟩:=h.slice;have c:=ar d (.cells #[.slice f e.length g] 57);have a:=ax d (.cells #[.slice f e.length g] 57);have k:NJ N w (eI ⟨key,18446744073709551615,false,[]⟩ (ns.map (λn=>n.x.e))) (.returned (.func (.func 180) #[] #[.pointer (some ⟨d.heap.size,0,none⟩)])) (d.alloc (.cells #[.slice f e.length g] 57)) 180:=by have l:=u.out;have l:=i.size;refine⟨d.heap.size,e,.slice f e.length g,rfl,by omega,a,?_,(h.mono (by omega)).grow c (λb a=>by have:=x.out b a;omega),(t.out.trans i).trans c⟩;rw[j,<-EY];simp
 have b:=ae k;clear c a k j h i;go_wp2;go_ret;exact b.out
theorem aCU(x y:Ev){xa d:Option Addr}{xl xc f g:Nat}(j:x.v=.slice xa xl xc)(k:y.v=.slice d f g)(W:World):
  Calls Tryz.prog 132 #[.agg (cd x),.agg (cd y)] W λe w'=>e=.returned (.bool (decide (eB x.e y.e<0)))/\Grow W w':=by
 obtain⟨⟨a,xs,h,m⟩,xv⟩:=x;obtain⟨⟨b,c,i,n⟩,l⟩:=y;simp only at j k;subst j k;have j:((W.alloc (.cells #[.string a,.int .u64 xs,.bool h,.slice xa xl xc] 60)).alloc (.cells #[.string b,.int .u64 c,.bool i,.slice d f g] 60)).heap[W.heap.size]?=some (.cells #[.string a,.int .u64 xs,.bool h,.slice xa xl xc] 60 (0,0)):=(heap_alloc_old _ _ (by simp)).trans (ax _ _);have k:((W.alloc (.cells #[.string a,.int .u64 xs,.bool h,.slice xa xl xc] 60)).alloc (.cells #[.string b,.int .u64 c,.bool i,.slice d f g] 60)).heap[W.heap.size+1]?=some (.cells #[.string b,.int .u64 c,.bool i,.slice d f g] 60 (0,0)):=by have:=ax (W.alloc (.cells #[.string a,.int .u64 xs,.bool h,.slice xa xl xc] 60)) (.cells #[.string b,.int .u64 c,.bool i,.slice d f g] 60);simpa using this
 obtain⟨l,l,l,l⟩:=cX j;obtain⟨l,l,l,l⟩:=cX k;have l:=af j;have l:=af k;have l:Grow W ((W.alloc (.cells #[.string a,.int .u64 xs,.bool h,.slice xa xl xc] 60)).alloc (.cells #[.string b,.int .u64 c,.bool i,.slice d f g] 60)):=(ar _ _).trans (ar _ _);have o:=ae (aiZ a xs h (.slice xa xl xc) b c i (.slice d f g));have p:=ae l;clear j k l;show Calls Tryz.prog 132 #[.agg (cd ⟨⟨a,xs,h,m⟩,.slice xa xl xc⟩),.agg (cd ⟨⟨b,c,i,n⟩,.slice d f g⟩)] W λe w'=>e=.returned (.bool (decide (dA (kJ a b) (jG c xs)<0)))/\Grow W w'
 generalize dA (kJ a b) (jG c xs)=j at*;go_enter Tryz.func132,Tryz.ntmps132
 go_wp2_with fail
 generalize (W.alloc (.cells #[.string a,.int .u64 xs,.bool h,.slice xa xl xc] 60)).alloc (.cells #[.string b,.int .u64 c,.bool i,.slice d f g] 60)=w0 at*;(with_reducible refine(o.out _).mono ?_);rintro e a ⟨rfl,a⟩;have b:=ae a;clear a;go_wp2;go_ret;exact⟨rfl,p.out.trans b.out⟩
theorem aCV{w:World}{ys:List Ev}(h:Es N w v ys)(hlen:ys.length<=1000000000)(ho:cx (ys.map Ev.e)):
  Calls Tryz.prog 131 #[v,.func (.func 132) #[] #[]] w λe w'=>e=.returned (.bool true)/\Grow w w':=by
 have H:=ae h;obtain⟨va,vc,rfl⟩:=h.slice;have Ho:=ae ho;clear h ho;go_enter Tryz.func131,Tryz.ntmps131
 go_wp2_with fail
 go_loopw [5] (λiv wr=>∃i:Nat,iv=.int .i64 (i:Int)/\1<=i/\Grow w wr) (λiv _=>ys.length-(intOf iv).toNat)
 case atStart=>exact⟨1,rfl,aw _,aW _⟩
 case round=>
  obtain⟨i,rfl,hi,hg⟩:=hrel;by_cases hlt:i<ys.length
  .obtain⟨k,hk⟩:∃k,i=k+1:=⟨i-1,by omega⟩
   obtain⟨x,b,o,c,xa,xc,hx,hv,hb,cI,lO,c0,c1,c2,c3⟩:=H.out.read hg (show k<ys.length by omega);obtain⟨y,b',o',c',ya,yc,hy,hv',hb',eZ,rZ,e0,e1,e2,e3⟩:=H.out.read hg hlt;cases hv;cases hv';have Cz:decide (eB x.e y.e<0)=true:=by rw[decide_eq_true_eq,Ab];have h:=List.pairwise_iff_getElem.1 Ho.out k i (by simp;omega) (by simpa using hlt) (by omega);rw[List.getElem_map,List.getElem_map]at h;rw[ek (by omega)]at hx hy;rw[bh hx,bh hy]at h;exact h
   have gj:=λW=>aCU x y cI eZ W
   rw[Cz]at gj;have ex:cd x=#[.string x.e.key,.int .u64 x.e.seq,.bool x.e.gone,.slice xa x.e.val.length xc]:=by rw[<-cI]
   have ey:cd y=#[.string y.e.key,.int .u64 y.e.seq,.bool y.e.gone,.slice ya y.e.val.length yc]:=by rw[<-eZ]
   rw[ex,ey]at gj;have kL:=ae gj;have lV:(i:Int)<(ys.length:Int):=by omega
   have yF:IntKind.i64.wrap ((i:Int)-1)=(k:Int):=by rw[aQ _ (by omega)];omega
   have aNp:IntKind.i64.wrap ((i:Int)+1)=((i+1:Nat):Int):=by rw[aQ _ (by omega)];omega
   have jZ:(0:Int)<=(k:Int):=by omega
   have hk2:(k:Int)<(ys.length:Int):=by omega
   have hk3:(0:Int)<=(i:Int):=by omega
   have Hg:=ae hg;have aU:=Grow.cells (w:=wr);clear gj Cz hx hy cI eZ lO rZ hg ex ey hk
   go_upto_region 4 with fail
   refine cN (λV=>Below wr.heap.size wr V) [10] (by kernel_rfl) (bB λ_ _ _ _ _ h=>h) (by((repeat (first|exact bW _ _|assumption|refine cC ?_|refine cD ?_|refine cw ?_ ?_ _|refine cB ?_ ?_ _))<;>try (first|omega|(simp<;>omega)))) ?_;simp only[ct]
   repeat ((first|(apply az;rfl;rintro W hW;go_simp;with_reducible rfl)|(apply aA;rfl));simp only[ah,List.set])
   clear c0 c1 c2 c3 e0 e1 e2 e3;refine bw (by rfl) (by go_simp) (kL.out _) ?_;rintro e w2 ⟨rfl,hg2⟩;have hg3:=(ay wr).trans hg2;refine⟨_,rfl,hg3,?_⟩
   try simp only[ah,List.set,aC]
   have jo:=ae (Hg.out.trans hg3);clear hg2 hg3
   repeat ((first|(apply az;rfl;rintro W hW;go_simp;with_reducible rfl)|(apply aA;rfl));simp only[ah,List.set])
   refine bg ?_;go_wp2;go_roundw
   case rel=>exact⟨i+1,rfl,by omega,jo.out⟩
   case measure=>simp[intOf];omega
  .have We:decide ((i:Int)<(ys.length:Int))=false:=by simp;omega
   go_wp2;go_ret;exact⟨rfl,hg⟩
theorem ZB{a:List Ev}(d:Es N w v a)(h:a.length<=1000000000)(f:cx (a.map Ev.e))(g:Ai (a.map Ev.e)):
  Calls Tryz.prog 86 #[v] w λe w'=>e=.returned (.bool true)/\Grow w w':=by
 have j:=ae d;obtain⟨c,c,rfl⟩:=d.slice;have k:=ae (λ(W:World)(c:Grow w W)=>aCV (d.grow c) h f);have h:=ae g;clear d f g;go_enter Tryz.func86,Tryz.ntmps86
 go_wp2_with fail
 go_loopw [7] (λd wr=>∃i:Nat,d=.int .i64 (i:Int)/\i<=a.length/\Grow w wr) (λd _=>a.length-(intOf d).toNat)
 case atStart=>exact⟨0,rfl,aY _,aW _⟩
 case round=>
  obtain⟨i,rfl,d,c⟩:=hrel;by_cases d:i<a.length
  .obtain⟨x,b,o,b,f,l,g,b,m,m,n,o,o,o,o⟩:=j.out.read c d
   cases b;have b:(i:Int)<(a.length:Int):=by omega
   have b:(0:Int)<=(i:Int):=by omega
   have b:IntKind.i64.wrap ((i:Int)+1)=((i+1:Nat):Int):=by rw[aQ _ (by omega)];omega
   have b:=ae (c.trans (ar wr (.cells #[.string x.e.key,.int .u64 x.e.seq,.bool x.e.gone,.slice f x.e.val.length l] 60)));have f:=h.out x.e (aV.2 ⟨x,dm g,rfl⟩);clear g m n c;obtain⟨⟨g,xs,g,h⟩,xv⟩:=x;simp only at*;cases g with
   |true=>
    have g:h=[]:=f rfl;subst g;clear f;go_wp2;go_roundw
    case rel=>exact⟨i+1,rfl,d,b.out⟩
    case measure=>simp[intOf];omega
   |false=>
    clear f;go_wp2;go_roundw
    case rel=>exact⟨i+1,rfl,d,b.out⟩
    case measure=>simp[intOf];omega
  .obtain rfl:i=a.length:=by omega
   have a:=ae (k.out wr c);have b:=ae c;clear c
   go_wp2_with fail
   (with_reducible refine a.out.mono ?_);rintro e a ⟨rfl,a⟩;have c:=ae a;clear a;go_wp2;go_ret;exact⟨rfl,b.out.trans c.out⟩
theorem aI.FE(a:aI B w v l){o:Option Nat}(d:w.grownBy w' o)(e:∀g,o=some g->∃t cur,w.heap[g]?=some (.cells cur t (0,0))/\t≠5):aI B w' v l:=
 a.keep (λb c=>d.block b (a.lt c).2 (λf=>by obtain⟨t,cur,d,g⟩:=e b f.symm;obtain⟨b,b⟩:=a.block c;rw[b]at d;cases d;exact g rfl))
theorem iw.keep{xs:List Bk}(a:iw B w v xs)(b:∀g,v.ownBlock=some g->w'.heap[g]?=w.heap[g]?):iw B w' v xs:=by
 refine⟨a.1,?_⟩;rcases a.2 with a|⟨g,cap,cur,a,h2,h3,h4⟩
 .exact .inl a
 .exact .inr ⟨g,cap,cur,a,h2,by rw[b g (by rw[a];rfl)];exact h3,h4⟩
theorem iw.aCY{xs:List Bk}(a:iw B w v xs)(b:aI B' w u l)(c:w.grownBy w' u.ownBlock):iw B w' v xs:=
 a.keep λg d=>by obtain⟨_,e,cur,f⟩:=a.lt d;refine c.block g e (λc=>?_);obtain⟨a,a⟩:=b.block c.symm;rw[f]at a;exact absurd (cp (bh a)).2.1 (by decide)
theorem ZC(g:List En):(gG g).length<=(bu g).length+14:=by have a:=nG aq (bu g);have a:=cF (bu g).length;unfold gG;omega
theorem akD(a:List (List En)):(a.map λg=>(bu g).length).sum=(bu a.flatten).length:=by
 induction a with
 |nil=>rfl
 |cons g a a=>rw[cr,List.sum_cons,List.flatten_cons,tz,aM,a]
theorem JE(a:List (List En)):(bZ a).length<=(bu a.flatten).length+14*a.length:=by
 induction a with
 |nil=>simp[bZ]
 |cons g a a=>have a:=ZC g;rw[List.flatten_cons,tz,aM];simp only[bZ,List.flatMap_cons,aM,dD]at*;omega
theorem ZE{g:List En}(hg:g≠[]):(mD g).size<=(bu g).length:=by
 cases g with
 |nil=>exact absurd rfl hg
 |cons e r=>
  have:bu (e::r)=qh e++bu r:=by simp[bu]
  rw[this];simp only[mD,qh,bp,aM,ia];show e.key.data.size<=_;omega
theorem Tg:∀(a:List (List En)) (k:Nat),(∀g∈a,g≠[])->((nk k a).flatMap pw).length<=(bu a.flatten).length+30*a.length
 | [],_,_=>by simp[nk]
 |g::a,k,h=>by have b:=Tg a (k+(gG g).length) (λx a=>h x (fE _ a));have a:=aBp ⟨mD g,k,(gG g).length⟩;have a:=ZE (h g (ej ..));rw[List.flatten_cons,tz,aM];simp only[nk,List.flatMap_cons,aM,dD]at*;omega
theorem ZF:∀(a:List (List En)) (k:Nat),(∀g∈a,g≠[]/\(bu g).length<=60000000)->k+(bZ a).length<1000000000000->∀x∈nk k a,ajq x
 | [],_,_,_,x,b=>by cases b
 |g::a,k,h,hk,x,b=>by
  have c:(bZ (g::a)).length=(gG g).length+(bZ a).length:=by simp[bZ]
  rw[c]at hk;rcases bI.1 b with rfl|b
  .have c:=ZE (h g (ej ..)).1;have d:=(h g (ej ..)).2;exact⟨aJ c (by omega),by show k<_;omega,by show(gG g).length<_;omega⟩
  .exact ZF a _ (λa c=>h a (fE _ c)) (by omega) x b
theorem NL(size:Nat):∀(l cur:List En),(eX size cur l).length<=l.length
 | [],_=>by simp[eX]
 |e::r,cur=>by
  unfold eX;split
  .have:=NL size r [];simp;omega
  .have:=NL size r (cur++[e]);simp;omega
theorem aCZ{g:List En}(a:g≠[])(r:List En):mD (g++r)=mD g:=by
 cases g with
 |nil=>exact absurd rfl a
 |cons a g=>rfl
theorem aDa{l:List En}:(bu l).length=0↔l=[]:=⟨λa=>aAz (je a),λa=>by rw[a];rfl⟩
structure FH(w:World)(size:Nat)(l:List En)(gs:List (List En))(cur:List En)(i:Nat)(ov pv kv fv:Value)(wr:World):Prop where
 le:i<=l.length
 cut:gs.flatten++cur=l.take i
 ne:∀g∈gs,g≠[]
 ZG:eX size [] l=gs++eX size cur (l.drop i)
 nl:gs.length<=i
 last:i=l.length->cur=[]
 out:aI w.heap.size wr ov (bZ gs)
 pay:aI w.heap.size wr pv (bu cur)
 Th:iw w.heap.size wr kv (nk 0 gs)
 first:cur≠[]->fv=.string (mD cur)
 txt:∃s,fv=.string s
 grow:Grow w wr
def Ti(w:World)(size:Nat)(l:List En)(ov pv a fv b:Value)(wr:World):Prop:=∃(c:List (List En)) (cur:List En) (i:Nat),b=.int .i64 (i:Int)/\FH w size l c cur i ov pv a fv wr
theorem FH.more{size:Nat}{l:List En}{b:List (List En)}{cur:List En}{d:Value}(a:FH w size l b cur i ov pv d fv wr){e:En}(g:l[i]?=some e)(h:¬size<=(bu (cur++[e])).length)(j:i+1≠l.length)(c:Grow wr wr'){f:Value}(k:aI w.heap.size wr' f (bu (cur++[e]))):FH w size l b (cur++[e]) (i+1) ov f d (.string (mD (cur++[e]))) wr':=by
 obtain⟨d,e⟩:=dW.1 g;refine⟨d,?_,a.ne,?_,Nat.le_succ_of_le a.nl,λb=>absurd b j,a.out.grow c,k,a.Th.grow c,λ_=>rfl,⟨_,rfl⟩,a.grow.trans c⟩
 .rw[List.take_succ_eq_append_getElem d,<-a.cut,jL,e]
 .rw[a.ZG,nA d,e,eX,if_neg (λb=>?_)]
  rcases b with b|b
  .exact h b
  .have:=congrArg List.length b;rw[List.length_drop,iJ]at this;omega
theorem FH.lay{size:Nat}{l:List En}{a:List (List En)}{cur:List En}{c:Value}(b:FH w size l a cur i ov pv c fv wr){e:En}(h:l[i]?=some e)(c:size<=(bu (cur++[e])).length\/i+1=l.length){d f:Value}(j:aI w.heap.size wr' d (bZ (a++[cur++[e]])))(k:iw w.heap.size wr' f (nk 0 (a++[cur++[e]])))(m:Grow w wr')(s:ByteArray):
  FH w size l (a++[cur++[e]]) [] (i+1) d (.slice none 0 0) f (.string s) wr':=by
 obtain⟨a,e⟩:=dW.1 h;refine⟨a,?_,?_,?_,?_,λ_=>rfl,j,oM _ _ _,k,λd=>absurd rfl d,⟨_,rfl⟩,m⟩
 .rw[List.take_succ_eq_append_getElem a,<-b.cut,List.append_nil,List.flatten_append,e];simp
 .intro g d
  rcases dn.1 d with d|d
  .exact b.ne g d
  .rw[cZ.1 d];simp
 .rw[b.ZG,nA a,e,eX,if_pos ?_,jL]
  .rfl
  .rcases c with c|c
   .exact .inl c
   .right;apply je;rw[List.length_drop];omega
 .rw[aM,List.length_singleton];have:=b.nl;omega
theorem ZH{x:Nat}:∀{l:List Nat},x∈l->x<=l.sum
 | [],h=>by cases h
 |y::l,h=>by
  rw[List.sum_cons];rcases bI.1 h with rfl|h
  .omega
  .have:=ZH h;omega
theorem aDb(l:List En)(i:Nat):(bu (l.take i)).length<=(bu l).length:=by have a:=tz (l.take i) (l.drop i);rw[List.take_append_drop]at a;rw[a,aM];omega
theorem ZI(a:aI B w bv l)(b:B<=w.heap.size)(c:l.length<=1000000000000)(v0:Nat)(d:v0<18446744073709551616):
 Calls Tryz.prog 160 #[bv,.int .u64 v0,.int .i64 8] w λe w'=>∃v,e=.returned v/\aI B w' v (l++cK 8 v0)/\Below B w w':=aiM a b c v0 d (n:=8) (by decide)
theorem aDc(a:aI B w bv l)(b:B<=w.heap.size)(c:l.length<=1000000000000)(v0:Nat)(d:v0<18446744073709551616):
 Calls Tryz.prog 160 #[bv,.int .u64 v0,.int .i64 4] w λe w'=>∃v,e=.returned v/\aI B w' v (l++cK 4 v0)/\Below B w w':=aiM a b c v0 d (n:=4) (by decide)
theorem aDd{ys:List Ev}(h:Es N w v ys)(hlen:ys.length<=1000000)(ho:cx (ys.map Ev.e))(jE:Ai (ys.map Ev.e)){size:Nat}(hz1:1<=size)(hz2:size<=67108864)(CM:∀y∈ys,y.e.key.size<=65535/\y.e.seq<18446744073709551616/\y.e.val.length<=33554432)(og:(bu (ys.map Ev.e)).length+30*ys.length<=50000000):
  Calls Tryz.prog 109 #[v,.int .i64 size] w λe w'=>∃v',e=.returned (.tuple #[v',.int .i64 0])/\aI w.heap.size w' v' (ig (eX size [] (ys.map Ev.e)) ys.length (eC (ys.map Ev.e)))/\Grow w w':=by
 have H:=ae h;have HK:=ae CM;have Hr:=ae (ZB h (by omega) ho jE);obtain⟨va,vc,rfl⟩:=h.slice;have hs1:decide ((size:Int)<1)=false:=by simp;omega
 have hs2:decide ((67108864:Int)<(size:Int))=false:=by simp;omega
 clear h CM ho jE;go_enter Tryz.func109,Tryz.ntmps109
 go_wp2_with fail
 (with_reducible refine Hr.out.mono ?_);rintro e w1 ⟨rfl,hg1⟩;have hE1:=H.out.grow hg1;have HE:=ae hE1;have eV:=ae hg1;have qX:=ae (show(ys.map Ev.e).length=ys.length from bA ..);have bz:Hid (Ti w1 size (ys.map Ev.e) (.slice none 0 0) (.slice none 0 0) (.slice none 0 0) (.string ⟨#[]⟩) (.int .i64 0) w1):=ae ⟨[],[],0,rfl,aY _,rfl,(λ_ h=>by cases h),by simp,aw _,λ_=>rfl,oM _ _ _,oM _ _ _,ajn _ _,(λh=>absurd rfl h),⟨_,rfl⟩,aW _⟩;clear hg1 hE1 hs1 hs2 Hr
 go_wp2_with fail
 go_loopw [6,7,8,9,29] (λov pv kv fv iv wr=>Ti w1 size (ys.map Ev.e) ov pv kv fv iv wr) (λ_ _ _ _ iv _=>ys.length-(intOf iv).toNat)
 case atStart=>exact bz.out
 case round=>
  obtain⟨gs,cur,i,rfl,hI⟩:=hrel;have hi:=hI.le;rw[qX.out]at hi;obtain⟨oa,oc,rfl⟩:=hI.out.slice;obtain⟨pa,pc,rfl⟩:=hI.pay.slice;obtain⟨ka,kc,rfl⟩:=hI.Th.slice;obtain⟨fs,rfl⟩:=hI.txt;rw[tB];by_cases hlt:i<ys.length
  .obtain⟨x,b,o,c,xa,xc,hx,hv,hb,cI,lO,c0,c1,c2,c3⟩:=HE.out.read hI.grow hlt
   cases hv;obtain⟨kx1,kx2,kx3⟩:=HK.out x (dm hx);have eN:(i:Int)<(ys.length:Int):=by omega
   have bU:(0:Int)<=(i:Int):=by omega
   have fT:IntKind.i64.wrap ((i:Int)+1)=((i+1:Nat):Int):=by rw[aQ _ (by omega)];omega
   have kO:IntKind.i64.wrap ((ys.length:Int)-1)=((ys.length-1:Nat):Int):=by rw[aQ _ (by omega)];omega
   have jb:(ys.map Ev.e)[i]?=some x.e:=by rw[gQ,hx];rfl
   have oT:(bu (cur++[x.e])).length<=(bu (ys.map Ev.e)).length:=by
    have e1:bu (ys.map Ev.e)=bu ((ys.map Ev.e).take (i+1))++bu ((ys.map Ev.e).drop (i+1)):=by rw[<-tz,List.take_append_drop]
    have e2:(ys.map Ev.e).take (i+1)=gs.flatten++(cur++[x.e]):=by rw[List.take_add_one,jb,<-hI.cut];simp
    have e3:=congrArg List.length e1;rw[e2,tz gs.flatten,aM,aM]at e3;omega
   have hbl:(bZ gs).length<=70000000:=by
    have e1:=JE gs;have e2:(bu gs.flatten).length<=(bu (ys.map Ev.e)).length:=by have e3:=aDb (ys.map Ev.e) i;rw[<-hI.cut,tz,aM]at e3;omega
    have:=hI.nl;omega
   have k1:decide ((65535:Int)<(x.e.key.size:Int))=false:=by simp;omega
   have k3:decide ((33554432:Int)<(x.e.val.length:Int))=false:=by simp;omega
   have akI:=ax wr (.cells #[.string x.e.key,.int .u64 x.e.seq,.bool x.e.gone,.slice xa x.e.val.length xc] 60);have ai:=ar wr (.cells #[.string x.e.key,.int .u64 x.e.seq,.bool x.e.gone,.slice xa x.e.val.length xc] 60);have HI:=ae hI;have Hxe:=ae jb;have Hxi:=ae (lO.grow ai);have ZJ:=ae cI;have cn:=ae ai;have kH:=ae akI;have ZK:=ae oT;clear hI jb lO cI ai akI oT hx
   go_upto_region 13 with fail
   generalize wr.alloc (.cells #[.string x.e.key,.int .u64 x.e.seq,.bool x.e.gone,.slice xa x.e.val.length xc] 60)=w2 at*;clear c0 c1 c2 c3 hb;obtain⟨eb,oo⟩:∃eb,eb=wr.heap.size:=⟨_,rfl⟩
   rw[<-oo]at kH ⊢;clear oo;obtain⟨t0,t1,t2,t3⟩:=cX kH.out;have Ld:=af kH.out
   go_upto_if 46 with fail
   go_cut [9]from 47 to 48 (λfv wx=>fv=.string (mD (cur++[x.e]))/\wx=w2)
   case first=>
    by_cases hc:cur=[]
    .have e0:(((bu cur).length:Int)==0)=true:=by rw[hc];rfl
     have hf:Hid (mD (cur++[x.e])=x.e.key):=ae (by rw[hc];rfl);clear hc;go_wp2;go_meet;exact⟨by rw[hf.out],rfl⟩
    .have e0:(((bu cur).length:Int)==0)=false:=by
      have:(bu cur).length≠0:=λh=>hc (aDa.1 h)
      simp only[beq_eq_false_iff_ne,ne_eq];omega
     have hf:Hid ((Value.string fs)=.string (mD (cur++[x.e]))):=ae (by rw[HI.out.first hc,aCZ hc]);clear hc;go_wp2;go_meet;exact⟨hf.out,rfl⟩
   case rest=>
    obtain⟨rfl,hwc⟩:=hcut;have hwc':=hwc.symm;subst hwc';clear hwc;have akK:=HI.out.pay.grow cn.out;have yK:=aBq (cE akK) (by have:=ZK.out;rw[tz,aM]at this;omega) Hxi.out (by omega) (by omega) (by omega);rw[show bu cur++qh x.e=bu (cur++[x.e])by rw[tz,aAy]]at yK;have ex:cd x=#[.string x.e.key,.int .u64 x.e.seq,.bool x.e.gone,.slice xa x.e.val.length xc]:=by rw[<-ZJ.out]
    rw[ex]at yK;have FI:=ae yK;clear yK akK ex
    go_wp2_with fail
    (with_reducible refine FI.out.mono ?_);rintro e w3 ⟨pv,rfl,hop,hg3⟩;have hG3:=HI.out.grow.trans (cn.out.trans hg3);have ZL:aI w1.heap.size w3 pv (bu (cur++[x.e])):=hop.mono (HI.out.grow.trans cn.out).size;obtain⟨qa,qc,rfl⟩:=ZL.slice;have Hop:=ae ZL;have CN:=ae hG3;have jo:=ae (cn.out.trans hg3);clear hop ZL hG3 hg3 FI t0 t1 t2 t3 Ld
    go_upto_region 16 with fail
    go_cut [62]from 52 to 62 (λfv wx=>fv=.bool (decide (size<=(bu (cur++[x.e])).length\/i+1=ys.length))/\wx=w3)
    case first=>
     by_cases h1:size<=(bu (cur++[x.e])).length
     .have d1:decide (size<=(bu (cur++[x.e])).length)=true:=decide_eq_true h1;have hr:Hid (decide (size<=(bu (cur++[x.e])).length\/i+1=ys.length)=true):=ae (decide_eq_true (.inl h1));go_wp2;go_meet;exact⟨by rw[hr.out],rfl⟩
     .have d1:decide (size<=(bu (cur++[x.e])).length)=false:=decide_eq_false h1
      obtain⟨bb,eD⟩:∃bb,((i:Int)==((ys.length-1:Nat):Int))=bb:=⟨_,rfl⟩
      have hr:Hid (decide (size<=(bu (cur++[x.e])).length\/i+1=ys.length)=bb):=ae (by
       rw[<-eD,Bool.eq_iff_iff,decide_eq_true_eq,beq_iff_eq];constructor
       .rintro(h|h)
        .exact absurd h h1
        .omega
       .intro h;right;omega)
      go_wp2;go_meet;exact⟨by rw[hr.out],rfl⟩
    case rest=>
     obtain⟨rfl,hwc⟩:=hcut;have hwc':=hwc.symm;subst hwc';clear hwc;by_cases eF:size<=(bu (cur++[x.e])).length\/i+1=ys.length
     .have hd:=decide_eq_true eF
      rw[hd];have rC:=ae eF;have dV:=DL (cE Hop.out) (by have:=ZK.out;omega);have pM:=ae dV;clear hd eF dV
      go_wp2_with fail
      (with_reducible refine pM.out.mono ?_);rintro e w4 ⟨bv,rfl,fS,hg4⟩;have Tj:iw w1.heap.size w4 (.slice ka gs.length kc) (nk 0 gs):=by have h1:=HI.out.Th.grow (jo.out.trans hg4);rw[tB]at h1;exact h1
      have hout:=HI.out.out.grow (jo.out.trans hg4);obtain⟨kg,ZM,w5,hrun,JD,pY⟩:=ajo Tj ⟨mD (cur++[x.e]),(bZ gs).length,(gG (cur++[x.e])).length⟩ (CN.out.trans hg4).size (by rw[tB];have:=HI.out.nl;omega);rw[tB]at hrun JD;dsimp only[Jr,gG]at hrun;have cU:=ae hrun;obtain⟨fa,fc,rfl⟩:=fS.slice;have wO:∀g,(Value.slice ka gs.length kc).ownBlock=some g->∃t cur,w4.heap[g]?=some (.cells cur t (0,0))/\t≠5:=λg hg=>by obtain⟨_,_,cu,h3⟩:=Tj.lt hg;exact⟨_,cu,h3,by decide⟩
      have Tk:=aI.FE hout pY wO;have Rn:aI w1.heap.size w5 (.slice fa (gG (cur++[x.e])).length fc) (gG (cur++[x.e])):=Row1.mono (aI.FE fS pY wO) CN.out.size;have ZN:w1.heap.size<=w4.heap.size:=(CN.out.trans hg4).size;have IL:Grow w1 w5:=Below.grown (CN.out.trans hg4) pY ZN (λg hg=>(Tj.lt hg).1);have NM:=ZC (cur++[x.e]);have aDf:=ZK.out;obtain⟨tG,w6,r1,r2,r3,_⟩:=rB Tk (cE Rn) (aJ ZN pY.size) (by omega);have vX:=JD.aCY Tk r3;have hrel:Ti w1 size (ys.map Ev.e) tG (.slice none 0 0) (.slice (some ⟨kg,0,none⟩) (gs.length+1) ZM) (.string (mD (cur++[x.e]))) (.int .i64 ((i+1:Nat):Int)) w6:=by
       refine⟨_,_,_,rfl,HI.out.lay Hxe.out (by rw[qX.out];exact rC.out) ?_ ?_ (Below.grown IL r3 IL.size (λg hg=>(Tk.lt hg).1)) _⟩
       .rw[MU];simpa[bZ]using r2
       .rw[YP,Nat.zero_add];exact vX
      have aR:=ae hrel;have ZO:=ae r1;obtain⟨Ff,xL,Fg,rfl⟩:∃a L c,tG=.slice a L c:=by obtain⟨a,c,h⟩:=r2.slice;exact⟨_,_,_,h⟩
      clear Tj hout hrun JD pY fS wO Tk Rn ZN IL NM aDf r1 r2 r3 vX hrel hg4 pM
      go_upto_region 19 with(at_builtin;refine fP rfl rfl rfl rfl cU.out ?_)
      go_wp2_with (at_builtin;refine fP rfl rfl rfl rfl ZO.out ?_)
      go_roundw
      case rel=>exact aR.out
      case measure=>simp[intOf];omega
     .have hd:=decide_eq_false eF
      rw[hd];have hrel:Ti w1 size (ys.map Ev.e) (.slice oa (bZ gs).length oc) (.slice qa (bu (cur++[x.e])).length qc) (.slice ka gs.length kc) (.string (mD (cur++[x.e]))) (.int .i64 ((i+1:Nat):Int)) w3:=by have h1:=HI.out.more Hxe.out (λh=>eF (.inl h)) (λh=>eF (.inr (by rw[qX.out]at h;exact h))) jo.out Hop.out;rw[tB]at h1;exact⟨_,_,_,rfl,h1⟩
      have aR:=ae hrel;clear hd eF hrel;go_wp2;go_roundw
      case rel=>exact aR.out
      case measure=>simp[intOf];omega
  .obtain rfl:i=ys.length:=by omega
   have uF:cur=[]:=hI.last (by rw[qX.out]);subst uF;have fk:eX size [] (ys.map Ev.e)=gs:=by have h1:=hI.ZG;rw[List.drop_of_length_le (by rw[qX.out];exact aw _)]at h1;simpa[eX]using h1
   have hne:=hI.ne;have iX:=hI.nl;have gK:gs.flatten=ys.map Ev.e:=by have h1:=hI.cut;rw[List.append_nil,List.take_of_length_le (by rw[qX.out];exact aw _)]at h1;exact h1
   have fw:=Tg gs 0 hne;rw[gK]at fw;have hbl:=JE gs;rw[gK]at hbl;have JF:∀g∈gs,(bu g).length<=(bu (ys.map Ev.e)).length:=λg hg=>by rw[<-gK,<-akD];exact ZH (aV.2 ⟨g,hg,rfl⟩)
   have mo:=ZF gs 0 (λg hg=>⟨hne g hg,by have:=JF g hg;omega⟩) (by omega);have qA:=ajr hI.Th mo (by rw[tB];omega) (by omega);rw[Fb]at qA;rw[Fb]at fw;rw[tB]at qA;have CE:=ae qA;have hout:=hI.out;have akM:=ae hout;have HgI:=ae (eV.out.trans hI.grow);have ZP:=ae hI.grow;have NN:=ae fk;clear hI qA JF mo hne gK hout fk
   go_wp2_with fail
   (with_reducible refine CE.out.mono ?_);rintro e w2 ⟨xv,rfl,qY,hg2⟩;have jT:=DL (cE qY) (by omega);have JG:=ae jT;obtain⟨Ff,Fg,rfl⟩:=qY.slice;clear jT qY CE
   go_wp2_with fail
   (with_reducible refine JG.out.mono ?_);rintro e w3 ⟨fv,rfl,tH,hg3⟩;have nH:=akM.out.grow (hg2.trans hg3);have aDg:=nG aq (kh 0 gs);have aDh:=cF (kh 0 gs).length;obtain⟨tG,w4,r1,r2,r3,_⟩:=rB nH (cE tH) (ZP.out.trans (hg2.trans hg3)).size (by omega);have ZQ:aI w1.heap.size w4 tG (eJ gs):=r2;have IK:Grow w1 w4:=Below.grown (ZP.out.trans (hg2.trans hg3)) r3 (ZP.out.trans (hg2.trans hg3)).size (λg hg=>(nH.lt hg).1);have hbd:(eJ gs).length<=140000000:=by unfold eJ;rw[aM];omega
   have JH:=ajG (HE.out.grow IK) hlen (λy hy=>by have:=(HK.out y hy).1;omega);have aDi:=ae r1;have Hb4:=ae ZQ;have JI:=ae IK;have NP:=ae JH;obtain⟨fa,fc,rfl⟩:=tH.slice;obtain⟨ba,bc,rfl⟩:=ZQ.slice;clear r1 r2 ZQ r3 IK JH nH tH hg2 hg3 JG akM;have aNv:(bZ gs).length<=(eJ gs).length:=by unfold eJ;rw[aM];omega
   clear aDg aDh hbl fw
   go_upto_region 25 with(at_builtin;refine fP rfl rfl rfl rfl aDi.out ?_)
   go_wp2_with fail
   (with_reducible refine NP.out.mono ?_);rintro e w5 ⟨xv,rfl,qY,bm⟩;have eF:=Nk (ys.map Ev.e);have hfn:ik (ys.map Ev.e)<=2000000:=by have:=Ju (ys.map Ev.e) (ys.map Ev.e).length;rw[qX.out]at this;unfold ik;rw[qX.out];omega
   rw[<-eF]at hfn;clear eF;have jT:=DL (cE qY) (by omega);have JG:=ae jT;obtain⟨Ff,Fg,rfl⟩:=qY.slice;clear jT qY NP
   go_wp2_with fail
   (with_reducible refine JG.out.mono ?_);rintro e w6 ⟨fv,rfl,tH,dh⟩;have mX:=Hb4.out.grow (bm.trans dh);have hb6:(bC aq (eC (ys.map Ev.e))).length<=3000000:=by have h1:=nG aq (eC (ys.map Ev.e));have h2:=cF (eC (ys.map Ev.e)).length;omega
   obtain⟨tG,w7,r1,r2,r3,_⟩:=rB mX (cE tH) (JI.out.trans (bm.trans dh)).size (by omega);have hG7:Grow w1 w7:=Below.grown (JI.out.trans (bm.trans dh)) r3 (JI.out.trans (bm.trans dh)).size (λg hg=>(mX.lt hg).1);have Tl:(eJ gs++bC aq (eC (ys.map Ev.e))).length<=150000000:=by rw[aM];omega
   obtain⟨Y,hY⟩:∃Y,Y=eJ gs++bC aq (eC (ys.map Ev.e)):=⟨_,rfl⟩
   rw[<-hY]at r2 Tl;have HY:=ae hY;clear hY;have ZO:=ae r1;have SG:=ae r2;have Jt:=ae hG7;obtain⟨fa,fc,rfl⟩:=tH.slice;obtain⟨ba,bc,rfl⟩:=r2.slice;have akO:=ZI (B:=w7.heap.size) (bv:=.slice none 0 0) (l:=[]) (oM _ _ _) (aw _) (by simp) (bZ gs).length (by omega);have akP:=ae akO;have wu1:=wK (n:=(bZ gs).length) (by omega);have wu2:=wK (n:=(eJ gs).length) (by omega);have wu3:=wK (n:=ys.length) (by omega);clear r1 r2 r3 hG7 mX tH bm dh JG hb6 hfn akO
   go_upto_region 26 with(at_builtin;refine fP rfl rfl rfl rfl ZO.out ?_)
   go_wp2_with fail
   (with_reducible refine akP.out.mono ?_);rintro e w8 ⟨ev,rfl,rR,cW⟩;have akQ:=ZI rR cW.size (by simp[nD]) (eJ gs).length (by omega);have akR:=ae akQ;have zO:=ae cW;obtain⟨ea,eL,ec,rfl⟩:∃a L c,ev=.slice a L c:=by obtain⟨a,c,h⟩:=rR.slice;exact⟨_,_,_,h⟩
   clear akQ rR cW akP
   go_wp2_with fail
   (with_reducible refine akR.out.mono ?_);rintro e w9 ⟨ev,rfl,ZR,py⟩;have yz:Below w7.heap.size w7 w9:=zO.out.trans py;have akS:=ZI ZR yz.size (by simp[nD]) ys.length (by omega);have akT:=ae akS;have uW:=ae yz;obtain⟨ea,eL,ec,rfl⟩:∃a L c,ev=.slice a L c:=by obtain⟨a,c,h⟩:=ZR.slice;exact⟨_,_,_,h⟩
   clear akS ZR py yz akR zO
   go_wp2_with fail
   (with_reducible refine akT.out.mono ?_);rintro e ix ⟨ev,rfl,yi,qZ⟩;rw[show[]++cK 8 (bZ gs).length++cK 8 (eJ gs).length++cK 8 ys.length=jI (bZ gs).length (eJ gs).length ys.length by simp[jI]]at yi;have NQ:Grow w7 ix:=uW.out.trans qZ;have hend:=Sv (bZ gs).length (eJ gs).length ys.length;obtain⟨E,hE⟩:∃E,E=jI (bZ gs).length (eJ gs).length ys.length:=⟨_,rfl⟩
   rw[<-hE]at yi hend;have xW:E.length<=24:=by omega
   clear hend;have HE2:=ae hE;clear hE;have ZT:=SG.out.grow NQ;obtain⟨tG,nV,r1,r2,r3,_⟩:=rB ZT (cE yi) (Jt.out.trans NQ).size (by omega);have akU:Grow w1 nV:=Below.grown (Jt.out.trans NQ) r3 (Jt.out.trans NQ).size (λg hg=>(ZT.lt hg).1);have akV:aI w7.heap.size nV ev E:=yi.keep (λg hg=>r3.block g (yi.lt hg).2 (λe=>by have h1:=(SG.out.lt e.symm).2;have h2:=(yi.lt hg).1;omega))
   have LM:=ae r1;have aDm:=ae r2;have ZU:=ae akU;obtain⟨ea,ec,rfl⟩:=yi.slice;have Sn:=ax nV (.cells #[.slice ea E.length ec] 49);have nO:=ar nV (.cells #[.slice ea E.length ec] 49);have hsu:=QF Sn ((cE akV).grow nO);have Ap:=ae hsu;have Tm:=ae nO;have aNw:=Bq E;have wus:=wK (n:=eQ aq E) (by omega);obtain⟨oa2,oL2,oc2,rfl⟩:∃a L c,tG=.slice a L c:=by obtain⟨a,c,h⟩:=r2.slice;exact⟨_,_,_,h⟩
   clear r1 r2 r3 akU akV yi qZ NQ ZT Sn nO hsu akT uW wu1 wu2 wu3
   go_upto_region 27 with fail
   go_wp2_with (at_builtin;refine fP rfl rfl rfl rfl LM.out ?_)
   (with_reducible refine Ap.out.mono ?_);rintro e tI ⟨rfl,mi⟩;generalize NR:eQ aq E=SM at*;have HSM:=ae NR;have akX:=aDc (w:=tI) (B:=tI.heap.size) (bv:=.slice none 0 0) (l:=[]) (oM _ _ _) (aw _) (by simp) SM (by omega);have akY:=ae akX;have CO:=ae (Tm.out.trans mi);clear akX mi NR Ap
   go_wp2_with fail
   (with_reducible refine akY.out.mono ?_);rintro e w14 ⟨lv,rfl,ZV,qU⟩;have NS:Grow nV w14:=CO.out.trans qU;have ZW:=aDm.out.grow NS;have om:(cK 4 SM).length=4:=nD 4 SM;obtain⟨tG,NU,r1,r2,r3,_⟩:=rB ZW (cE ZV) (ZU.out.trans NS).size (by simp only[aM,iK,om];omega);have ala:Grow w1 NU:=Below.grown (ZU.out.trans NS) r3 (ZU.out.trans NS).size (λg hg=>(ZW.lt hg).1);have hres:aI w.heap.size NU tG (ig (eX size [] (ys.map Ev.e)) ys.length (eC (ys.map Ev.e))):=by
    have h1:=Row1.mono r2 eV.out.size;have e:Y++E++([]++cK 4 SM)=ig (eX size [] (ys.map Ev.e)) ys.length (eC (ys.map Ev.e)):=by unfold ig;rw[NN.out,HY.out,<-HSM.out,HE2.out];simp only[jL,iK]
    rw[e]at h1;exact h1
   have dQ:=ae hres;have aDn:=ae (eV.out.trans ala);have aDo:=ae r1;obtain⟨oa3,oL3,oc3,rfl⟩:∃a L c,tG=.slice a L c:=by obtain⟨a,c,h⟩:=hres.slice;exact⟨_,_,_,h⟩
   obtain⟨la,lL,lc,rfl⟩:∃a L c,lv=.slice a L c:=by obtain⟨a,c,h⟩:=ZV.slice;exact⟨_,_,_,h⟩
   clear r1 r2 r3 ala hres ZW ZV qU NS om akY
   go_wp2_with (at_builtin;refine fP rfl rfl rfl rfl aDo.out ?_)
   go_ret2;exact⟨_,rfl,dQ.out,aDn.out⟩
section
abbrev JJ:List UInt8:=[116,45]
theorem ZX{N:Nat}{w:World}(h:df N B w)(hn:n<N)(a:n<1000000):
  Calls Tryz.prog 35 #[.int .i64 n] w λe w'=>e=.returned (.string (eR n))/\Grow w w':=by
 have b:=ae (afJ h hn a);have c:=zG a;have a:¬9223372036854775807<2+(fN n).length:=by omega
 clear h;go_enter Tryz.func35,Tryz.ntmps35
 go_wp2_with fail
 (with_reducible refine b.out.mono ?_);rintro e a ⟨rfl,a⟩;go_wp2;go_ret;exact⟨by rw[show(⟨#[116,45]⟩:ByteArray)=⟨(JJ:List UInt8).toArray⟩from rfl,xP];rfl,a⟩
structure Wv where
 x:Wr
 v:Value
def mF(y:Wv):List Value:=[.string y.x.key,.bool y.x.gone,y.v]
abbrev Tn(y:Wv):Array Value:=#[.string y.x.key,.bool y.x.gone,y.v]
theorem alb(y:Wv):(mF y).length=3:=rfl
abbrev pz(N:Nat->Prop)(w:World)(y:Wv):Prop:=Bw N w y.v y.x.val
def Ws(N:Nat->Prop)(w:World)(v:Value)(xs:List Wv):Prop:=
 (∃c a,v=.slice c xs.length a/\xs.length<=a/\a<=maxLen/\(c=none->a=0)/\(xs=[]\/∃b o,c=some ⟨b,o,none⟩/\N b/\b<w.heap.size/\Rd w b o mF 3 xs))/\∀x∈xs,pz N w x
section
variable{N M:Nat→Prop}{w w' w'':World}{v:Value}{xs:List Wv}
theorem Ws.kp(a:Ws N w v xs)(k:Kp N w w'):Ws N w' v xs:=by
 obtain⟨⟨d,c,rfl,e,f,g,a⟩,h⟩:=a;refine⟨⟨d,c,rfl,e,f,g,?_⟩,λx d=>(h x d).kp k⟩;rcases a with a|⟨b,o,rfl,hb,hlt,hr⟩
 .exact .inl a
 .refine .inr ⟨b,o,rfl,hb,bF hlt k.size,λi x d c u a=>?_⟩;rw[k.cell hb hlt];exact hr i x d c u a
theorem Ws.grow(a:Ws N w v xs)(b:Grow w w'):Ws N w' v xs:=a.kp (.bO b)
theorem Ws.mono(a:Ws N w v xs)(c:∀b,N b->M b):Ws M w v xs:=by
 obtain⟨⟨d,e,rfl,f,g,h,a⟩,i⟩:=a;refine⟨⟨d,e,rfl,f,g,h,?_⟩,λx d=>(i x d).mono c⟩;rcases a with a|⟨b,o,rfl,hb,hlt,hr⟩
 .exact .inl a
 .exact .inr ⟨b,o,rfl,c b hb,hlt,hr⟩
theorem Ws.slice(b:Ws N w v xs):∃a c,v=.slice a xs.length c:=by obtain⟨⟨a,c,b,_⟩,_⟩:=b;exact⟨a,c,b⟩
theorem Ws.get(a:Ws N w v xs){x:Wv}(b:xs[i]?=some x):pz N w x:=a.2 x (dm b)
theorem Ws.addr(a:Ws N w v xs){x:Wv}(d:xs[i]?=some x):∃b o c,v=.slice (some ⟨b,o,none⟩) xs.length c/\N b/\b<w.heap.size/\Rd w b o mF 3 xs:=by
 obtain⟨⟨e,c,rfl,e,e,e,a⟩,e⟩:=a;rcases a with rfl|⟨b,o,rfl,hb,hlt,hr⟩
 .simp at d
 .exact⟨b,o,c,rfl,hb,hlt,hr⟩
theorem JK{x:Wv}(a:Rd w b o mF 3 xs)(c:xs[i]?=some x):
  w.cell? ⟨b,o+i*3,none⟩=some (.string x.x.key)/\w.cell? ⟨b,o+i*3+1,none⟩=some (.bool x.x.gone)/\w.cell? ⟨b,o+i*3+2,none⟩=some x.v:=
 ⟨a i x c 0 _ rfl,a i x c 1 _ rfl,a i x c 2 _ rfl⟩
end
def uX(g:Bool):Nat:=if g then 1 else 0
def lQ(y:Wr):List UInt8:=aG (uX y.gone)++(bp y.key.data.toList++bp y.val)
def jw(seq:Nat)(l:List Wr):List UInt8:=aG seq++aG l.length++l.flatMap lQ
def bj(l:List Wr):Nat:=(l.map λa=>a.key.size+a.val.length).sum
theorem aDp(y:Wr):(lQ y).length<=30+(y.key.size+y.val.length):=by
 have a:=cF (uX y.gone);have a:=ox y.key.data.toList;have a:=ox y.val;have a:y.key.data.toList.length=y.key.size:=by rw[ia];rfl
 simp only[lQ,aM]at*;omega
theorem Tp:∀l:List Wr,(l.flatMap lQ).length<=30*l.length+bj l
 | []=>by simp[bj]
 |y::l=>by have a:=aDp y;have a:=Tp l;simp only[List.flatMap_cons,aM,dD,bj,cr,List.sum_cons]at*;omega
theorem ZY(seq:Nat)(l:List Wr):(jw seq l).length<=20+30*l.length+bj l:=by have a:=cF seq;have a:=cF l.length;have a:=Tp l;simp only[jw,aM]at*;omega
theorem JL(a b:List Wr):bj (a++b)=bj a+bj b:=by simp[bj]
theorem NV(l:List Wr)(i:Nat):bj (l.take i)<=bj l:=by have a:=JL (l.take i) (l.drop i);rw[List.take_append_drop]at a;omega
theorem Tq{l:List Wr}{y:Wr}(a:y∈l):y.key.size+y.val.length<=bj l:=by
 induction l with
 |nil=>cases a
 |cons b l b=>
  rcases bI.1 a with rfl|a
  .simp[bj]
  .have:=b a;simp only[bj,cr,List.sum_cons]at*;omega
end
end Go.Proofs.YtoolkdapflaeeaaGreatDoor
