/- Helpers. -/
import Derived.Deep.CutRange
import Derived.Deep.DeepCutAuto
import Derived.Test.YtoolkdapflaeeaaGreatDoorW0A
import Derived.MapKept
set_option maxRecDepth 100000
set_option maxHeartbeats 16000000
set_option linter.unusedSimpArgs false
open Go
variable{B b c d g ha aX i j k m m' n rb seq tb xb:Nat}{L l l' val x:List UInt8}{M N:Nat→Prop}{W W' w w0:World}{bv dv lv u v v0 z:Value}{cs:Array Value}{ds:List Int}{et kt t ty:TypeId}{f:Nat × Nat}
namespace Go.Proofs.YtoolkdapflaeeaaGreatDoor
open Go.RowKit Go.Gl Go.aF Mn
def FJ(B tb:Nat)(bv:Value)(L:List UInt8)(g:Nat)(f:ByteArray)(b:Value)(val:List UInt8)(j:Nat)(v:Value)(W:World):Prop:=
 match j with
 |0=>v=bv
 |1=>v=.int .u64 (g:Int)
 |2=>aI B W v (L++aG g)
 |3=>v=.pointer (some ⟨tb,0,none⟩)
 |4=>v=.string f
 |5=>Bv W v f.data.toList
 |6=>∃(a:Nat)(c:Value),v=.slice (some ⟨a,0,none⟩) 1 1/\W.heap[a]?=some (.cells #[c] 49 (0,0))/\Bv W c f.data.toList
 |7=>aI B W v (L++aG g++bp f.data.toList)
 |8=>v=.pointer (some ⟨tb,2,none⟩)
 |9=>v=b
 |10=>∃(a:Nat),v=.slice (some ⟨a,0,none⟩) 1 1/\W.heap[a]?=some (.cells #[b] 49 (0,0))
 |11=>aI B W v (L++aG g++bp f.data.toList++bp val)
 |12=>aI B W v (L++aG g++bp f.data.toList++bp val)
 |_=>True
theorem FJ.keep{f:ByteArray}{a:Value}:∀(j:Nat)(v:Value)(W W':World),Grow W W'->FJ B tb bv L g f a val j v W->FJ B tb bv L g f a val j v W':=by
 intro j v W W' b a;unfold FJ at a
 split at a<;>first
  |exact a
  |exact Bv.grow a b
  |exact Row1.grow a b
  |(obtain⟨c,f,d,e,g⟩:=a;exact⟨c,f,d,b.heap e,g.grow b⟩)
  |(obtain⟨c,d,e⟩:=a;exact⟨c,d,b.heap e⟩)
  |(unfold FJ;split<;>first|trivial|(exfalso;simp_all))
def qu(b:World)(bv:Value)(l:Array Bool)(a:Act)(W:World):Prop:=Grow b W/\(l.getD 12 false=false->a.tmps[5]?=some bv)
theorem qu.next{b:World}{l:Array Bool}{a:Act}(c:qu b bv l a W)(hi:i≠12)(e:d≠5)(f:Grow W W'):qu b bv (l.setIfInBounds i true) (a.put (some d) v) W':=
 ⟨c.1.trans f,λa=>jN e (c.2 (by rw[getD_set_ne false hi]at a;exact a))⟩
def ZZ(w:World)(a:List Wv)(pre:List UInt8)(bv c:Value)(b:World):Prop:=
 ∃i:Nat,c=.int .i64 i/\i<=a.length/\aI w.heap.size b bv (pre++((a.take i).map (·.x)).flatMap lQ)/\Grow w b
theorem take_one{a:Type}{l:List a}{x:a}(a:l[i]?=some x):l.take (i+1)=l.take i++[x]:=by rw[List.take_add_one,a];rfl
theorem yM{v1 v2:Value}(a:W.heap[b]?=some (.cells #[v0,v1,v2] t f)):W.cell? ⟨b,0,none⟩=some v0/\W.cell? ⟨b,1,none⟩=some v1/\W.cell? ⟨b,2,none⟩=some v2:=by refine⟨?_,?_,?_⟩<;>simp[World.cell?,a]
theorem aDq{v:Value}{ys:List Wv}(h:Ws N w v ys){seq:Nat}(hs:seq<18446744073709551616)(dM:ys.length<=1000000000)(sj:bj (ys.map (·.x))<=1000000000):
  Calls Tryz.prog 41 #[.int .u64 (seq:Int),v] w λe w'=>∃v,e=.returned v/\aI w.heap.size w' v (jw seq (ys.map (·.x)))/\Grow w w':=by
 have jC:=pS (w:=w) (bv:=.slice none 0 0) (l:=[]) ⟨none,0,rfl,aw _,aY _,λ_=>rfl,.inl rfl⟩ (by simp) (n:=seq) hs;have wu:=wo (n:=ys.length) (by omega);obtain⟨ya,yc,rfl⟩:=h.slice;have od:=ae jC;have H:=ae h;have Hyn:=ae sj;clear h jC sj;go_enter Tryz.func41,Tryz.ntmps41
 go_wp2_with fail
 (with_reducible refine od.out.mono ?_);rintro e w2 ⟨nv,rfl,gy,hg2⟩;have alc:=pS (cE gy) (by have:=cF seq;simp;omega) (n:=ys.length) (by omega);obtain⟨na,nL,nc,rfl⟩:∃a L c,nv=.slice a L c:=by obtain⟨a,c,h⟩:=gy.slice;exact⟨_,_,_,h⟩
 have ald:=ae alc;have eG:=ae hg2;clear alc gy hg2 od
 go_wp2_with fail
 (with_reducible refine ald.out.mono ?_);rintro e w3 ⟨nv,rfl,nH,hg3⟩;obtain⟨pre,jn⟩:∃x,x=aG seq++aG ys.length:=⟨_,rfl⟩
 rw[iK,<-jn]at nH;have aNE:pre.length<=20:=by rw[jn];have:=cF seq;have:=cF ys.length;simp only[aM];omega
 have aDr:=ae jn;clear jn;have bz:Hid (ZZ w ys pre nv (.int .i64 0) w3):=ae ⟨0,rfl,aY _,by simpa using nH.mono eG.out.size,eG.out.trans hg3⟩;obtain⟨na,nL,nc,rfl⟩:∃a L c,nv=.slice a L c:=by obtain⟨a,c,h⟩:=nH.slice;exact⟨_,_,_,h⟩
 clear nH hg3 ald eG
 go_wp2_with fail
 go_loopw [5,17] (λbv iv wr=>ZZ w ys pre bv iv wr) (λ_ iv _=>ys.length-(intOf iv).toNat)
 case atStart=>exact bz.out
 case round=>
  clear bz;obtain⟨i,rfl,hi,hown,hg⟩:=hrel;by_cases hlt:i<ys.length
  .obtain⟨y,hy⟩:∃y,ys[i]?=some y:=⟨ys[i],by simp[hlt]⟩
   have hW:=H.out.grow hg;obtain⟨b,o,c,jV,hNb,hbl,bq⟩:=hW.addr hy;cases jV;have fu:pz N wr y:=hW.get hy;have qp:y.x∈ys.map (·.x):=aV.2 ⟨y,dm hy,rfl⟩;have FK:=Tq qp;have ep:(ys.take (i+1)).map (·.x)=(ys.take i).map (·.x)++[y.x]:=by rw[take_one hy];simp
   have hpl:(((ys.take i).map (·.x)).flatMap lQ).length<=30*i+bj (ys.map (·.x)):=by have h1:=Tp ((ys.take i).map (·.x));have h2:=NV (ys.map (·.x)) i;rw[<-List.map_take]at h2;rw[bA,List.length_take]at h1;omega
   have aDs:=Hyn.out;obtain⟨a0,a1,a2⟩:=JK bq hy;obtain⟨⟨yk,yg,yd⟩,yv⟩:=y;dsimp only at a0 a1 a2 fu FK ep;have JM:Bv wr yv yd:=fu.1;obtain⟨xa,xc,rfl⟩:=JM.slice;have m2:yk.size<=1000000000:=by omega
   have m2':yk.data.toList.length<=1000000000:=by rw[ia];exact m2
   have m3:yd.length<=1000000000:=by omega
   have k2:=ox yk.data.toList;have k3:=ox yd;have oy:=ae ep;have lb:b<wr.heap.size:=hbl;have eN:(i:Int)<(ys.length:Int):=by omega
   have bU:(0:Int)<=(i:Int):=by omega
   have fT:IntKind.i64.wrap ((i:Int)+1)=(i:Int)+1:=aQ _ (by omega);have eE:(wr.alloc (.cells #[.string yk,.bool yg,.slice xa yd.length xc] 51)).heap[wr.heap.size]?=some (.cells #[.string yk,.bool yg,.slice xa yd.length xc] 51 (0,0)):=ax _ _;have aX:Grow wr (wr.alloc (.cells #[.string yk,.bool yg,.slice xa yd.length xc] 51)):=ar _ _;obtain⟨L,hL⟩:∃x,x=pre++((ys.take i).map (·.x)).flatMap lQ:=⟨_,rfl⟩
   rw[<-hL]at hown;have Js:L.length<=40000000000:=by rw[hL];simp only[aM];omega
   obtain⟨va,vc,rfl⟩:=hown.slice;have HL:=ae hL;have gw:=ae (hown.grow aX);have Hyb:=ae (JM.grow aX);have HG:=ae (hg.trans aX);clear hown hg hW bq ep FK hpl fu hy hL JM qp aDs
   go_upto_region 5 with fail
   clear a0 a1 a2 lb aX;generalize wr.alloc (.cells #[.string yk,.bool yg,.slice xa yd.length xc] 51)=w5 at*;generalize wr.heap.size=tb at*;have mh:=ae eE;obtain⟨t0,t1,t2⟩:=yM eE;have mY:=af eE;clear eE;have DN:Hid (pre++((ys.take (i+1)).map (·.x)).flatMap lQ=L++aG (uX yg)++bp yk.data.toList++bp yd):=ae (by rw[oy.out,HL.out];simp[lQ,jL])
   clear oy HL;have jE:uX yg<18446744073709551616:=by unfold uX;split<;>omega
   obtain⟨gn,Ts⟩:∃gn,gn=uX yg:=⟨_,rfl⟩
   rw[<-Ts]at DN jE
   go_upto_if 22 with fail
   go_cut [8]from 8 to 8 (λgv wx=>gv=.int .u64 ((gn:Nat):Int)/\wx=w5)
   case first=>
    cases yg with
    |false=>subst Ts;go_wp2;go_meet;exact⟨rfl,rfl⟩
    |true=>subst Ts;go_wp2;go_meet;exact⟨rfl,rfl⟩
   case rest=>
    obtain⟨rfl,hwc⟩:=hcut;have hwc':=hwc.symm;subst hwc';clear hwc Ts
    go_upto_region 8 with fail
    refine xA (λa0 ha0=>?_);have F5:a0.tmps[5]?=some (.slice va L.length vc):=by rw[ha0];rfl
    have F7:a0.tmps[7]?=some (.pointer (some ⟨tb,0,none⟩)):=by rw[ha0];rfl
    have F8:a0.tmps[8]?=some (.int .u64 ((gn:Nat):Int)):=by rw[ha0];rfl
    have hsz:a0.tmps.size=37:=by rw[ha0];rfl
    have pd:=ae ha0;clear ha0 t0 t1 t2 mY;refine xC (FJ w.heap.size tb (.slice va L.length vc) L gn yk (.slice xa yd.length xc) yd) (qu w5 (.slice va L.length vc)) Grow [5,23,24,25,26,27,28,29,30,31,32,33,34] (by kernel_rfl) (by kernel_rfl) (by rw[hsz];rfl) FJ.keep ⟨ay _,λ_=>F5⟩ ?_ (λa1 W1 hf=>?_);rotate_left
    .obtain⟨v,hv,hq⟩:=hf.slot 12 5 (by rfl) (by rfl)
     have hG:Grow w5 W1:=hf.world.1;have hq':aI w.heap.size W1 v (L++aG gn++bp yk.data.toList++bp yd):=hq;have e:=hf.alike.fill;rw[pd.out]at e;simp only[List.foldl_cons,List.foldl_nil,Act.put,nZ,List.set_cons_zero,lU]at e;have h5:a1.tmps.getD 5 undef=v:=by rw[gZ,hv];rfl
     obtain⟨u23,Nh⟩:∃u,a1.tmps.getD 23 undef=u:=⟨_,rfl⟩
     obtain⟨u24,yE⟩:∃u,a1.tmps.getD 24 undef=u:=⟨_,rfl⟩
     obtain⟨Tt,h25⟩:∃u,a1.tmps.getD 25 undef=u:=⟨_,rfl⟩
     obtain⟨u26,h26⟩:∃u,a1.tmps.getD 26 undef=u:=⟨_,rfl⟩
     obtain⟨Tu,NW⟩:∃u,a1.tmps.getD 27 undef=u:=⟨_,rfl⟩
     obtain⟨u28,NX⟩:∃u,a1.tmps.getD 28 undef=u:=⟨_,rfl⟩
     obtain⟨Mo,Ca⟩:∃u,a1.tmps.getD 29 undef=u:=⟨_,rfl⟩
     obtain⟨Mp,Cb⟩:∃u,a1.tmps.getD 30 undef=u:=⟨_,rfl⟩
     obtain⟨Mq,Cc⟩:∃u,a1.tmps.getD 31 undef=u:=⟨_,rfl⟩
     obtain⟨u32,Ce⟩:∃u,a1.tmps.getD 32 undef=u:=⟨_,rfl⟩
     obtain⟨u33,Cf⟩:∃u,a1.tmps.getD 33 undef=u:=⟨_,rfl⟩
     obtain⟨Ry,Mr⟩:∃u,a1.tmps.getD 34 undef=u:=⟨_,rfl⟩
     rw[h5,Nh,yE,h25,h26,NW,NX,Ca,Cb,Cc,Ce,Cf,Mr]at e;clear h5 hv hq hf Nh yE h25 h26 NW NX Ca Cb Cc Ce Cf Mr;rw[e];clear e pd F5 F7 F8 hsz;obtain⟨Ff,xL,Fg,rfl⟩:∃a L c,v=.slice a L c:=by obtain⟨a,c,h⟩:=hq'.slice;exact⟨_,_,_,h⟩
     have aR:Hid (ZZ w ys pre (.slice Ff xL Fg) (.int .i64 ((i:Int)+1)) W1):=ae ⟨i+1,by simp,hlt,by rw[DN.out];exact hq',HG.out.trans hG⟩;clear hq' hG;go_wp2;go_roundw
     case rel=>exact aR.out
     case measure=>simp[intOf];omega
    refine⟨?_,?_,?_,?_,?_,?_,?_,?_,?_,?_,?_,?_,?_,True.intro⟩
    .intro listed a W hf ak aj;have hs1:=hf.sz hsz;have hT:=hf.world;have hG:Grow w5 W:=hT.1;have aki:=fF hf.closed (n:=8) (e:=12) (i:=0) (by kernel_rfl) ak;have G5:a.tmps[5]'(by rw[hs1];decide)=.slice va L.length vc:=aP (hT.2 aki) _;refine br rfl (by rfl) (λK' hK'=>?_);go_simp;exact hK' _ _ ⟨_,rfl,(λ_ _=>rfl),aW _,qu.next hT (by decide) (by decide) (aW _)⟩
    .intro listed a W hf ak aj;have hs1:=hf.sz hsz;have hT:=hf.world;have hG:Grow w5 W:=hT.1;have G8:=hf.got (by decide) F8 (by rw[hs1];decide);refine br rfl (by rfl) (λK' hK'=>?_);go_simp;exact hK' _ _ ⟨_,rfl,(λ_ _=>rfl),aW _,qu.next hT (by decide) (by decide) (aW _)⟩
    .intro listed a W hf ak aj;have hs1:=hf.sz hsz;have hT:=hf.world;have hG:Grow w5 W:=hT.1;have G23:=aP (hf.sv 0 23 rfl (aO aj 0 (by kernel_rfl)) λ_ _ h=>h) (by rw[hs1];decide);have G24:=aP (hf.sv 1 24 rfl (aO aj 1 (by kernel_rfl)) λ_ _ h=>h) (by rw[hs1];decide);refine ky rfl (by rfl) (by go_simp) (pS (cE (gw.out.grow hG)) (by omega) (n:=gn) (by omega)) ?_;rintro e W2 ⟨v,rfl,ho,hg2⟩;exact⟨_,rfl,_,rfl,(λ_ _=>ho.mono (aJ HG.out.size hG.size)),hg2,qu.next hT (by decide) (by decide) hg2⟩
    .intro listed a W hf ak aj;have hs1:=hf.sz hsz;have hT:=hf.world;have hG:Grow w5 W:=hT.1;have G7:=hf.got (by decide) F7 (by rw[hs1];decide);refine br rfl (by rfl) (λK' hK'=>?_);go_simp;exact hK' _ _ ⟨_,rfl,(λ_ _=>rfl),aW _,qu.next hT (by decide) (by decide) (aW _)⟩
    .intro listed a W hf ak aj;have hs1:=hf.sz hsz;have hT:=hf.world;have hG:Grow w5 W:=hT.1;have G26:=aP (hf.sv 3 26 rfl (aO aj 3 (by kernel_rfl)) λ_ _ h=>h) (by rw[hs1];decide);have hb:=hG.heap mh.out;obtain⟨Ey,Ez,EA⟩:=yM hb;have lb:=af hb;refine br rfl (by rfl) (λK' hK'=>?_);go_simp;exact hK' _ _ ⟨_,rfl,(λ_ _=>rfl),aW _,qu.next hT (by decide) (by decide) (aW _)⟩
    .intro listed a W hf ak aj;have hs1:=hf.sz hsz;have hT:=hf.world;have hG:Grow w5 W:=hT.1;have G27:=aP (hf.sv 4 27 rfl (aO aj 4 (by kernel_rfl)) λ_ _ h=>h) (by rw[hs1];decide);obtain⟨cap,W2,BR,bD,hg2⟩:=BG yk (by omega) W;refine br rfl (by rfl) (λK' hK'=>?_);go_simp;exact hK' _ _ ⟨_,rfl,(λ_ _=>bD),hg2,qu.next hT (by decide) (by decide) hg2⟩
    .intro listed a W hf ak aj;have hs1:=hf.sz hsz;have hT:=hf.world;have hG:Grow w5 W:=hT.1;obtain⟨v5,s5,q5⟩:=hf.slot 5 28 rfl (aO aj 5 (by kernel_rfl));have G28:=aP s5 (by rw[hs1];decide);have rS:Bv W v5 yk.data.toList:=q5;obtain⟨ka,kc,rfl⟩:=rS.slice;have hg2:Grow W (W.alloc (.cells #[.slice ka yk.data.toList.length kc] 49)):=ar _ _;refine DI rfl (by rfl) (tZ (v:=.slice ka yk.data.toList.length kc) rfl Tryz.underlying131 Tryz.zy rfl (by show a.tmps.getD 28 undef=_;rw[gZ,s5];rfl) rfl) ?_;exact⟨_,rfl,(λ_ _=>⟨W.heap.size,_,rfl,ax _ _,rS.grow hg2⟩),hg2,qu.next hT (by decide) (by decide) hg2⟩
    .intro listed a W hf ak aj;have hs1:=hf.sz hsz;have hT:=hf.world;have hG:Grow w5 W:=hT.1;obtain⟨v2,s2,q2⟩:=hf.slot 2 25 rfl (aO aj 2 (by kernel_rfl));have iU:aI w.heap.size W v2 (L++aG gn):=q2;have G25:=aP s2 (by rw[hs1];decide);obtain⟨v6,s6,qb,pv,q6,mZ,pQ⟩:=hf.slot 6 29 rfl (aO aj 6 (by kernel_rfl));subst q6;have G29:=aP s6 (by rw[hs1];decide);refine ky rfl (by rfl) (by go_simp) (Ed (cE iU) (by have:=cF gn;simp only[aM];omega) mZ pQ (by omega)) ?_;rintro e W2 ⟨v,rfl,ho,hg2⟩;exact⟨_,rfl,_,rfl,(λ_ _=>ho.mono (aJ HG.out.size hG.size)),hg2,qu.next hT (by decide) (by decide) hg2⟩
    .intro listed a W hf ak aj;have hs1:=hf.sz hsz;have hT:=hf.world;have hG:Grow w5 W:=hT.1;have G7:=hf.got (by decide) F7 (by rw[hs1];decide);refine br rfl (by rfl) (λK' hK'=>?_);go_simp;exact hK' _ _ ⟨_,rfl,(λ_ _=>rfl),aW _,qu.next hT (by decide) (by decide) (aW _)⟩
    .intro listed a W hf ak aj;have hs1:=hf.sz hsz;have hT:=hf.world;have hG:Grow w5 W:=hT.1;have G31:=aP (hf.sv 8 31 rfl (aO aj 8 (by kernel_rfl)) λ_ _ h=>h) (by rw[hs1];decide);have hb:=hG.heap mh.out;obtain⟨Ey,Ez,EA⟩:=yM hb;have lb:=af hb;refine br rfl (by rfl) (λK' hK'=>?_);go_simp;exact hK' _ _ ⟨_,rfl,(λ_ _=>rfl),aW _,qu.next hT (by decide) (by decide) (aW _)⟩
    .intro listed a W hf ak aj;have hs1:=hf.sz hsz;have hT:=hf.world;have hG:Grow w5 W:=hT.1;obtain⟨v9,s9,q9⟩:=hf.slot 9 32 rfl (aO aj 9 (by kernel_rfl));have q9':v9=_:=q9;subst q9';have G32:=aP s9 (by rw[hs1];decide);have hg2:Grow W (W.alloc (.cells #[.slice xa yd.length xc] 49)):=ar _ _;refine DI rfl (by rfl) (tZ (v:=.slice xa yd.length xc) rfl Tryz.underlying131 Tryz.zy rfl (by show a.tmps.getD 32 undef=_;rw[gZ,s9];rfl) rfl) ?_;exact⟨_,rfl,(λ_ _=>⟨W.heap.size,rfl,ax _ _⟩),hg2,qu.next hT (by decide) (by decide) hg2⟩
    .intro listed a W hf ak aj;have hs1:=hf.sz hsz;have hT:=hf.world;have hG:Grow w5 W:=hT.1;obtain⟨v7,s7,q7⟩:=hf.slot 7 30 rfl (aO aj 7 (by kernel_rfl));have hq7:aI w.heap.size W v7 (L++aG gn++bp yk.data.toList):=q7;have G30:=aP s7 (by rw[hs1];decide);obtain⟨v10,zQ,qb,rT,mZ⟩:=hf.slot 10 33 rfl (aO aj 10 (by kernel_rfl));subst rT;have G33:=aP zQ (by rw[hs1];decide);refine ky rfl (by rfl) (by go_simp) (Ed (cE hq7) (by have:=cF gn;simp only[aM];omega) mZ (Hyb.out.grow hG) (by omega)) ?_;rintro e W2 ⟨v,rfl,ho,hg2⟩;exact⟨_,rfl,_,rfl,(λ_ _=>ho.mono (aJ HG.out.size hG.size)),hg2,qu.next hT (by decide) (by decide) hg2⟩
    .intro listed a W hf ak aj;have hs1:=hf.sz hsz;have hT:=hf.world;have hG:Grow w5 W:=hT.1;obtain⟨v11,QG,DT⟩:=hf.slot 11 34 rfl (aO aj 11 (by kernel_rfl));have aDy:aI w.heap.size W v11 (L++aG gn++bp yk.data.toList++bp yd):=DT;have G34:=aP QG (by rw[hs1];decide);refine br rfl (by rfl) (λK' hK'=>?_);go_simp;exact hK' _ _ ⟨_,rfl,(λ_ _=>aDy),aW _,hG,(λhl=>by rw[pJ (by rw[hf.size];decide)]at hl;cases hl)⟩
  .have Sd:i=ys.length:=by omega
   subst Sd;rw[iA]at hown;have bq:jw seq (ys.map (·.x))=pre++(ys.map (·.x)).flatMap lQ:=by unfold jw;rw[bA,<-aDr.out]
   rw[<-bq]at hown;obtain⟨RR,hRR⟩:∃x,x=jw seq (ys.map (·.x)):=⟨_,rfl⟩
   rw[<-hRR]at hown;have Hr:=ae hown;have HRR:=ae hRR;obtain⟨va,vc,rfl⟩:=hown.slice;have HG:=ae hg;clear bq hg hown hRR;go_wp2;go_ret;refine⟨_,rfl,?_,HG.out⟩;rw[<-HRR.out];exact Hr.out
theorem Tv{a:Option Addr}(d:Bv w (.slice a l.length c) l)(e:i<=j)(e:j<=l.length)(e:j<=k)(e:k<=c):Bv w (.slice (if k=i then a else a.map (λx=>x.add i)) (j-i) (k-i)) ((l.drop i).take (j-i)):=by
 obtain⟨c,c,c,e,hm,e,d⟩:=d;cases c;have c:((l.drop i).take (j-i)).length=j-i:=by simp;omega
 refine⟨_,k-i,by rw[c],by rw[c];omega,by omega,?_,?_⟩
 .intro c
  split at c
  .omega
  .cases a with
   |none=>have:=e rfl;omega
   |some x=>cases c
 .rcases d with d|⟨b,o,rfl,hb,hc⟩
  .left;rw[d];simp
  .by_cases a:k=i
   .left;rw[show j-i=0 by omega];simp
   .right
    rw[if_neg a];refine⟨b,o+i,by simp[Addr.add],hb,λm u a=>?_⟩;simp only[List.getElem?_take]at a
    split at a
    .rw[List.getElem?_drop]at a;have:=hc (i+m) u a;rw[show o+i+m=o+(i+m)by omega];exact this
    .cases a
structure jx(w0 W:World)(rb:Nat)(l:List UInt8):Prop where
 cell:∃bv,W.heap[rb]?=some (.cells #[bv,.bool false] 308 (0,0))/\Bv w0 bv l
 grow:Grow w0 W
 new:w0.heap.size<=rb
theorem jx.ou(a:jx w0 W rb l)(b:Grow W W'):jx w0 W' rb l:=by obtain⟨bv,c,d⟩:=a.cell;exact⟨⟨bv,b.heap c,d⟩,a.grow.trans b,a.new⟩
theorem aac(b:jx w0 W rb l)(h:n<=l.length)(_hl:l.length<=1000000000000):
  Calls Tryz.prog 224 #[.pointer (some ⟨rb,0,none⟩),.int .i64 n,.int .i64 0] W λe w'=>e=.returned (.tuple #[])/\jx w0 w' rb (l.drop n)/\GX rb W w':=by
 obtain⟨bv,a,f⟩:=b.cell;obtain⟨c,d,rfl⟩:=f.slice;have e:l.length<=d:=by obtain⟨g,g,g,m,_⟩:=f;cases g;omega
 have g:=Tv f (i:=n) (j:=l.length) (k:=l.length) h (aw _) (aw _) e;rw[List.take_of_length_le (by simp)]at g;obtain⟨e,h⟩:∃e,(if l.length=n then c else c.map (λx=>x.add n))=e:=⟨_,rfl⟩
 rw[h]at g;have o:=ae a;have q:=ae g;have r:=ae b.grow;have h:=ae b.new;have j:W.cell? ⟨rb,0,none⟩=some (.slice c l.length d):=by simp[World.cell?,a]
 have s:W.cell? ⟨rb,1,none⟩=some (.bool false):=by simp[World.cell?,a]
 have k:=bG a;have m:=af a;have t:=eY (v:=.bool false) (i:=1) a rfl;clear b a f g;go_enter Tryz.func224,Tryz.ntmps224
 go_upto_region 2 with fail
 clear t;have f:(n:Int)<=(l.length:Int):=by omega
 have f:(0:Int)<=(n:Int):=by omega
 have f:(l.length:Int)<=(d:Int):=by omega
 refine ue (λf=>f.cell? ⟨rb,0,none⟩=some (.slice c l.length d)/\rb<f.heap.size/\f.frozen? ⟨rb,0,none⟩=false) [(0,false),(1,false),(2,false),(3,false),(4,false),(5,false),(6,false),(7,false),(8,false),(9,false),(10,false),(11,false),(12,false),(13,false),(14,false),(15,false),(16,false),(17,false),(18,false)] 19 (by kernel_rfl) (by kernel_rfl) (bB λ_ _ _ _ _ b=>b) ⟨j,m,k 0⟩ ?_;clear j s k m;simp only[cm,nth]
 repeat ((first|(apply az;rfl;rintro W ⟨b,b,b⟩;go_simp;with_reducible rfl)|(apply aA;rfl));simp only[ah,List.set])
 refine bg (uf (by rfl) (λf b=>?_));have a:=(ay W).heap o.out;have g:W.drew.cell? ⟨rb,0,none⟩=some (.slice c l.length d):=by simp[World.cell?,a]
 have c:W.drew.frozen? ⟨rb,0,none⟩=false:=by simp[World.frozen?,a]
 have d:=af a;go_simp;refine b _ _ ?_;clear b f
 try simp only[ah,List.set,aC]
 have b:=Go.Gl.aK a 0 (.slice e (l.length-n) (l.length-n));have f:Hid (jx w0 (W.drew.setCell ⟨rb,0,none⟩ (.slice e (l.length-n) (l.length-n))) rb (l.drop n)/\GX rb W (W.drew.setCell ⟨rb,0,none⟩ (.slice e (l.length-n) (l.length-n)))):=
  ae ⟨⟨⟨_,b,q.out⟩,cw (r.out.trans (ay W)) (p:=⟨rb,0,none⟩) h.out _,h.out⟩,(GX.of (ay W)).trans (Go.Gl.jB _ _ _ _)⟩
 clear b a g c d;go_wp2;exact⟨rfl,.tuple #[],by simp[results,Tryz.results224,go_sem],rfl,f.out⟩
theorem aDB{r:List UInt8}(a:jx w0 W rb (aG n++r))(f:n<18446744073709551616)(b:r.length<=900000000000):
  Calls Tryz.prog 223 #[.pointer (some ⟨rb,0,none⟩)] W λe w'=>e=.returned (.int .u64 n)/\jx w0 w' rb r/\GX rb W w':=by
 obtain⟨bv,b,c⟩:=a.cell;have d:=Lg (c.grow a.grow);rw[Rg f r]at d;have f:=cF n;have f:=aac a (n:=(aG n).length) (by simp) (by simp;omega);rw[List.drop_left]at f;have g:W.cell? ⟨rb,0,none⟩=some bv:=by simp[World.cell?,b]
 have g:=af b;obtain⟨g,g,rfl⟩:=c.slice;have g:=ae d;have h:=ae f;clear a b c d f;generalize (aG n++r).length=L at*;generalize (aG n).length=k at*;go_enter Tryz.func223,Tryz.ntmps223
 go_wp2_with fail
 (with_reducible refine g.out.mono ?_);rintro e a ⟨rfl,a⟩;have b:=a.symm;subst b;clear a g
 go_wp2_with fail
 (with_reducible refine h.out.mono ?_);rintro e a ⟨rfl,a,b⟩;go_wp2;go_ret;exact⟨rfl,a,b⟩
theorem alh{r:List UInt8}(b:jx w0 W rb (bp x++r))(a:x.length<=m)(hm:m<=67108864)(c:r.length<=900000000000):
  Calls Tryz.prog 222 #[.pointer (some ⟨rb,0,none⟩),.int .i64 m] W λe w'=>∃v,e=.returned v/\aI W.heap.size w' v x/\jx w0 w' rb r/\GX rb W w':=by
 obtain⟨bv,c,d⟩:=b.cell;have h:=Xz (d.grow b.grow) (by omega) (by omega) a (by omega);have i:=cF x.length;have m:(bp x++r).length=(aG x.length).length+x.length+r.length:=by simp[bp];omega
 have j:(bp x++r).drop ((aG x.length).length+x.length)=r:=by
  have:(bp x).length=(aG x.length).length+x.length:=by simp[bp]
  rw[<-this,List.drop_left]
 have f:=ae (λ(w':World)(a:Grow W w')=>aac (b.ou a) (n:=(aG x.length).length+x.length) (by omega) (by omega));rw[j]at f;have l:W.cell? ⟨rb,0,none⟩=some bv:=by simp[World.cell?,c]
 have l:=af c;obtain⟨l,l,rfl⟩:=d.slice;have l:=ae h;clear b c d h j m;generalize (bp x++r).length=L at*;generalize (aG x.length).length+x.length=k at*;go_enter Tryz.func222,Tryz.ntmps222
 go_wp2_with fail
 (with_reducible refine l.out.mono ?_);rintro e c ⟨v,rfl,b,a⟩;have h:=f.out c a;have j:=ae b;have k:=ae a;have m:∀g,v.ownBlock=some g->g≠rb/\g<c.heap.size:=λg c=>⟨by have:=(b.lt c).1;omega,(b.lt c).2⟩
 have d:=ae m;clear m;have m:=ae h;obtain⟨n,n,rfl⟩:=b.slice;clear b a l f h
 go_wp2_with fail
 (with_reducible refine m.out.mono ?_);rintro e h ⟨rfl,b,a⟩;have f:=j.out.keep (w':=h) (λg c=>by obtain⟨_,_,_,_,i⟩:=a;exact i g (d.out g c).2 (λe=>(d.out g c).1 (by cases e;rfl)))
 have c:=ae (ag f (ag b ((GX.of k.out).trans a)));clear b a f j k d m;go_wp2;go_ret;exact⟨_,rfl,c.out⟩
theorem aDC{r:List UInt8}(a:jx w0 W rb (bp x++r))(b:x.length<=65535)(c:r.length<=900000000000):
 Calls Tryz.prog 222 #[.pointer (some ⟨rb,0,none⟩),.int .i64 65535] W λe w'=>∃v,e=.returned v/\aI W.heap.size w' v x/\jx w0 w' rb r/\GX rb W w':=alh a (m:=65535) b (by decide) c
theorem aDD{r:List UInt8}(a:jx w0 W rb (bp x++r))(b:x.length<=33554432)(c:r.length<=900000000000):
 Calls Tryz.prog 222 #[.pointer (some ⟨rb,0,none⟩),.int .i64 33554432] W λe w'=>∃v,e=.returned v/\aI W.heap.size w' v x/\jx w0 w' rb r/\GX rb W w':=alh a (m:=33554432) b (by decide) c
def SRe(rb:Nat)(key:List UInt8)(seq:Nat)(j:Nat)(v:Value)(_W:World):Prop:=
 match j with
 |0=>v=.pointer (some ⟨rb,0,none⟩)
 |2=>v=.string ⟨key.toArray⟩
 |3=>v=.pointer (some ⟨rb,0,none⟩)
 |4=>v=.int .u64 seq
 |5=>v=.agg #[.string ⟨key.toArray⟩,.int .u64 seq,.bool false,.slice none 0 0]
 |_=>True
structure CP(w0 W1:World)(rb:Nat)(key:List UInt8)(seq:Nat)(r:List UInt8)(l:Array Bool)(a:Act)(W:World):Prop where
 gx:GX rb W1 W
 Aq:l.getD 1 false=false->jx w0 W rb (bp key++(aG seq++r))
 Ar:l.getD 1 false=true->l.getD 4 false=false->jx w0 W rb (aG seq++r)
 Au:l.getD 4 false=true->jx w0 W rb r
 CC:l.getD 1 false=true->∃v,a.tmps[5]?=some v/\aI W1.heap.size W v key/\v.ownBlock≠some rb
 al:l.getD 6 false=true->∃q,a.tmps[3]?=some (.pointer (some ⟨q,0,none⟩))/\W1.heap.size<=q/\q≠rb/\W.heap[q]?=some (.cells (if l.getD 7 false then #[.string ⟨key.toArray⟩,.int .u64 seq,.bool false,.slice none 0 0]else #[.string ⟨#[]⟩,.int .u64 0,.bool false,.slice none 0 0]) 60 (0,0))
theorem CP.next{e:World}{key:List UInt8}{r:List UInt8}{l:Array Bool}{a:Act}(b:CP w0 e rb key seq r l a W)(hi:i≠1/\i≠4/\i≠6/\i≠7)(g:d≠5/\d≠3)(c:Grow W W'):CP w0 e rb key seq r (l.setIfInBounds i true) (a.put (some d) v) W':=
 ⟨b.gx.trans (GX.of c),λa=>(b.Aq (by rw[getD_set_ne false hi.1]at a;exact a)).ou c,λa d=>(b.Ar (by rw[getD_set_ne false hi.1]at a;exact a) (by rw[getD_set_ne false hi.2.1]at d;exact d)).ou c,
  λa=>(b.Au (by rw[getD_set_ne false hi.2.1]at a;exact a)).ou c,
  λa=>by obtain⟨u,d,e,f⟩:=b.CC (by rw[getD_set_ne false hi.1]at a;exact a);exact⟨u,jN g.1 d,e.grow c,f⟩,
  λa=>by obtain⟨h,d,e,f,i⟩:=b.al (by rw[getD_set_ne false hi.2.2.1]at a;exact a);rw[getD_set_ne false hi.2.2.2];exact⟨h,jN g.2 d,e,f,c.heap i⟩⟩
theorem aDF{x:En}{r:List UInt8}(h:jx w0 W rb (qh x++r))(hk:x.key.size<=65535)(hs:x.seq<18446744073709551616)(hv:x.val.length<=33554432)(hr:r.length<=800000000000):
  Calls Tryz.prog 199 #[.pointer (some ⟨rb,0,none⟩)] W λe w'=>∃sv,e=.returned (.agg (cd ⟨x,sv⟩))/\aI W.heap.size w' sv x.val/\jx w0 w' rb r/\GX rb W w':=by
 obtain⟨xk,xs,xg,xd⟩:=x;simp only at hk hs hv;have eF:xk.data.toList.length=xk.size:=by rw[ia];rfl
 have hka:(⟨xk.data.toList.toArray⟩:ByteArray)=xk:=by simp
 obtain⟨gb,hgb⟩:∃gb:UInt8,gb=if xg then 1 else 0:=⟨_,rfl⟩
 have lY:qh ⟨xk,xs,xg,xd⟩++r=bp xk.data.toList++(aG xs++(gb::(bp xd++r))):=by rw[hgb];simp[qh]
 rw[lY]at h;clear lY;obtain⟨R,hR⟩:∃R,R=gb::(bp xd++r):=⟨_,rfl⟩
 rw[<-hR]at h;have hRl:R.length<=850000000000:=by rw[hR];have:=ox xd;simp only[dD,aM];omega
 have HR:=ae hR;have Hgb:=ae hgb;clear hR hgb;have ai:=ar W (.cells #[.string ⟨#[]⟩,.int .u64 0,.bool false,.slice none 0 0] 60);have rf:=ax W (.cells #[.string ⟨#[]⟩,.int .u64 0,.bool false,.slice none 0 0] 60);have h1:=h.ou ai;have cn:=ae ai;have sk:=ae rf;have H1:=ae h1;have Hka:=ae hka;have aNH:w0.heap.size<=W.heap.size:=h.grow.size;clear h ai rf h1 hka;go_enter Tryz.func199,Tryz.ntmps199
 go_upto_region 1 with fail
 generalize hW1:W.alloc (.cells #[.string ⟨#[]⟩,.int .u64 0,.bool false,.slice none 0 0] 60)=W1 at*;clear hW1;obtain⟨eb,oo⟩:∃eb,eb=W.heap.size:=⟨_,rfl⟩
 rw[<-oo]at sk ⊢;have Fi:=ae oo;clear oo;refine xA (λa0 ha0=>?_);have F0:a0.tmps[0]?=some (.pointer (some ⟨rb,0,none⟩)):=by rw[ha0];rfl
 have hsz:a0.tmps.size=53:=by rw[ha0];rfl
 have pd:=ae ha0;clear ha0;have hgd:=ay W1;refine xC (SRe rb xk.data.toList xs) (CP w0 W1 rb xk.data.toList xs R) (λ_ _=>True) [3,4,5,6,7,8,9] (by kernel_rfl) (by kernel_rfl) (by rw[hsz];rfl) (λj v W W' _ h=>h) ⟨GX.of hgd,λ_=>H1.out.ou hgd,(λh=>by cases h),(λh=>by cases h),(λh=>by cases h),(λh=>by cases h)⟩ ?_ (λa1 W2 hf=>?_);rotate_left
 .obtain⟨q,hv3,jO,iU,Aw⟩:=hf.world.al rfl
  replace Aw:W2.heap[q]?=some (.cells #[.string ⟨xk.data.toList.toArray⟩,.int .u64 xs,.bool false,.slice none 0 0] 60 (0,0)):=Aw;have bq:=hf.world.Au rfl;have hgx:=hf.world.gx;have e:=hf.alike.fill;rw[pd.out]at e;simp only[List.foldl_cons,List.foldl_nil,Act.put,nZ,List.set_cons_zero,lU]at e;have h3:a1.tmps.getD 3 undef=.pointer (some ⟨q,0,none⟩):=by rw[gZ,hv3];rfl
  obtain⟨u4,h4⟩:∃u,a1.tmps.getD 4 undef=u:=⟨_,rfl⟩
  obtain⟨u5,h5⟩:∃u,a1.tmps.getD 5 undef=u:=⟨_,rfl⟩
  obtain⟨u6,h6⟩:∃u,a1.tmps.getD 6 undef=u:=⟨_,rfl⟩
  obtain⟨u7,h7⟩:∃u,a1.tmps.getD 7 undef=u:=⟨_,rfl⟩
  obtain⟨u8,h8⟩:∃u,a1.tmps.getD 8 undef=u:=⟨_,rfl⟩
  obtain⟨u9,h9⟩:∃u,a1.tmps.getD 9 undef=u:=⟨_,rfl⟩
  rw[h3,h4,h5,h6,h7,h8,h9]at e;clear h3 hv3 hf h4 h5 h6 h7 h8 h9;rw[e];clear e pd F0 hsz;rw[Hka.out]at Aw;have ali:W2.heap[eb]?=some (.cells #[.string ⟨#[]⟩,.int .u64 0,.bool false,.slice none 0 0] 60 (0,0)):=hgx.heap sk.out (by have:=Fi.out;have hn:=H1.out.new;intro e;obtain⟨bv,h2,_⟩:=H1.out.cell;rw[<-e,sk.out]at h2;exact absurd (cp (bh h2)).2.1 (by decide))
  obtain⟨bv,hc0,bD⟩:=bq.cell;rw[HR.out]at bD;have Fu:=bD.grow bq.grow;obtain⟨ba,bc,rfl,hbl,wF,hbn,dy⟩:=Fu;obtain⟨bb,bo,rfl,eD,alj⟩:∃b o,ba=some ⟨b,o,none⟩/\b<W2.heap.size/\∀(j:Nat)(k:UInt8),(gb::(bp xd++r))[j]?=some k->W2.cell? ⟨b,o+j,none⟩=some (.int .u8 k.toNat):=by
   rcases dy with h|h
   .cases h
   .exact h
  have ck:=alj 0 gb rfl;rw[Nat.add_zero]at ck;obtain⟨RL,hRL⟩:∃RL,RL=(bp xd++r).length:=⟨_,rfl⟩
  have alm:(gb::(bp xd++r)).length=RL+1:=by rw[hRL];rfl
  rw[alm]at hc0;have c0:W2.cell? ⟨rb,0,none⟩=some (.slice (some ⟨bb,bo,none⟩) (RL+1) bc):=by simp[World.cell?,hc0]
  have c1:W2.cell? ⟨rb,1,none⟩=some (.bool false):=by simp[World.cell?,hc0]
  have f0:=bG hc0;have lr:=af hc0;obtain⟨e0,e1,e2,e3⟩:=cX Aw;have lq:=af Aw;have fq:=bG Aw;have eK:=eY (v:=.bool false) (i:=1) hc0 rfl;have zC:=eY (v:=.bool false) (i:=2) Aw rfl;have aNI:W.heap.size<=q:=aJ cn.out.size jO;have pU:=ae bq;have NY:=ae hgx;have aln:=ae ali;have Hq3:=ae Aw;have aNJ:decide ((RL:Int)+1=0)=false:=by simp;omega
  have aNK:((RL:Int)+1==0)=false:=by simp only[beq_eq_false_iff_ne,ne_eq];omega
  have aNL:(0:Int)<(RL:Int)+1:=by omega
  clear bq hgx ali Aw hc0 bD dy alj hbl wF hbn eD hRL alm;have hg1:decide ((1:Int)<(gb.toNat:Int))=false:=by rw[Hgb.out];cases xg<;>rfl
  go_upto_region 5 with fail
  go_cut []from 39 to 46 (λwx=>jx w0 wx rb (gb::(bp xd++r))/\wx.heap[q]?=some (.cells #[.string xk,.int .u64 xs,.bool xg,.slice none 0 0] 60 (0,0))/\GX rb W1 wx/\wx.heap[eb]?=some (.cells #[.string ⟨#[]⟩,.int .u64 0,.bool false,.slice none 0 0] 60 (0,0)))
  case first=>
   cases xg with
   |false=>
    clear hg1;have hg0:gb=0:=by rw[Hgb.out];rfl
    subst hg0;go_wp2;go_meet;exact⟨by rw[<-HR.out];exact pU.out,Hq3.out,NY.out,aln.out⟩
   |true=>
    clear hg1;have hg0:gb=1:=by rw[Hgb.out];rfl
    subst hg0;go_wp2;go_meet;have cG:=Go.Gl.aK Hq3.out 2 (.bool true);have jM:∀k,q≠k->(W2.setCell ⟨q,2,none⟩ (.bool true)).heap[k]?=W2.heap[k]?:=λk hk=>aN _ _ _ _ (Ne.symm hk)
    have hw0:w0.heap.size<=q:=aJ H1.out.grow.size jO;refine⟨?_,cG,?_,?_⟩
    .obtain⟨bv,h1,h2⟩:=pU.out.cell;rw[<-HR.out];exact⟨⟨bv,(jM rb iU).trans h1,h2⟩,pU.out.grow.setCell (p:=⟨q,2,none⟩) hw0 _,pU.out.new⟩
    .obtain⟨z1,z2,z3,z4,z5⟩:=NY.out;exact⟨z1,z2,z3,by simpa using z4,λb hb hne=>(jM b (λe=>by omega)).trans (z5 b hb hne)⟩
    .exact(jM eb (λe=>by have:=Fi.out;have:=af sk.out;omega)).trans aln.out
  case rest=>
   obtain⟨hr3,Jz,wQ,alp⟩:=hcut;generalize wc=W3 at*;have dN:=aac hr3 (n:=1) (by simp) (by simp only[dD,aM];have:=ox xd;omega);have alq:Calls Tryz.prog 224 #[.pointer (some ⟨rb,0,none⟩),.int .i64 1,.int .i64 0] W3 λe w'=>e=.returned (.tuple #[])/\jx w0 w' rb (bp xd++r)/\GX rb W3 w':=dN
   have oW:=ae alq;have gB:=ae (ag Jz (ag wQ alp));clear dN alq hr3 Jz wQ alp c0 c1 f0 e0 e1 e2 e3 fq eK zC ck
   go_wp2_with fail
   (with_reducible refine oW.out.mono ?_);rintro e W4 ⟨rfl,hr4,Ax⟩;have hby:=aDD hr4 hv (by omega);have Hby:=ae hby;have JN:=ae Ax;clear hby hr4 Ax oW
   go_wp2_with fail
   (with_reducible refine Hby.out.mono ?_);rintro e W5 ⟨sv,rfl,ho,uY,Tw⟩;have qi:W5.heap[q]?=some (.cells #[.string xk,.int .u64 xs,.bool xg,.slice none 0 0] 60 (0,0)):=Tw.heap (JN.out.heap gB.out.1 iU) iU;have Tx:eb≠rb:=by intro e;obtain⟨bv,h2,_⟩:=H1.out.cell;rw[<-e,sk.out]at h2;exact absurd (cp (bh h2)).2.1 (by decide)
   have uQ:=Tw.heap (JN.out.heap gB.out.2.2 Tx) Tx;obtain⟨sr,su,rfl⟩:=ho.slice;have als:GX rb W1 W5:=gB.out.2.1.trans (JN.out.trans Tw);have hle:w0.heap.size<=q:=aJ H1.out.grow.size jO;have hWe:W.heap.size<=eb:=by rw[Fi.out];exact aw _
   have aNN:eb<q:=bF (af sk.out) jO;obtain⟨e0,e1,e2,e3⟩:=cX qi;have lq5:=af qi;have fq:=bG qi;have cG:=Go.Gl.aK qi 3 (.slice sr xd.length su);have jM:∀k,q≠k->(W5.setCell ⟨q,3,none⟩ (.slice sr xd.length su)).heap[k]?=W5.heap[k]?:=λk hk=>aN _ _ _ _ (Ne.symm hk)
   have Hs:=ae (ag cG jM);have Mm:=ae ho;have wC:=ae uY;have aDH:=ae als;have Hb5:=ae uQ;have hs5:W5.heap.size<=(W5.setCell ⟨q,3,none⟩ (.slice sr xd.length su)).heap.size:=by simp
   clear cG jM ho uY als uQ Tw qi Hby
   go_upto_region 8 with fail
   generalize pn:W5.setCell ⟨q,3,none⟩ (.slice sr xd.length su)=W6 at*;have Ty:=ae pn;clear pn e0 e1 e2 e3 fq;have Ag:W6.heap[q]?=some (.cells #[.string xk,.int .u64 xs,.bool xg,.slice sr xd.length su] 60 (0,0)):=Hs.out.1;have NZ:W6.heap[eb]?=some (.cells #[.string ⟨#[]⟩,.int .u64 0,.bool false,.slice none 0 0] 60 (0,0)):=(Hs.out.2 eb (by omega)).trans Hb5.out;obtain⟨d0,d1,d2,d3⟩:=cX Ag;have lq6:=af Ag;obtain⟨g0,g1,g2,g3⟩:=cX NZ;have lg6:=af NZ;have fg:=bG NZ;have y1:=CA (v0:=.string xk) (v1:=.int .u64 xs) (v2:=.bool xg) (v3:=.slice sr xd.length su) NZ;have yo:=λk (hk:k≠eb)=>tA (w:=W6) hk (.string xk) (.int .u64 xs) (.bool xg) (.slice sr xd.length su)
   have Tz:∀k,k≠q->k≠eb->(jS W6 eb (.string xk) (.int .u64 xs) (.bool xg) (.slice sr xd.length su)).heap[k]?=W5.heap[k]?:=λk h1 h2=>(yo k h2).trans (Hs.out.2 k (Ne.symm h1))
   have fI:aI W.heap.size (jS W6 eb (.string xk) (.int .u64 xs) (.bool xg) (.slice sr xd.length su)) (.slice sr xd.length su) xd/\jx w0 (jS W6 eb (.string xk) (.int .u64 xs) (.bool xg) (.slice sr xd.length su)) rb r/\GX rb W (jS W6 eb (.string xk) (.int .u64 xs) (.bool xg) (.slice sr xd.length su)):=by
    refine⟨?_,?_,?_⟩
    .have h4:W.heap.size<=_:=aJ cn.out.size (aJ gB.out.2.1.size JN.out.size)
     refine(Mm.out.mono h4).keep (λg hg=>Tz g (λe=>?_) (λe=>?_))
     .have h5:=(Mm.out.lt hg).1;have h6:=af (JN.out.heap gB.out.1 iU);omega
     .have h5:=(Mm.out.lt hg).1;have h6:=af (JN.out.heap gB.out.2.2 Tx);omega
    .obtain⟨bv,h1,h2⟩:=wC.out.cell
     have TA:w0.heap.size<=eb:=by omega
     refine⟨⟨bv,(Tz rb (Ne.symm iU) (Ne.symm Tx)).trans h1,h2⟩,?_,wC.out.new⟩;rw[<-Ty.out];exact((((wC.out.grow.setCell (p:=⟨q,3,none⟩) hle _).setCell (p:=⟨eb,0,none⟩) TA _).setCell (p:=⟨eb,1,none⟩) TA _).setCell (p:=⟨eb,2,none⟩) TA _).setCell (p:=⟨eb,3,none⟩) TA _
    .have hGW:=(GX.of cn.out).trans aDH.out
     obtain⟨z1,z2,z3,z4,z5⟩:=hGW;refine⟨?_,?_,?_,?_,λb hb hne=>(Tz b (λe=>by omega) (λe=>by omega)).trans (z5 b hb hne)⟩
     .rw[<-Ty.out];exact z1
     .rw[<-Ty.out];exact z2
     .rw[<-Ty.out];exact z3
     .have:W6.heap.size<=(jS W6 eb (.string xk) (.int .u64 xs) (.bool xg) (.slice sr xd.length su)).heap.size:=by simp
      omega
   have cP:=ae fI;have hnq:q≠eb:=by omega
   have aNR:eb≠q:=by omega
   clear fI Tz yo Ag NZ;obtain⟨r0,r1,r2,r3⟩:=cX y1;have Hy:=ae (ag r0 (ag r1 (ag r2 r3)));clear r0 r1 r2 r3 y1;go_wp2;obtain⟨r0,r1,r2,r3⟩:=Hy.out;refine bodyPost_ret (v:=.agg #[.string xk,.int .u64 xs,.bool xg,.slice sr xd.length su]) (by simp[results,Tryz.results199,go_sem,r0,r1,r2,r3]) rfl ⟨_,rfl,cP.out⟩
 refine⟨?_,?_,?_,?_,?_,?_,?_,?_,True.intro⟩
 .intro listed a V hf ak aj;have hs1:=hf.sz hsz;have hT:=hf.world;have G0:=hf.got (by decide) F0 (by rw[hs1];decide);refine br rfl (by rfl) (λK' hK'=>?_);go_simp;exact hK' _ _ ⟨_,rfl,(λ_ _=>rfl),True.intro,CP.next hT (by decide) (by decide) (aW _)⟩
 .intro listed a V hf ak aj
  have hs1:=hf.sz hsz;have hT:=hf.world;have G4:=aP (hf.sv 0 4 rfl (aO aj 0 (by kernel_rfl)) λ_ _ h=>h) (by rw[hs1];decide);have jk:listed.getD 1 false=false:=by
   rw[gZ]at ak ⊢;cases hx:listed[1]? with
   |none=>rw[hx]at ak;cases ak
   |some b=>rw[hx]at ak;exact ak
  have Ay:=fF hf.closed (n:=8) (e:=4) (i:=1) (by kernel_rfl) ak;have Fj:=fF hf.closed (n:=8) (e:=7) (i:=1) (by kernel_rfl) ak;refine ky rfl (by rfl) (by go_simp) (aDC (hT.Aq jk) (by omega) (by have:=cF xs;simp only[aM];omega)) ?_;rintro e V2 ⟨v,rfl,ho,bq,hgx⟩;have hlen:1<listed.size:=by rw[hf.size];decide
  have yN:W1.heap.size<=V.heap.size:=hT.gx.size;refine⟨_,rfl,_,rfl,(λ_ _=>True.intro),True.intro,hT.gx.trans hgx,(λh=>by rw[pJ hlen]at h;cases h),(λ_ _=>bq),(λh=>by rw[getD_set_ne false (by decide)]at h;rw[Ay]at h;cases h),(λ_=>⟨v,xB (by rw[hs1];decide),ho.mono yN,λe=>by have h1:=(ho.lt e).1;obtain⟨bv,h2,_⟩:=(hT.Aq jk).cell;have:=af h2;omega⟩),λh=>?_⟩
  obtain⟨q,g1,g2,g3,g4⟩:=hT.al (by rw[getD_set_ne false (by decide)]at h;exact h);rw[getD_set_ne false (by decide)];exact⟨q,jN (by decide) g1,g2,g3,hgx.heap g4 g3⟩
 .intro listed a V hf ak aj;have hs1:=hf.sz hsz;have hT:=hf.world;obtain⟨v,s1,hb,_⟩:=hT.CC (aO aj 1 (by kernel_rfl));have G5:=aP s1 (by rw[hs1];decide);have hcv:=xQ (cE hb);refine br rfl (by rfl) (λK' hK'=>?_);go_simp;exact hK' _ _ ⟨_,rfl,(λ_ _=>rfl),True.intro,CP.next hT (by decide) (by decide) (aW _)⟩
 .intro listed a V hf ak aj;have hs1:=hf.sz hsz;have hT:=hf.world;have G0:=hf.got (by decide) F0 (by rw[hs1];decide);refine br rfl (by rfl) (λK' hK'=>?_);go_simp;exact hK' _ _ ⟨_,rfl,(λ_ _=>rfl),True.intro,CP.next hT (by decide) (by decide) (aW _)⟩
 .intro listed a V hf ak aj
  have hs1:=hf.sz hsz;have hT:=hf.world;have G7:=aP (hf.sv 3 7 rfl (aO aj 3 (by kernel_rfl)) λ_ _ h=>h) (by rw[hs1];decide);have Ay:listed.getD 4 false=false:=by
   rw[gZ]at ak ⊢;cases hx:listed[4]? with
   |none=>rw[hx]at ak;cases ak
   |some b=>rw[hx]at ak;exact ak
  have wR:=aO aj 1 (by kernel_rfl);have Fj:=fF hf.closed (n:=8) (e:=7) (i:=4) (by kernel_rfl) ak;have aDK:=hT.Ar wR Ay;refine ky rfl (by rfl) (by go_simp) (aDB aDK hs (by omega)) ?_;rintro e V2 ⟨rfl,bq,hgx⟩;have hlen:4<listed.size:=by rw[hf.size];decide
  refine⟨_,rfl,_,rfl,(λ_ _=>rfl),True.intro,hT.gx.trans hgx,(λh=>by rw[getD_set_ne false (by decide),wR]at h;cases h),(λ_ h=>by rw[pJ hlen]at h;cases h),(λ_=>bq),(λh=>?_),λh=>?_⟩
  .obtain⟨u,g1,g2,g3⟩:=hT.CC wR;exact⟨u,jN (by decide) g1,g2.keep (λg hg=>hgx.block g (g2.lt hg).2 (λe=>g3 (by rw[hg,e]))),g3⟩
  .obtain⟨q,g1,g2,g3,g4⟩:=hT.al (by rw[getD_set_ne false (by decide)]at h;exact h);rw[getD_set_ne false (by decide)];exact⟨q,jN (by decide) g1,g2,g3,hgx.heap g4 g3⟩
 .intro listed a V hf ak aj;have hs1:=hf.sz hsz;have hT:=hf.world;have G6:=aP (hf.sv 2 6 rfl (aO aj 2 (by kernel_rfl)) λ_ _ h=>h) (by rw[hs1];decide);have G8:=aP (hf.sv 4 8 rfl (aO aj 4 (by kernel_rfl)) λ_ _ h=>h) (by rw[hs1];decide);refine br rfl (by rfl) (λK' hK'=>?_);go_simp;exact hK' _ _ ⟨_,rfl,(λ_ _=>rfl),True.intro,CP.next hT (by decide) (by decide) (aW _)⟩
 .intro listed a V hf ak aj
  have hs1:=hf.sz hsz;have hT:=hf.world;have Sc:listed.getD 6 false=false:=by
   rw[gZ]at ak ⊢;cases hx:listed[6]? with
   |none=>rw[hx]at ak;cases ak
   |some b=>rw[hx]at ak;exact ak
  have Fj:=fF hf.closed (n:=8) (e:=7) (i:=6) (by kernel_rfl) ak;have hg2:Grow V (V.alloc (.cells #[.string ⟨#[]⟩,.int .u64 0,.bool false,.slice none 0 0] 60)):=ar _ _;refine br rfl (by rfl) (λK' hK'=>?_);go_simp;have hlen:6<listed.size:=by rw[hf.size];decide
  have eW:rb<W1.heap.size:=by obtain⟨bv,h2,_⟩:=H1.out.cell;exact af h2
  have yN:W1.heap.size<=V.heap.size:=hT.gx.size;exact hK' _ _ ⟨_,rfl,(λ_ _=>True.intro),True.intro,hT.gx.trans (GX.of hg2),(λh=>(hT.Aq (by rw[getD_set_ne false (by decide)]at h;exact h)).ou hg2),(λh1 h2=>(hT.Ar (by rw[getD_set_ne false (by decide)]at h1;exact h1) (by rw[getD_set_ne false (by decide)]at h2;exact h2)).ou hg2),
   (λh=>(hT.Au (by rw[getD_set_ne false (by decide)]at h;exact h)).ou hg2),(λh=>by obtain⟨u,g1,g2,g3⟩:=hT.CC (by rw[getD_set_ne false (by decide)]at h;exact h);exact⟨u,jN (by decide) g1,g2.grow hg2,g3⟩),(λ_=>⟨V.heap.size,xB (by rw[hs1];decide),yN,by omega,by rw[getD_set_ne false (by decide),Fj];exact ax _ _⟩)⟩
 .intro listed a V hf ak aj
  have hs1:=hf.sz hsz;have hT:=hf.world;have G9:=aP (hf.sv 5 9 rfl (aO aj 5 (by kernel_rfl)) λ_ _ h=>h) (by rw[hs1];decide);have Fj:listed.getD 7 false=false:=by
   rw[gZ]at ak ⊢;cases hx:listed[7]? with
   |none=>rw[hx]at ak;cases ak
   |some b=>rw[hx]at ak;exact ak
  obtain⟨q,g1,g2,g3,g4⟩:=hT.al (aO aj 6 (by kernel_rfl));rw[Fj]at g4;have FO:V.heap[q]?=some (.cells #[.string ⟨#[]⟩,.int .u64 0,.bool false,.slice none 0 0] 60 (0,0)):=g4;have G3:=aP g1 (by rw[hs1];decide);have wR:=aO aj 1 (by kernel_rfl);have h4l:=aO aj 4 (by kernel_rfl);obtain⟨e0,e1,e2,e3⟩:=cX FO;have le:=af FO;have fe:=bG FO;have s2:=eY (v:=.bool false) (i:=2) FO rfl;have s3':=eY (v:=.slice none 0 0) (i:=3) FO rfl;have y1:=CA (v0:=.string ⟨xk.data.toList.toArray⟩) (v1:=.int .u64 xs) (v2:=.bool false) (v3:=.slice none 0 0) FO;have yo:=λk (hk:k≠q)=>tA (w:=V) hk (.string ⟨xk.data.toList.toArray⟩) (.int .u64 xs) (.bool false) (.slice none 0 0)
  have dX:GX rb W1 (jS V q (.string ⟨xk.data.toList.toArray⟩) (.int .u64 xs) (.bool false) (.slice none 0 0)):=by obtain⟨z1,z2,z3,z4,z5⟩:=hT.gx;exact⟨z1,z2,z3,by simpa using z4,λb hb hne=>(yo b (λe=>by omega)).trans (z5 b hb hne)⟩
  have TB:=hT.Au h4l;obtain⟨ub,g5,g6,g7⟩:=hT.CC wR;have TC:aI W1.heap.size (jS V q (.string ⟨xk.data.toList.toArray⟩) (.int .u64 xs) (.bool false) (.slice none 0 0)) ub xk.data.toList:=g6.keep (λg hg=>yo g (λe=>by obtain⟨cur,hc⟩:=g6.block hg;rw[e,FO]at hc;exact absurd (cp (bh hc)).2.1 (by decide)))
  have TD:jx w0 (jS V q (.string ⟨xk.data.toList.toArray⟩) (.int .u64 xs) (.bool false) (.slice none 0 0)) rb R:=by obtain⟨bv,h1,h2⟩:=TB.cell;have hw0:w0.heap.size<=q:=aJ H1.out.grow.size g2;exact⟨⟨bv,(yo rb (Ne.symm g3)).trans h1,h2⟩,(((TB.grow.setCell (p:=⟨q,0,none⟩) hw0 _).setCell (p:=⟨q,1,none⟩) hw0 _).setCell (p:=⟨q,2,none⟩) hw0 _).setCell (p:=⟨q,3,none⟩) hw0 _,TB.new⟩
  have hlen:7<listed.size:=by rw[hf.size];decide
  have HT:=ae (ag y1 (ag dX (ag TC TD)));clear y1 dX TC TD TB g6 s2 s3';refine br rfl (by rfl) (λK' hK'=>?_);go_simp;obtain⟨y1,dX,TC,TD⟩:=HT.out;refine hK' _ _ ⟨undef,rfl,(λ_ _=>True.intro),True.intro,dX,(λh=>by rw[getD_set_ne false (by decide),wR]at h;cases h),(λ_ h=>by rw[getD_set_ne false (by decide),h4l]at h;cases h),(λ_=>TD),(λ_=>⟨ub,g5,TC,g7⟩),λ_=>⟨q,g1,g2,g3,?_⟩⟩;rw[pJ hlen];exact y1
theorem Tryz.aDL:(Tryz.prog.info? 51).map (λi=>(i.zero,i.size,i.bytes))=some (some (.agg #[.string ByteArray.empty,.bool false,.slice none 0 0]),3,48):=by kernel_rfl
def aai(B:Nat)(N:Nat->Prop)(w:World)(v:Value)(xs:List Wv):Prop:=w.ownsRow B 51 3 v xs.length (xs.flatMap mF)/\∀x∈xs,pz N w x
theorem aai.es{xs:List Wv}(b:aai B N w v xs)(c:∀g,v.ownBlock=some g->N g):Ws N w v xs:=by
 refine⟨?_,b.2⟩;rcases b.1.2 with⟨a,d⟩|⟨g,e,f,a,f,f,h,i,j⟩
 .have:xs=[]:=je d;subst this;exact⟨none,0,a,aw _,aY _,λ_=>rfl,.inl rfl⟩
 .exact⟨some ⟨g,0,none⟩,e,a,h,i,(λd=>by cases d),.inr ⟨g,0,rfl,c g (by rw[a];rfl),af f,xS alb (a ▸ b.1)⟩⟩
def uZ(N:Nat->Prop)(B:Nat)(W:World)(y:Wv):Prop:=
 Bv W y.v y.x.val/\(y.x.val=[]\/∀b,y.v.ownBlock=some b->N b\/(B<=b/\∃a f,W.heap[b]?=some (.cells a 5 f)))
theorem uZ.keep{y:Wv}(g:uZ N B W y)(c:W.heap.size<=W'.heap.size)(j:∀b,N b->W'.heap[b]?=W.heap[b]?)(i:∀(b:Nat)(a:Array Value)(f:Nat×Nat),B<=b->W.heap[b]?=some (.cells a 5 f)->W'.heap[b]?=some (.cells a 5 f)):uZ N B W' y:=by
 refine⟨akq g.1 c (λk b h=>?_),g.2.imp id (λd b h=>(d b h).imp id (λ⟨c,a,f,e⟩=>⟨c,a,f,i b a f c e⟩))⟩;rcases g.2 with d|d
 .exact absurd d k
 .rcases d b h with c|⟨c,a,f,e⟩
  .exact j b c
  .rw[i b a f c e,e]
theorem uZ.slice{y:Wv}(b:uZ N B W y):∃a c,y.v=.slice a y.x.val.length c:=b.1.slice
theorem uZ.aDM{y:Wv}(a:uZ N B W y)(c:∀b,N b\/B<=b->M b):pz M W y:=
 ⟨a.1,a.2.imp id (λa b d=>c b ((a b d).imp id (λa=>a.1)))⟩
def pA(B:Nat)(N:Nat->Prop)(W:World)(v:Value)(a:List Wv):Prop:=W.ownsRow B 51 3 v a.length (a.flatMap mF)/\∀b∈a,uZ N B W b
theorem pA.ws{a:List Wv}(c:pA B N W v a)(d:∀b,N b\/B<=b->M b):Ws M W v a:=
 aai.es (B:=B) ⟨c.1,λa b=>(c.2 a b).aDM d⟩ (λg a=>by
  rcases c.1.2 with⟨b,_⟩|⟨c,c,c,b,c,_⟩
  .rw[b]at a;cases a
  .rw[b]at a;cases a;exact d _ (.inr c))
theorem Oa{a:List Wv}(c:pA B N W v a)(a:v.ownBlock=some g):B<=g/\∃b,W.heap[g]?=some (.cells b 51 (0,0)):=by
 rcases c.1.2 with⟨c,d⟩|⟨d,d,b,c,d,e,_⟩
 .rw[c]at a;cases a
 .rw[c]at a;cases a;exact⟨d,b,e⟩
theorem pA.keep{d:List Wv}(c:pA B N W v d)(h:W.heap.size<=W'.heap.size)(i:∀b,N b->W'.heap[b]?=W.heap[b]?)(e:∀(b:Nat)(a:Array Value)(t:TypeId)(f:Nat×Nat),B<=b->(t=5\/t=51)->W.heap[b]?=some (.cells a t f)->W'.heap[b]?=some (.cells a t f)):pA B N W' v d:=by
 refine⟨⟨c.1.1,?_⟩,λd j=>(c.2 d j).keep h i (λb a f d h=>e b a _ f d (.inl rfl) h)⟩;rcases c.1.2 with b|⟨g,cap,a,b,h2,h3,h4⟩
 .exact .inl b
 .exact .inr ⟨g,cap,a,b,h2,e g a _ _ h2 (.inr rfl) h3,h4⟩
theorem alv{a:List Wv}(h:pA B N w v a){x:Wv}(l:uZ N B w x)(m:∀b,N b->b<B)(o:B<=w.heap.size)(e:a.length<=1000000000):
  ∃g i w',(Builtin.append_ #[27,27] 27 #[v,.slice (some ⟨w.heap.size,0,none⟩) 1 1]).run Tryz.prog (w.alloc (.cells (Tn x) 51))=.ok (.slice (some ⟨g,0,none⟩) (a.length+1) i) w'/\
   pA B N w' (.slice (some ⟨g,0,none⟩) (a.length+1) i) (a++[x])/\w.grownBy w' v.ownBlock:=by
 obtain⟨p,q,r,s,t⟩:=info_parts Tryz.aDL;have y:∀u∈mF x,u.oneCell'=true:=λu e=>by
  obtain⟨n,c,z⟩:=l.slice;simp only[mF,bI,List.not_mem_nil,or_false]at e;rcases e with rfl|rfl|rfl
  .rfl
  .rfl
  .rw[z];rfl
 have z:(w.alloc (.cells (Tn x) 51)).heap[w.heap.size]?=some (.cells (Tn x) 51 (0,0)):=ax _ _;obtain⟨g,i,w',A,C,D,_,_⟩:=run_append_lies (P:=Tryz.prog) (w.alloc (.cells (Tn x) 51)) 27 27 B 51 p _ 3 48 Tryz.underlying27 q r s t rfl (by decide) _ _ _ (fB h.1 (ar _ _))
  ⟨w.heap.size,0,none⟩ 1 1 (mF x) rfl (λj u e=>World.news_of_block z j u (by simpa[mF]using e)) y (by decide) (by unfold maxLen;omega) (by omega) (by simp;omega) _ rfl
 have j:w.grownBy w' v.ownBlock:=by obtain⟨n,b,c,d,e⟩:=D;exact⟨n,b,c,aJ (by simp) d,λk c d=>by rw[e k (by simp;omega) d];exact heap_alloc_old _ _ c⟩
 refine⟨g,i,w',A,⟨?_,λc d=>?_⟩,j⟩
 .have g:(a++[x]).flatMap mF=a.flatMap mF++mF x:=by simp
  rw[aM,g];exact C
 .have g:uZ N B w c:=by
   rcases dn.1 d with a|a
   .exact h.2 c a
   .rw[cZ.1 a];exact l
  refine g.keep j.size (λb a=>?_) (λb c f a c=>?_)
  .refine j.block b (bF (m b a) o) (λe=>?_);have:=(Oa h e.symm).1;have:=m b a;omega
  .rw[j.block b (af c) (λe=>?_)]
   .exact c
   .obtain⟨_,a,a⟩:=Oa h e.symm;rw[c]at a;exact absurd (cp (bh a)).2.1 (by decide)
structure Bx(w0 W:World)(xb:Nat)(l:List UInt8):Prop where
 cell:∃bv,W.heap[xb]?=some (.cells #[bv] 49 (0,0))/\Bv w0 bv l
 grow:Grow w0 W
 new:w0.heap.size<=xb
theorem Bx.ou(a:Bx w0 W xb l)(b:Grow W W'):Bx w0 W' xb l:=by obtain⟨bv,c,d⟩:=a.cell;exact⟨⟨bv,b.heap c,d⟩,a.grow.trans b,a.new⟩
theorem Bx.cut{w0 W:World}{xb:Nat}{c:Option Addr}{a:Nat}(b:Bx w0 W xb l)(e:W.heap[xb]?=some (.cells #[.slice c l.length a] 49 (0,0))){n:Nat}(f:n<=l.length){d:Option Addr}(g:(if a=n then c else c.map (λx=>x.add n))=d):
  Bx w0 (W.setCell ⟨xb,0,none⟩ (.slice d (l.length-n) (a-n))) xb (l.drop n)/\GX xb W (W.setCell ⟨xb,0,none⟩ (.slice d (l.length-n) (a-n))):=by
 obtain⟨bv,a,c⟩:=b.cell;rw[e]at a;cases a;have a:=agO c f;rw[g]at a;exact⟨⟨⟨_,Go.Gl.aK e 0 _,a⟩,cw b.grow (p:=⟨xb,0,none⟩) b.new _,b.new⟩,Go.Gl.jB _ _ _ _⟩
theorem aaj{r:List UInt8}(b:Bx w0 W xb (aG n++r))(f:n<18446744073709551616):
  Calls Tryz.prog 100 #[.pointer (some ⟨xb,0,none⟩)] W λe w'=>e=.returned (.int .u64 n)/\Bx w0 w' xb r/\GX xb W w':=by
 obtain⟨bv,a,c⟩:=b.cell;have d:=Lg (c.grow b.grow);rw[Rg f r]at d;have f:=cF n;obtain⟨f,g,rfl⟩:=c.slice;have h:(aG n++r).length<=g:=by obtain⟨h,h,h,i,_⟩:=c;cases h;omega
 obtain⟨h,j⟩:∃h,(if g=(aG n).length then f else f.map (λx=>x.add (aG n).length))=h:=⟨_,rfl⟩
 obtain⟨h,i⟩:=b.cut a (n:=(aG n).length) (by simp) j;rw[List.drop_left]at h;have j:W.cell? ⟨xb,0,none⟩=some (.slice f (aG n++r).length g):=by simp[World.cell?,a]
 have f:=bG a;have f:=af a;have f:=ae d;have g:(aG n).length<=(aG n++r).length:=by simp
 have g:=ae (ag h i);clear b a c d h i;generalize (aG n++r).length=L at*;generalize (aG n).length=k at*;go_enter Tryz.func100,Tryz.ntmps100
 go_wp2_with fail
 (with_reducible refine f.out.mono ?_);rintro e a ⟨rfl,a⟩;have b:=a.symm;subst b;clear a f;go_wp2;go_ret;exact⟨rfl,g.out⟩
theorem alw{r:List UInt8}(f:Bx w0 W xb (bp x++r))(c:x.length<=67108864)(a:r.length<=900000000000):
  Calls Tryz.prog 102 #[.pointer (some ⟨xb,0,none⟩)] W λe w'=>∃v,e=.returned v/\aI W.heap.size w' v x/\Bx w0 w' xb r/\GX xb W w':=by
 obtain⟨bv,a,g⟩:=f.cell;have d:=ox x;have s:=cF x.length;have l:(bp x).length=(aG x.length).length+x.length:=by simp[bp]
 have i:=Xz (g.grow f.grow) c (by omega) (m:=(bp x++r).length) (by simp only[aM];omega) (by simp only[aM];omega);rw[<-l]at i;obtain⟨h,c,rfl⟩:=g.slice;have d:(bp x++r).length<=c:=by obtain⟨d,d,m,d,_⟩:=g;cases m;omega
 obtain⟨j,t⟩:∃j,(if c=(bp x).length then h else h.map (λz=>z.add (bp x).length))=j:=⟨_,rfl⟩
 have u:(bp x).length<=(bp x++r).length:=by simp
 have w:W.cell? ⟨xb,0,none⟩=some (.slice h (bp x++r).length c):=by simp[World.cell?,a]
 have d:=af a;have n:=ae i;have o:=ae a;have p:=ae (λ(d:World)(q:Grow W d)=>by have:=(f.ou q).cut (q.heap a) u t;rw[List.drop_left]at this;exact this)
 clear f a g i l s;generalize (bp x++r).length=L at*;generalize (bp x).length=k at*;go_enter Tryz.func102,Tryz.ntmps102
 go_wp2_with fail
 (with_reducible refine n.out.mono ?_);rintro e d ⟨v,rfl,a,f⟩;have g:=f.heap o.out;have i:d.cell? ⟨xb,0,none⟩=some (.slice h L c):=by simp[World.cell?,g]
 have h:=bG g;have h:=af g;obtain⟨h,i⟩:=p.out d f;have l:aI W.heap.size (d.setCell ⟨xb,0,none⟩ (.slice j (L-k) (c-k))) v x:=a.keep (λb c=>aN _ _ _ _ (λe=>by have m:b=xb:=e;have:=(a.lt c).1;omega))
 have b:=ae (ag l (ag h ((GX.of f).trans i)));obtain⟨c,c,rfl⟩:=a.slice;clear a h i l f w g o p n;go_wp2;go_ret;exact⟨_,rfl,b.out⟩
structure Bt(w W:World)(xb:Nat)(l:List UInt8)(lv:Value)(ys:List Wv):Prop where
 bx:Bx w W xb l
 row:pA w.heap.size (λ_=>False) W lv ys
theorem Bt.gx{d:List Wv}(a:Bt w W xb l lv d)(c:Bx w W' xb l')(e:GX xb W W'):Bt w W' xb l' lv d:=by refine⟨c,a.row.keep e.size (λb c=>c.elim) (λb b t f _ d b=>?_)⟩;obtain⟨bv,c,_⟩:=a.bx.cell;exact e.heap b (λe=>by subst e;rw[b]at c;cases c;rcases d with a|a<;>exact absurd a (by decide))
theorem Bt.app{W':World}{b:Value}{d c:List Wv}(a:Bt w W xb l lv d)(d:W.grownBy W' lv.ownBlock)(e:pA w.heap.size (λ_=>False) W' b c):Bt w W' xb l b c:=by obtain⟨bv,b,f⟩:=a.bx.cell;refine⟨⟨⟨bv,(d.block xb (af b) (λc=>?_)).trans b,f⟩,a.bx.grow.grown d a.bx.grow.size (λk c=>(Oa a.row c).1),a.bx.new⟩,e⟩;obtain⟨_,d,d⟩:=Oa a.row c.symm;rw[b]at d;exact absurd (cp (bh d)).2.1 (by decide)
def SBa(xb tb:Nat)(key:ByteArray)(j:Nat)(v:Value)(_W:World):Prop:=
 match j with
 |0=>v=.func (.func 102) #[] #[.pointer (some ⟨xb,0,none⟩)]
 |2=>v=.string key
 |3=>v=.func (.func 102) #[] #[.pointer (some ⟨xb,0,none⟩)]
 |5=>v=.pointer (some ⟨tb,0,none⟩)
 |7=>v=.pointer (some ⟨tb,2,none⟩)
 |_=>True
structure vd(w W0:World)(xb tb:Nat)(key:ByteArray)(g:Bool)(val r:List UInt8)(l:Array Bool)(a:Act)(W:World):Prop where
 gx:GX xb W0 W
 Aq:l.getD 1 false=false->Bx w W xb (bp key.data.toList++(bp val++r))
 Ar:l.getD 1 false=true->l.getD 4 false=false->Bx w W xb (bp val++r)
 Au:l.getD 4 false=true->Bx w W xb r
 kb:l.getD 1 false=true->∃v,a.tmps[28]?=some v/\aI W0.heap.size W v key.data.toList
 vb:l.getD 4 false=true->∃v,a.tmps[31]?=some v/\aI W0.heap.size W v val
 box:∃c2,W.heap[tb]?=some (.cells #[if l.getD 6 false then .string key else .string ⟨#[]⟩,.bool g,c2] 51 (0,0))/\(l.getD 8 false=true->a.tmps[31]?=some c2)
theorem vd.next{e:World}{key:ByteArray}{g:Bool}{r:List UInt8}{l:Array Bool}{a:Act}(b:vd w e xb tb key g val r l a W)(hi:i≠1/\i≠4/\i≠6/\i≠8)(f:d≠28/\d≠31)(c:Grow W W'):vd w e xb tb key g val r (l.setIfInBounds i true) (a.put (some d) v) W':=
 ⟨b.gx.trans (GX.of c),λa=>(b.Aq (by rw[getD_set_ne false hi.1]at a;exact a)).ou c,λa d=>(b.Ar (by rw[getD_set_ne false hi.1]at a;exact a) (by rw[getD_set_ne false hi.2.1]at d;exact d)).ou c,
  λa=>(b.Au (by rw[getD_set_ne false hi.2.1]at a;exact a)).ou c,
  λa=>by obtain⟨u,d,e⟩:=b.kb (by rw[getD_set_ne false hi.1]at a;exact a);exact⟨u,jN f.1 d,e.grow c⟩,
  λa=>by obtain⟨u,d,e⟩:=b.vb (by rw[getD_set_ne false hi.2.1]at a;exact a);exact⟨u,jN f.2 d,e.grow c⟩,
  by obtain⟨g,d,e⟩:=b.box;rw[getD_set_ne false hi.2.2.1];exact⟨g,c.heap d,λa=>jN f.2 (e (by rw[getD_set_ne false hi.2.2.2]at a;exact a))⟩⟩
theorem vd.aly{a:World}(e:GX xb a W)(f:a.heap.size<=tb)(j:Nat)(v:Value):GX xb a (W.setCell ⟨tb,j,none⟩ v):=by obtain⟨a,b,c,d,f⟩:=e;exact⟨a,b,c,by simpa using d,λk a b=>(aN _ _ _ _ (λc=>by have d:k=tb:=c;omega)).trans (f k a b)⟩
theorem Bx.JO(a:Bx w W xb l)(d:w.heap.size<=tb)(b:W.heap[tb]?=some (.cells cs 51 (0,0)))(j:Nat)(v:Value):Bx w (W.setCell ⟨tb,j,none⟩ v) xb l:=by obtain⟨bv,c,e⟩:=a.cell;exact⟨⟨bv,(aN _ _ _ _ (λf=>by have g:xb=tb:=f;subst g;rw[c]at b;exact absurd (cp (bh b)).2.1 (by decide))).trans c,e⟩,cw a.grow (p:=⟨tb,j,none⟩) d _,a.new⟩
theorem aI.wE(a:aI B W u l)(c:W.heap[tb]?=some (.cells cs 51 (0,0)))(j:Nat)(v:Value):aI B (W.setCell ⟨tb,j,none⟩ v) u l:=
 a.keep (λb d=>aN _ _ _ _ (λe=>by have f:b=tb:=e;obtain⟨b,b⟩:=a.block d;rw[f,c]at b;exact absurd (cp (bh b)).2.1 (by decide)))
def BaI(w:World)(xb:Nat)(ws:List Wr)(lv b:Value)(c:World):Prop:=
 ∃(i:Nat)(a:List Wv),b=.int .u64 ((ws.length-i:Nat):Int)/\i<=ws.length/\a.map (·.x)=ws.take i/\Bt w c xb ((ws.drop i).flatMap lQ) lv a
theorem pA.slice{b:List Wv}(d:pA B N W v b):∃a c,v=.slice a b.length c:=by
 rcases d.1.2 with⟨a,b⟩|⟨g,c,c,a,_⟩
 .exact⟨none,0,by rw[a,b]⟩
 .exact⟨_,_,a⟩
theorem alz(B:Nat)(N:Nat->Prop)(W:World):pA B N W (.slice none 0 0) []:=⟨⟨rfl,.inl ⟨rfl,rfl⟩⟩,λa a=>by cases a⟩
theorem aDO{seq:Nat}{ws:List Wr}(h:Bv w bv (jw seq ws))(hs:seq<18446744073709551616)(kO:ws.length<=100000000)(Le:bj ws<=60000000):
  Calls Tryz.prog 54 #[bv] w λe w'=>∃v ys,e=.returned (.tuple #[.int .u64 (seq:Int),v])/\ys.map (·.x)=ws/\pA w.heap.size (λ_=>False) w' v ys/\Grow w w':=by
 have ai:=ar w (.cells #[bv] 49);have dy:Bx w (w.alloc (.cells #[bv] 49)) w.heap.size (aG seq++(aG ws.length++ws.flatMap lQ)):=⟨⟨bv,ax _ _,by unfold jw at h;rw[jL]at h;exact h⟩,ai,aw _⟩
 have hc1:=aaj dy hs;obtain⟨ba,bc,rfl⟩:=h.slice;have rI:=ae hc1;have Hwn:=ae Le;clear h ai dy hc1 Le;generalize (jw seq ws).length=RL at*;go_enter Tryz.func54,Tryz.ntmps54
 go_wp2_with fail
 generalize w.alloc (.cells #[.slice ba RL bc] 49)=w1 at*;obtain⟨xb,iE⟩:∃xb,xb=w.heap.size:=⟨_,rfl⟩
 rw[<-iE]at rI ⊢;have wN:=ae iE;clear iE;(with_reducible refine rI.out.mono ?_);rintro e w2 ⟨rfl,hb2,hg2⟩;have Ee:=ae (aaj hb2 (n:=ws.length) (by omega));clear hb2 hg2 rI
 go_wp2_with fail
 (with_reducible refine Ee.out.mono ?_);rintro e w3 ⟨rfl,hb3,hg3⟩;have bz:Hid (BaI w xb ws (.slice none 0 0) (.int .u64 (ws.length:Int)) w3):=ae ⟨0,[],by simp,aY _,rfl,by simpa using hb3,alz _ _ _⟩;clear hb3 hg3 Ee
 go_wp2_with fail
 go_loopw [3,6] (λlv nv wr=>BaI w xb ws lv nv wr) (λ_ nv _=>(intOf nv).toNat)
 case atStart=>exact bz.out
 case round=>
  clear bz;obtain⟨i,ys,rfl,hi,bQ,fw⟩:=hrel;have dM:ys.length=i:=by have:=congrArg List.length bQ;rw[bA,List.length_take]at this;omega
  obtain⟨bxv,JP,cI⟩:=fw.bx.cell;have c0:wr.cell? ⟨xb,0,none⟩=some bxv:=by simp[World.cell?,JP]
  have lx:=af JP;obtain⟨xa,xc,rfl⟩:=cI.slice;obtain⟨la,lc,rfl⟩:=fw.row.slice;clear JP cI;by_cases hlt:i<ws.length
  .obtain⟨y,hy⟩:∃y,ws[i]?=some y:=⟨ws[i],by simp[hlt]⟩
   have hdr:(ws.drop i).flatMap lQ=lQ y++(ws.drop (i+1)).flatMap lQ:=by obtain⟨h1,rfl⟩:=dW.1 hy;rw[nA h1,List.flatMap_cons]
   have FK:=Tq (dm hy);have qG:((ws.drop (i+1)).flatMap lQ).length<=4000000000:=by
    have h1:=Tp (ws.drop (i+1));have h2:bj (ws.drop (i+1))<=bj ws:=by have h:=JL (ws.take (i+1)) (ws.drop (i+1));rw[List.take_append_drop]at h;omega
    have:=Hwn.out;rw[List.length_drop]at h1;omega
   have dN:=take_one hy;have aNS:=Hwn.out;obtain⟨yk,yg,yd⟩:=y;dsimp only at FK;have eF:yk.data.toList.length=yk.size:=by rw[ia];rfl
   have vZ:0<((ws.drop i).flatMap lQ).length:=by rw[hdr,aM];have:=auf (uX yg);simp only[lQ,aM];omega
   obtain⟨n,hn⟩:∃n,n=ws.length-i:=⟨_,rfl⟩
   rw[<-hn];have jk:(0:Int)<(n:Int):=by omega
   obtain⟨XL,hXL⟩:∃x,x=((ws.drop i).flatMap lQ).length:=⟨_,rfl⟩
   rw[<-hXL]at c0 vZ;have hX1:(0:Int)<(XL:Int):=by omega
   have aNU:IntKind.u64.wrap ((n:Int)-1)=((n-1:Nat):Int):=by simp[IntKind.wrap,IntKind.bits,IntKind.signed];omega
   obtain⟨R,hR⟩:∃x,x=(ws.drop (i+1)).flatMap lQ:=⟨_,rfl⟩
   rw[<-hR]at qG hdr;have dy:=fw.bx;rw[hdr]at dy;have oH:lQ ⟨yk,yg,yd⟩++R=aG (uX yg)++(bp yk.data.toList++(bp yd++R)):=by simp[lQ]
   rw[oH]at dy;have od:=ae (aaj dy (n:=uX yg) (by unfold uX;split<;>omega));have Az:=ae fw;have HR:=ae hR;have Hn:=ae hn;have oW:=ae dN;have FP:=ae bQ;clear fw dy oH hdr hR hn dN bQ hXL hy eF
   go_wp2_with fail
   (with_reducible refine od.out.mono ?_);rintro e W0 ⟨rfl,hb0,hg0⟩;have aDQ:=Az.out.gx hb0 hg0;have HB0:=ae aDQ;have hw0:w.heap.size<=W0.heap.size:=hb0.grow.size;have lx0:xb<W0.heap.size:=by obtain⟨bv,h1,_⟩:=hb0.cell;exact af h1
   have heq:∀z:Nat,((z:Int)==1)=decide (z=1):=λz=>by
    by_cases h:z=1
    .subst h;rfl
    .have:¬(z:Int)=1:=by omega
     simp[h,this]
   have hgq:decide ((uX yg:Int)=1)=yg:=by cases yg<;>rfl
   have aNX:(((uX yg:Nat):Int)==1)=yg:=by cases yg<;>rfl
   clear hb0 hg0 od Az c0 lx heq
   go_upto_region 8 with fail
   have eE:(W0.alloc (.cells #[.string ⟨#[]⟩,.bool yg,.slice none 0 0] 51)).heap[W0.heap.size]?=some (.cells #[.string ⟨#[]⟩,.bool yg,.slice none 0 0] 51 (0,0)):=ax _ _;have aX:Grow W0 (W0.alloc (.cells #[.string ⟨#[]⟩,.bool yg,.slice none 0 0] 51)):=ar _ _;generalize W0.alloc (.cells #[.string ⟨#[]⟩,.bool yg,.slice none 0 0] 51)=W1 at*;obtain⟨tb,JQ⟩:∃tb,tb=W0.heap.size:=⟨_,rfl⟩
   rw[<-JQ]at eE ⊢;have TE:W0.heap.size<=tb:=Nat.le_of_eq JQ.symm;clear JQ;refine xA (λa0 ha0=>?_);have F5:a0.tmps[5]?=some (.func (.func 102) #[] #[.pointer (some ⟨xb,0,none⟩)]):=by rw[ha0];rfl
   have F7:a0.tmps[7]?=some (.pointer (some ⟨tb,0,none⟩)):=by rw[ha0];rfl
   have hsz:a0.tmps.size=40:=by rw[ha0];rfl
   have pd:=ae ha0;have hgd:=aX.trans (ay W1);have mh:=ae ((ay W1).heap eE);clear ha0 aX eE;refine xC (SBa xb tb yk) (vd w W0 xb tb yk yg yd R) (λ_ _=>True) [27,28,29,30,31,32,33] (by kernel_rfl) (by kernel_rfl) (by rw[hsz];rfl) (λj v W W' _ h=>h) ⟨GX.of hgd,λ_=>HB0.out.bx.ou hgd,(λh=>by cases h),(λh=>by cases h),(λh=>by cases h),(λh=>by cases h),_,mh.out,(λh=>by cases h)⟩ ?_ (λa1 W2 hf=>?_);rotate_left
   .obtain⟨c2,gV,hc2⟩:=hf.world.box
    have FD:W2.heap[tb]?=some (.cells #[.string yk,.bool yg,c2] 51 (0,0)):=gV;obtain⟨vv,yI,uI⟩:=hf.world.vb rfl;have SR:=hc2 rfl;rw[yI]at SR;cases SR;have hgx:=hf.world.gx;have TF:=HB0.out.gx (hf.world.Au rfl) hgx;have e:=hf.alike.fill;rw[pd.out]at e;simp only[List.foldl_cons,List.foldl_nil,Act.put,nZ,List.set_cons_zero,lU]at e;obtain⟨Tu,NW⟩:∃u,a1.tmps.getD 27 undef=u:=⟨_,rfl⟩
    obtain⟨u28,NX⟩:∃u,a1.tmps.getD 28 undef=u:=⟨_,rfl⟩
    obtain⟨Mo,Ca⟩:∃u,a1.tmps.getD 29 undef=u:=⟨_,rfl⟩
    obtain⟨Mp,Cb⟩:∃u,a1.tmps.getD 30 undef=u:=⟨_,rfl⟩
    obtain⟨Mq,Cc⟩:∃u,a1.tmps.getD 31 undef=u:=⟨_,rfl⟩
    obtain⟨u32,Ce⟩:∃u,a1.tmps.getD 32 undef=u:=⟨_,rfl⟩
    obtain⟨u33,Cf⟩:∃u,a1.tmps.getD 33 undef=u:=⟨_,rfl⟩
    rw[NW,NX,Ca,Cb,Cc,Ce,Cf]at e;clear hf gV hc2 yI NW NX Ca Cb Cc Ce Cf;rw[e];clear e pd F5 F7 hsz mh hgd;obtain⟨t0,t1,t2⟩:=yM FD;have Ld:=af FD;have Ob:aI w.heap.size W2 c2 yd:=uI.mono hw0;have YA:uZ (λ_=>False) w.heap.size W2 ⟨⟨yk,yg,yd⟩,c2⟩:=⟨cE Ob,.inr (λb hb=>.inr ⟨(Ob.lt hb).1,by obtain⟨cur,hc⟩:=Ob.block hb;exact⟨cur,_,hc⟩⟩)⟩
    obtain⟨gb,JR,W3,hrun,hrow3,hg3⟩:=alv TF.row YA (λb hb=>hb.elim) (aJ TF.bx.grow.size (aw _)) (by omega);have alD:=TF.app hg3 hrow3;have aR:Hid (BaI w xb ws (.slice (some ⟨gb,0,none⟩) (i+1) JR) (.int .u64 ((n-1:Nat):Int)) W3):=ae ⟨i+1,ys++[⟨⟨yk,yg,yd⟩,c2⟩],by rw[Hn.out,Nat.sub_sub],hlt,by rw[dS,FP.out,oW.out];rfl,by rw[<-HR.out,<-dM];exact alD⟩;rw[dM]at hrun;have cU:=ae hrun;have aNY:Hid (∀u:Nat,u<=u):=ae (λu=>aw u);obtain⟨wa,wc,rfl⟩:=Ob.slice;clear alD hrow3 hg3 hrun TF uI Ob YA FD hgx
    go_wp2_with (at_builtin;refine fP rfl rfl rfl rfl cU.out ?_)
    go_roundw
    case rel=>exact aR.out
    case measure=>simp[intOf];omega
   refine⟨?_,?_,?_,?_,?_,?_,?_,?_,?_,True.intro⟩
   .intro listed a V hf ak aj;have hs1:=hf.sz hsz;have hT:=hf.world;have G5:=hf.got (by decide) F5 (by rw[hs1];decide);refine br rfl (by rfl) (λK' hK'=>?_);go_simp;exact hK' _ _ ⟨_,rfl,(λ_ _=>rfl),True.intro,vd.next hT (by decide) (by decide) (aW _)⟩
   .intro listed a V hf ak aj
    have hs1:=hf.sz hsz;have hT:=hf.world;have G27:=aP (hf.sv 0 27 rfl (aO aj 0 (by kernel_rfl)) λ_ _ h=>h) (by rw[hs1];decide);have jk:listed.getD 1 false=false:=by
     rw[gZ]at ak ⊢;cases hx:listed[1]? with
     |none=>rw[hx]at ak;cases ak
     |some b=>rw[hx]at ak;exact ak
    have Ay:=fF hf.closed (n:=8) (e:=4) (i:=1) (by kernel_rfl) ak;refine ky rfl (by rfl) (by go_simp) (alw (hT.Aq jk) (by rw[ia];show yk.size<=_;omega) (by have:=ox yd;simp only[aM];omega)) ?_;rintro e V2 ⟨v,rfl,ho,bq,hgx⟩;have hlen:1<listed.size:=by rw[hf.size];decide
    have yN:W0.heap.size<=V.heap.size:=hT.gx.size;refine⟨_,rfl,_,rfl,(λ_ _=>True.intro),True.intro,hT.gx.trans hgx,(λh=>by rw[pJ hlen]at h;cases h),(λ_ _=>bq),(λh=>by rw[getD_set_ne false (by decide)]at h;rw[Ay]at h;cases h),(λ_=>⟨v,xB (by rw[hs1];decide),ho.mono yN⟩),(λh=>by rw[getD_set_ne false (by decide)]at h;rw[Ay]at h;cases h),?_⟩;obtain⟨c2,g1,g2⟩:=hT.box;rw[getD_set_ne false (by decide)];refine⟨c2,hgx.heap g1 (λe=>?_),λh1=>jN (by decide) (g2 (by rw[getD_set_ne false (by decide)]at h1;exact h1))⟩;omega
   .intro listed a V hf ak aj
    have hs1:=hf.sz hsz;have hT:=hf.world;obtain⟨v,s1,hb⟩:=hT.kb (aO aj 1 (by kernel_rfl));have G28:=aP s1 (by rw[hs1];decide);have hcv:=xQ (cE hb);have hka:(⟨yk.data.toList.toArray⟩:ByteArray)=yk:=by simp
    rw[hka]at hcv;refine br rfl (by rfl) (λK' hK'=>?_);go_simp;exact hK' _ _ ⟨_,rfl,(λ_ _=>rfl),True.intro,vd.next hT (by decide) (by decide) (aW _)⟩
   .intro listed a V hf ak aj;have hs1:=hf.sz hsz;have hT:=hf.world;have G5:=hf.got (by decide) F5 (by rw[hs1];decide);refine br rfl (by rfl) (λK' hK'=>?_);go_simp;exact hK' _ _ ⟨_,rfl,(λ_ _=>rfl),True.intro,vd.next hT (by decide) (by decide) (aW _)⟩
   .intro listed a V hf ak aj
    have hs1:=hf.sz hsz;have hT:=hf.world;have G30:=aP (hf.sv 3 30 rfl (aO aj 3 (by kernel_rfl)) λ_ _ h=>h) (by rw[hs1];decide);have Ay:listed.getD 4 false=false:=by
     rw[gZ]at ak ⊢;cases hx:listed[4]? with
     |none=>rw[hx]at ak;cases ak
     |some b=>rw[hx]at ak;exact ak
    have wR:=aO aj 1 (by kernel_rfl);have lN:=fF hf.closed (n:=8) (e:=8) (i:=4) (by kernel_rfl) ak;refine ky rfl (by rfl) (by go_simp) (alw (hT.Ar wR Ay) (by omega) (by omega)) ?_;rintro e V2 ⟨v,rfl,ho,bq,hgx⟩;have hlen:4<listed.size:=by rw[hf.size];decide
    have yN:W0.heap.size<=V.heap.size:=hT.gx.size;refine⟨_,rfl,_,rfl,(λ_ _=>True.intro),True.intro,hT.gx.trans hgx,(λh=>by rw[getD_set_ne false (by decide),wR]at h;cases h),(λ_ h=>by rw[pJ hlen]at h;cases h),(λ_=>bq),(λh=>?_),(λ_=>⟨v,xB (by rw[hs1];decide),ho.mono yN⟩),?_⟩
    .obtain⟨u,g1,g2⟩:=hT.kb wR;exact⟨u,jN (by decide) g1,g2.keep (λb hb=>by obtain⟨cur,hc⟩:=g2.block hb;obtain⟨bv,hx1,_⟩:=(hT.Ar wR Ay).cell;exact(hgx.heap hc (λe=>by rw[e,hx1]at hc;exact absurd (cp (bh hc)).2.1 (by decide))).trans hc.symm)⟩
    .obtain⟨c2,g1,g2⟩:=hT.box;rw[getD_set_ne false (by decide)];refine⟨c2,hgx.heap g1 (λe=>by omega),λh1=>?_⟩;rw[getD_set_ne false (by decide),lN]at h1;cases h1
   .intro listed a V hf ak aj;have hs1:=hf.sz hsz;have hT:=hf.world;have G7:=hf.got (by decide) F7 (by rw[hs1];decide);obtain⟨c2,g1,g2⟩:=hT.box;have lb:=af g1;refine br rfl (by rfl) (λK' hK'=>?_);go_simp;exact hK' _ _ ⟨_,rfl,(λ_ _=>rfl),True.intro,vd.next hT (by decide) (by decide) (aW _)⟩
   .intro listed a V hf ak aj
    have hs1:=hf.sz hsz;have hT:=hf.world;have G32:=aP (hf.sv 5 32 rfl (aO aj 5 (by kernel_rfl)) λ_ _ h=>h) (by rw[hs1];decide);have G29:=aP (hf.sv 2 29 rfl (aO aj 2 (by kernel_rfl)) λ_ _ h=>h) (by rw[hs1];decide);have Sc:listed.getD 6 false=false:=by
     rw[gZ]at ak ⊢;cases hx:listed[6]? with
     |none=>rw[hx]at ak;cases ak
     |some b=>rw[hx]at ak;exact ak
    obtain⟨c2,g1,g2⟩:=hT.box;have lb:=af g1;have fb:=bG g1;obtain⟨Ey,Ez,EA⟩:=yM g1;have cG:=Go.Gl.aK g1 0 (.string yk);have hlen:6<listed.size:=by rw[hf.size];decide
    have hwt:w.heap.size<=tb:=aJ hw0 TE;refine br rfl (by rfl) (λK' hK'=>?_);go_simp;refine hK' _ _ ⟨undef,rfl,(λ_ h=>by cases h),True.intro,vd.aly hT.gx TE 0 _,(λh=>(hT.Aq (by rw[getD_set_ne false (by decide)]at h;exact h)).JO hwt g1 0 _),(λh1 h2=>(hT.Ar (by rw[getD_set_ne false (by decide)]at h1;exact h1) (by rw[getD_set_ne false (by decide)]at h2;exact h2)).JO hwt g1 0 _),(λh=>(hT.Au (by rw[getD_set_ne false (by decide)]at h;exact h)).JO hwt g1 0 _),(λh=>?_),(λh=>?_),c2,?_,(λh=>g2 (by rw[getD_set_ne false (by decide)]at h;exact h))⟩
    .obtain⟨u,k1,k2⟩:=hT.kb (by rw[getD_set_ne false (by decide)]at h;exact h);exact⟨u,k1,k2.wE g1 0 _⟩
    .obtain⟨u,k1,k2⟩:=hT.vb (by rw[getD_set_ne false (by decide)]at h;exact h);exact⟨u,k1,k2.wE g1 0 _⟩
    .rw[pJ hlen,if_pos rfl];exact cG
   .intro listed a V hf ak aj;have hs1:=hf.sz hsz;have hT:=hf.world;have G7:=hf.got (by decide) F7 (by rw[hs1];decide);obtain⟨c2,g1,g2⟩:=hT.box;have lb:=af g1;refine br rfl (by rfl) (λK' hK'=>?_);go_simp;exact hK' _ _ ⟨_,rfl,(λ_ _=>rfl),True.intro,vd.next hT (by decide) (by decide) (aW _)⟩
   .intro listed a V hf ak aj
    have hs1:=hf.sz hsz;have hT:=hf.world;have G33:=aP (hf.sv 7 33 rfl (aO aj 7 (by kernel_rfl)) λ_ _ h=>h) (by rw[hs1];decide);have lN:listed.getD 8 false=false:=by
     rw[gZ]at ak ⊢;cases hx:listed[8]? with
     |none=>rw[hx]at ak;cases ak
     |some b=>rw[hx]at ak;exact ak
    obtain⟨u,s4,ho⟩:=hT.vb (aO aj 4 (by kernel_rfl));have G31:=aP s4 (by rw[hs1];decide);obtain⟨ua,uc,rfl⟩:=ho.slice;obtain⟨c2,g1,g2⟩:=hT.box;have lb:=af g1;have fb:=bG g1;obtain⟨Ey,Ez,EA⟩:=yM g1;have cG:=Go.Gl.aK g1 2 (.slice ua yd.length uc);have hlen:8<listed.size:=by rw[hf.size];decide
    have hwt:w.heap.size<=tb:=aJ hw0 TE;refine br rfl (by rfl) (λK' hK'=>?_);go_simp;refine hK' _ _ ⟨undef,rfl,(λ_ h=>by cases h),True.intro,vd.aly hT.gx TE 2 _,(λh=>(hT.Aq (by rw[getD_set_ne false (by decide)]at h;exact h)).JO hwt g1 2 _),(λh1 h2=>(hT.Ar (by rw[getD_set_ne false (by decide)]at h1;exact h1) (by rw[getD_set_ne false (by decide)]at h2;exact h2)).JO hwt g1 2 _),(λh=>(hT.Au (by rw[getD_set_ne false (by decide)]at h;exact h)).JO hwt g1 2 _),(λh=>?_),(λh=>?_),.slice ua yd.length uc,?_,(λh=>s4)⟩
    .obtain⟨u,k1,k2⟩:=hT.kb (by rw[getD_set_ne false (by decide)]at h;exact h);exact⟨u,k1,k2.wE g1 2 _⟩
    .exact⟨_,s4,ho.wE g1 2 _⟩
    .rw[getD_set_ne false (by decide)];exact cG
  .obtain rfl:i=ws.length:=by omega
   have iQ:ws.length-ws.length=0:=Nat.sub_self _;rw[iA]at bQ;have pK:=ae fw.row;have HG:=ae fw.bx.grow;have FP:=ae bQ;rw[iQ];clear fw bQ;go_wp2;refine bodyPost_ret (v:=.tuple #[.int .u64 (seq:Int),.slice la ys.length lc]) ?_ rfl ?_
   .simp[results,Tryz.results54,go_sem]
   .exact⟨_,ys,rfl,FP.out,pK.out,HG.out⟩
section
attribute [local go_sem] Oper.semAt_some
theorem aDR{l:List En}{up:Nat}(b:∀e∈l,e.seq<=up):eI ⟨⟨#[]⟩,up,false,[]⟩ l=l:=by
 unfold eI;cases l with
 |nil=>rfl
 |cons c l=>
  rw[List.dropWhile_cons,if_neg];simp only[decide_eq_true_eq];rw[Ab];rintro(a|⟨_,a⟩)
  .simp at a
  .have:=b c (ej ..);simp only at a;omega
theorem aDS{N:Nat->Prop}{w:World}{a:List Nd}(c:ed N w tb ha a aX dv ds)(d:∀b,N b->b<w.heap.size)(f:a.length<=1000000000):
  Calls Tryz.prog 75 #[au tb] w λe w'=>NJ N w (a.map (λn=>n.x.e)) e w' 180:=by
 have b:=ae (akB c d f ⟨#[]⟩);rw[aDR (l:=a.map (λn=>n.x.e)) (λe a=>by obtain⟨n,f,rfl⟩:=aV.1 a;have:=(c.skip.vals n f).2;omega)]at b
 clear c d;go_enter Tryz.func75,Tryz.ntmps75
 go_wp2_with fail
 (with_reducible refine b.out.mono ?_);rintro e w' ⟨b,c,v,rfl,a⟩;have d:=ae a;clear a;go_wp2;go_ret;exact⟨b,c,v,rfl,d.out⟩
theorem TG{F:Fence}{n:Nat}{P:Program}{fn:Func}{t a:Array Value}{R:Ending->World->Prop}(e:∀w,(results fn t).run P w=(results fn a).run P w):∀(ds:List Deferred)(u:FrameMode)(w:World),LeavesInM F n P fn t R ds u w->LeavesInM F n P fn a R ds u w
 | [],.returning,w,a=>by obtain⟨v,b,c⟩:=a;exact⟨v,(e w).symm.trans b,c⟩
 | [],.panicking _,_,a=>a
 | [],.run,_,a=>a
 |d::ds,u,w,a=>by
  obtain⟨d,a⟩:=a;refine⟨d,?_⟩;rcases a with⟨r,w',b,c,a⟩|⟨b,d,g,f,h,c,a,i,j⟩
  .exact .inl ⟨r,w',b,c,TG e ds u w' a⟩
  .refine .inr ⟨b,d,g,f,h,c,a,i,j.mono λb a w' a=>?_⟩
   cases b with
   |returned v=>exact TG e ds _ _ a
   |panicked b=>exact TG e ds _ _ a
   |outgrown=>exact a
theorem aDT{R:Ending->World->Prop}{c:List PanicEntry}{a:Act}{d:Option Nat}(e:d≠some 6)(f:d≠some 7)(b:bodyPostM Fence.wide 4 Tryz.prog Tryz.f272 R (.panic c) (a.put d v) w):bodyPostM Fence.wide 4 Tryz.prog Tryz.f272 R (.panic c) a w:=by
 cases d with
 |none=>exact b
 |some d=>
  have c:d≠6:=λa=>e (by rw[a])
  have e:d≠7:=λa=>f (by rw[a])
  refine TG (λw=>?_) _ _ _ b;simp[results,Tryz.results272,Act.put,Array.getElem?_setIfInBounds,c,e]
def aal(w:World)(b:Option En)(e:Ending)(w':World):Prop:=
 (match b with
  |none=>e=.returned (.tuple #[.agg #[.string ⟨#[]⟩,.int .u64 0,.bool false,.slice none 0 0],.bool false])
  |some x=>∃a,e=.returned (.tuple #[.agg (cd ⟨x,a⟩),.bool true])/\aI w.heap.size w' a x.val)/\Grow w w'
theorem aDU{ns:List Nd}(h:ed N w tb ha ns aX dv ds)(hN:∀b,N b->b<w.heap.size)(hval:∀n∈ns,n.x.e.val.length<=1000000000000)(key:ByteArray){up:Nat}(_hup:up<18446744073709551616):
  Calls Tryz.prog 272 #[au tb,.string key,.int .u64 up] w (aal w (eP key up (ns.map (λn=>n.x.e)))):=by
 refine(callsIn_wide (n:=4)).1 (callsIn_of_wp_marks Tryz.func272 rfl trivial ?_ rfl);simp only[Tryz.ntmps272,List.size_toArray,dD,iJ,Nat.reduceAdd,Nat.reduceSub,Array.replicate_succ,Array.replicate_zero,List.push_toArray,List.append_toArray,iK,gP];refine wpIn_wide.2 ?_;have h1:=ar w (.cells #[.string key] 9);have h2:=ar (w.alloc (.cells #[.string key] 9)) (.cells #[.string ⟨#[]⟩,.int .u64 0,.bool false,.slice none 0 0] 60);have h3:=ar ((w.alloc (.cells #[.string key] 9)).alloc (.cells #[.string ⟨#[]⟩,.int .u64 0,.bool false,.slice none 0 0] 60)) (.cells #[.bool false] 4);have a1:=h3.heap (h2.heap (ax w (.cells #[.string key] 9)));have a2:=h3.heap (ax (w.alloc (.cells #[.string key] 9)) (.cells #[.string ⟨#[]⟩,.int .u64 0,.bool false,.slice none 0 0] 60));have a3:=ax ((w.alloc (.cells #[.string key] 9)).alloc (.cells #[.string ⟨#[]⟩,.int .u64 0,.bool false,.slice none 0 0] 60)) (.cells #[.bool false] 4);simp only[World.size_alloc]at a2 a3;have hg3:=h1.trans (h2.trans h3);have sz3:(((w.alloc (.cells #[.string key] 9)).alloc (.cells #[.string ⟨#[]⟩,.int .u64 0,.bool false,.slice none 0 0] 60)).alloc (.cells #[.bool false] 4)).heap.size=w.heap.size+3:=by simp
 obtain⟨w3,hw3⟩:∃w3,((w.alloc (.cells #[.string key] 9)).alloc (.cells #[.string ⟨#[]⟩,.int .u64 0,.bool false,.slice none 0 0] 60)).alloc (.cells #[.bool false] 4)=w3:=⟨_,rfl⟩
 rw[hw3]at a1 a2 a3 hg3 sz3;have hM:=h.grow hg3;have ltb:=af hM.self;have k0:w3.cell? ⟨w.heap.size,0,none⟩=some (.string key):=by simp[World.cell?,a1]
 have lk:=af a1;have H:=ae (ag hM (ag hN (ag hval h.skip.ord)));have Ha:=ae (ag a1 (ag a2 (ag a3 (ag hg3 sz3))));clear h1 h2 h3 a1 a2 a3 hg3 sz3 hM h hN hval
 go_upto_region 1 with fail
 clear hw3;have aU:=Grow.cells (w:=w3);refine aCl (λV=>Below w3.heap.size w3 V) [(0,false),(1,false),(2,false),(3,false),(4,false),(5,false),(6,true)] (by kernel_rfl) (by kernel_rfl) (λc a o v w ho hq=>by simp only[bI,List.not_mem_nil,or_false]at ho;rcases ho with rfl|rfl|rfl|rfl|rfl|rfl|rfl<;>exact aDT (by decide) (by decide) hq) (by((repeat (first|exact bW _ _|assumption|refine cC ?_|refine cD ?_|refine cw ?_ ?_ _|refine cB ?_ ?_ _))<;>try (first|omega|(simp<;>omega)))) ?_
 simp only[cm,nth]
 repeat ((first|(apply az;rfl;rintro W hW;go_simp;with_reducible rfl)|(apply aA;rfl));simp only[ah,List.set])
 refine bw (by rfl) (by go_simp) (akz w3.drew tb key up false none 0 0) ?_;rintro e w4 ⟨rfl,hw4⟩;have wM:Grow w3 w4:=by rw[hw4];exact(ay w3).trans ((ar _ _).trans (ar _ _))
 have hb1:w4.heap[w3.heap.size]?=some (.cells #[au tb] 286 (0,0)):=by rw[hw4];exact(heap_alloc_old _ _ (by simp)).trans (ax w3.drew _)
 have hb2:w4.heap[w3.heap.size+1]?=some (.cells (cd (yJ key up)) 60 (0,0)):=by rw[hw4];have:=ax (w3.drew.alloc (.cells #[au tb] 286)) (.cells (cd (yJ key up)) 60);simpa using this
 clear hw4 aU;refine⟨_,rfl,wM,?_⟩
 try simp only[ah,List.set,aC]
 refine bg ?_;have hM4:=H.out.1.grow wM;have hseq:=akl hM4 (yJ key up) (xa:=none) (xl:=0) (xc:=0) rfl hb1 hb2;have a1:=wM.heap Ha.out.1;have a2:=wM.heap Ha.out.2.1;have a3:=wM.heap Ha.out.2.2.1;have Oc:=Ha.out.2.2.2.1.trans wM;have s4:=wM.size;have Il:=af hb2;have aDV:w3.drew.heap.size=w3.heap.size:=rfl;rw[aDV]
 go_wp2_with fail
 have wJ:=H.out.2.2.2;have yO:eP key up (ns.map (λn=>n.x.e))=match (gH ⟨key,up,false,[]⟩ ns).map Nd.x with| []=>none|y::_=>if y.e.key=key then some y.e else none:=by
  rw[aiT wJ];have h1:=EY (spot key up) ns;show(match eI (spot key up) (ns.map (λn=>n.x.e))with| []=>none|e::_=>if e.key=key then some e else none)=_;rw[<-h1];show(match (gH (spot key up) ns).map (λn=>n.x.e)with| []=>none|e::_=>if e.key=key then some e else none)=match (gH (spot key up) ns).map Nd.x with| []=>none|y::_=>if y.e.key=key then some y.e else none
  cases gH (spot key up) ns with
  |nil=>rfl
  |cons n r=>rfl
 have aan:=ae yO;have alF:∀y∈(gH ⟨key,up,false,[]⟩ ns).map Nd.x,y.e.val.length<=1000000000000:=λy hy=>by obtain⟨n,hn,rfl⟩:=aV.1 hy;exact H.out.2.2.1 n (by rw[<-kr ⟨key,up,false,[]⟩ ns];exact nz _ hn)
 have HV:=ae alF;clear yO wJ alF hM4 hb1 hb2;generalize dC:(gH ⟨key,up,false,[]⟩ ns).map Nd.x=xs at*;clear dC;refine Zu (gf:=216) (lb:=#[.pointer (some ⟨w3.heap.size,0,none⟩),.pointer (some ⟨w3.heap.size+1,0,none⟩)]) rfl (enters_of Tryz.func216 (by kernel_rfl) rfl) (R:=Rt N) (N:=λb=>N b\/FM tb ha ns b\/b=w3.heap.size\/b=w3.heap.size+1) (xs:=xs) hseq (Kp.refl _ _) (λb hb=>by
   rcases hb with hb|hb|rfl|rfl
   .have:=H.out.2.1 b hb;omega
   .have:=H.out.1.lt hb;omega
   .omega
   .omega) (λx v W h=>by rw[h.1];rfl) (λx v=>akA (λb hb=>by have:=H.out.2.1 b hb;omega) x v)
  (λpre W=>pre=[]/\W.heap[w.heap.size]?=some (.cells #[.string key] 9 (0,0))/\W.heap[w.heap.size+1]?=some (.cells #[.string ⟨#[]⟩,.int .u64 0,.bool false,.slice none 0 0] 60 (0,0))/\W.heap[w.heap.size+2]?=some (.cells #[.bool false] 4 (0,0))/\Below w.heap.size w W)
  (λc pre W=>∃x,pre=[x]/\Below w.heap.size w W/\((c=.exit 0/\x.e.key≠key/\W.heap[w.heap.size+1]?=some (.cells #[.string ⟨#[]⟩,.int .u64 0,.bool false,.slice none 0 0] 60 (0,0))/\W.heap[w.heap.size+2]?=some (.cells #[.bool false] 4 (0,0)))\/
   (c=.ret/\x.e.key=key/\∃sv,W.heap[w.heap.size+1]?=some (.cells (cd ⟨x.e,sv⟩) 60 (0,0))/\W.heap[w.heap.size+2]?=some (.cells #[.bool true] 4 (0,0))/\aI w.heap.size W sv x.e.val)))
  ?hI ?Fv ⟨rfl,a1,a2,a3,Oc⟩ ?round ?done ?stop
 case hI=>rintro pre W W' row ⟨rfl,h1,h2,h3,h4⟩ hg hr;exact⟨rfl,si hg hr h1,si hg hr h2,si hg hr h3,h4.grown hg h4.size (λk e=>by have:=(hr k e).1;omega)⟩
 case Fv=>
  rintro c pre W W' row ⟨x,rfl,h4,h5⟩ hg hr;refine⟨x,rfl,h4.grown hg h4.size (λk e=>by have:=(hr k e).1;omega),?_⟩;rcases h5 with⟨h1,h2,h3,h5⟩|⟨h1,h2,sv,h3,h5,h6⟩
  .exact .inl ⟨h1,h2,si hg hr h3,si hg hr h5⟩
  .refine .inr ⟨h1,h2,sv,si hg hr h3,si hg hr h5,h6.keep (λg hgb=>?_)⟩;obtain⟨cur,hc⟩:=h6.block hgb;rw[si hg hr hc,hc]
 case round=>
  rintro l pre x rest v W dC hl hW ⟨rfl,k1,k2,k3,k4⟩ ⟨rfl,cI⟩;obtain⟨xa,xc,jb⟩:=cI.slice;obtain⟨⟨xk,xs',xg,xd⟩,xv⟩:=x;simp only at jb;subst jb;have HW:=ae (ag k1 (ag k2 (ag k3 (ag k4 cI))));have uV:=ae dC;clear dC k1 k2 k3 k4 cI hseq a1 a2 a3 Oc;gi_wp2;refine⟨ar _ _,λW2 hs2 hc2 BS CL=>?_⟩;have iU:=hc2 _ _ _ _ (ax W (.cells #[.string xk,.int .u64 xs',.bool xg,.slice xa xd.length xc] 60));obtain⟨_,k1,k2,k3,k4⟩:=BS;have cI:=CL.2;have d0:W2.cell? ⟨w.heap.size,0,none⟩=some (.string key):=by simp[World.cell?,k1]
  have ld:=af k1;obtain⟨q0,q1,q2,q3⟩:=cX iU;have lq:=af iU;by_cases hk:xk=key
  .subst hk
   have gL:=HV.out ⟨⟨xk,xs',xg,xd⟩,.slice xa xd.length xc⟩ (by rw[uV.out];simp);have fC:=ae (ajf cI gL);have Hk:=ae (ag k2 (ag k3 (ag k4 True.intro)));clear k1 k2 k3 k4 cI gL iU hc2 CL hs2
   gi_wp2_with (refine⟨trivial,?_⟩;gi_at_call 181;refine(CallsIn.inRound l (callsIn_wide.2 fC.out)).mono ?_;rintro e w5 ⟨v',rfl,ho,bm⟩;obtain⟨va,vc,rfl⟩:=Go.Gl.Row1.slice ho;rw[jX]at ho ⊢;have r2:=bm.heap Hk.out.1;have r3:=bm.heap Hk.out.2.1;obtain⟨e0,e1,e2,e3⟩:=cX r2;have le:=af r2;have fe:∀i,w5.frozen? ⟨w.heap.size+1,i,none⟩=false:=(λi=>by simp[World.frozen?,r2]);have g0:w5.cell? ⟨w.heap.size+2,0,none⟩=some (.bool false):=(by simp[World.cell?,r3]);have lg:=af r3;have fg:w5.frozen? ⟨w.heap.size+2,0,none⟩=false:=(by simp[World.frozen?,r3]))
   have FQ:w.heap.size+2≠w.heap.size+1:=by omega
   have zD:w.heap.size+1≠w.heap.size+2:=by omega
   have y1:=CA (v0:=.string xk) (v1:=.int .u64 xs') (v2:=.bool xg) (v3:=.slice va xd.length vc) r2;have y2:=(tA (w:=w5) FQ (.string xk) (.int .u64 xs') (.bool xg) (.slice va xd.length vc)).trans r3;have y3:=Go.Gl.aK y2 0 (.bool true);have y4:=(aN (jS w5 (w.heap.size+1) (.string xk) (.int .u64 xs') (.bool xg) (.slice va xd.length vc)) ⟨w.heap.size+2,0,none⟩ (.bool true) (w.heap.size+1) zD).trans y1;have hle:w.heap.size<=w.heap.size+1:=by omega
   have alG:w.heap.size<=w.heap.size+2:=by omega
   have dX:Below w.heap.size w w5:=Hk.out.2.2.1.trans (bm.mono Hk.out.2.2.1.size);have aDW:=((((dX.setCell (p:=⟨w.heap.size+1,0,none⟩) hle (.string xk)).setCell (p:=⟨w.heap.size+1,1,none⟩) hle (.int .u64 xs')).setCell (p:=⟨w.heap.size+1,2,none⟩) hle (.bool xg)).setCell (p:=⟨w.heap.size+1,3,none⟩) hle (.slice va xd.length vc)).setCell (p:=⟨w.heap.size+2,0,none⟩) alG (.bool true);have jM:∀k,k≠w.heap.size+1->k≠w.heap.size+2->((jS w5 (w.heap.size+1) (.string xk) (.int .u64 xs') (.bool xg) (.slice va xd.length vc)).setCell ⟨w.heap.size+2,0,none⟩ (.bool true)).heap[k]?=w5.heap[k]?:=λk h1 h2=>(aN _ _ _ _ h2).trans (tA h1 _ _ _ _)
   have hown:aI w.heap.size ((jS w5 (w.heap.size+1) (.string xk) (.int .u64 xs') (.bool xg) (.slice va xd.length vc)).setCell ⟨w.heap.size+2,0,none⟩ (.bool true)) (.slice va xd.length vc) xd:=by
    have gy:aI W2.heap.size w5 (.slice va xd.length vc) xd:=ho;refine(gy.mono Hk.out.2.2.1.size).keep (λg hgb=>jM g (λe=>?_) (λe=>?_))
    .obtain⟨cur,hc⟩:=gy.block hgb;rw[e,r2]at hc;exact absurd (cp (bh hc)).2.1 (by decide)
    .obtain⟨cur,hc⟩:=gy.block hgb;rw[e,r3]at hc;exact absurd (cp (bh hc)).2.1 (by decide)
   have JS:KeepsFrom w4.heap.size W2 ((jS w5 (w.heap.size+1) (.string xk) (.int .u64 xs') (.bool xg) (.slice va xd.length vc)).setCell ⟨w.heap.size+2,0,none⟩ (.bool true)):=by
    refine⟨by simpa using bm.size,λk o _ JT hc=>?_⟩;rw[jM k (λe=>?_) (λe=>?_),bm.block k (af JT)]
    .exact JT
    .rw[e,Hk.out.1]at JT;cases JT;cases hc
    .rw[e,Hk.out.2.1]at JT;cases JT;cases hc
   exact⟨JS,⟨⟨xk,xs',xg,xd⟩,.slice xa xd.length xc⟩,rfl,aDW,.inr ⟨rfl,rfl,.slice va xd.length vc,y4,y3,hown⟩⟩
  .have hkb:(xk.toList==key.toList)=false:=by simp only[beq_eq_false_iff_ne,ne_eq];intro e;rw[jz,jz]at e;exact hk (Cu e)
   clear hc2 CL hs2 cI;gi_wp2;exact⟨KeepsFrom.refl _ _,⟨⟨xk,xs',xg,xd⟩,.slice xa xd.length xc⟩,rfl,k4,.inl ⟨rfl,hk,k2,k3⟩⟩
 case done=>
  rintro D W hD ⟨alH,k1,k2,k3,k4⟩ hK;have uV:=ae alH;clear alH hseq a1 a2 a3 k1;obtain⟨e0,e1,e2,e3⟩:=cX k2;have le:=af k2;have fe:=bG k2;have g0:W.cell? ⟨w.heap.size+2,0,none⟩=some (.bool false):=by simp[World.cell?,k3]
  have lg:=af k3;have fg:W.frozen? ⟨w.heap.size+2,0,none⟩=false:=by simp[World.frozen?,k3]
  have s0:=eY (v:=.string ⟨#[]⟩) (i:=0) k2 rfl;have s1:=eY (v:=.int .u64 0) (i:=1) k2 rfl;have s2:=eY (v:=.bool false) (i:=2) k2 rfl;have s3':=eY (v:=.slice none 0 0) (i:=3) k2 rfl;have s4':=eY (v:=.bool false) (i:=0) k3 rfl;have jD:w.heap.size+1≠D:=λe=>by rw[e,hK]at k2;cases k2
  have qj:w.heap.size+2≠D:=λe=>by rw[e,hK]at k3;cases k3
  have j2:=(World.putObj_heap_other (w:=W) (o:=.deferred none) jD).trans k2;have j3:=(World.putObj_heap_other (w:=W) (o:=.deferred none) qj).trans k3;obtain⟨r0,r1,r2,r3⟩:=cX j2;have rg:(W.putObj D (.deferred none)).cell? ⟨w.heap.size+2,0,none⟩=some (.bool false):=by simp[World.cell?,j3]
  have jq:Grow w (W.putObj D (.deferred none)):=k4.grown (grownBy_putObj' W D (.deferred none)) k4.size (λk e=>by cases e;have:=Oc.size;omega);have aZ:=ae (ag r0 (ag r1 (ag r2 (ag r3 (ag rg jq)))));clear k2 k3 k4 j2 j3 r0 r1 r2 r3 rg jq jD qj;go_wp2;refine⟨by simp,.inl ⟨_,_,rfl,run_takeDeferred hK,?_⟩⟩;obtain⟨r0,r1,r2,r3,rg,jq⟩:=aZ.out;refine⟨.tuple #[.agg #[.string ⟨#[]⟩,.int .u64 0,.bool false,.slice none 0 0],.bool false],by simp[results,Tryz.results272,go_sem,r0,r1,r2,r3,rg],?_,jq⟩;rw[aan.out];rw[uV.out]
 case stop=>
  rintro D c pre x rest W hD dC ⟨y,jn,k4,hc⟩ hK;have AA:pre=[]/\x=y:=by
   cases pre with
   |nil=>exact⟨rfl,by simpa using jn⟩
   |cons a pre=>simp at jn
  obtain⟨rfl,rfl⟩:=AA;have uV:=ae dC;clear dC jn hseq a1 a2 a3;rcases hc with⟨rfl,hne,k2,k3⟩|⟨rfl,heq,sv,k2,k3,hown⟩
  .have oZ:=ae hne
   clear hne;obtain⟨e0,e1,e2,e3⟩:=cX k2;have le:=af k2;have fe:=bG k2;have g0:W.cell? ⟨w.heap.size+2,0,none⟩=some (.bool false):=by simp[World.cell?,k3]
   have lg:=af k3;have fg:W.frozen? ⟨w.heap.size+2,0,none⟩=false:=by simp[World.frozen?,k3]
   have s0:=eY (v:=.string ⟨#[]⟩) (i:=0) k2 rfl;have s1:=eY (v:=.int .u64 0) (i:=1) k2 rfl;have s2:=eY (v:=.bool false) (i:=2) k2 rfl;have s3':=eY (v:=.slice none 0 0) (i:=3) k2 rfl;have s4':=eY (v:=.bool false) (i:=0) k3 rfl;have jD:w.heap.size+1≠D:=λe=>by rw[e,hK]at k2;cases k2
   have qj:w.heap.size+2≠D:=λe=>by rw[e,hK]at k3;cases k3
   have j2:=(World.putObj_heap_other (w:=W) (o:=.deferred none) jD).trans k2;have j3:=(World.putObj_heap_other (w:=W) (o:=.deferred none) qj).trans k3;obtain⟨r0,r1,r2,r3⟩:=cX j2;have rg:(W.putObj D (.deferred none)).cell? ⟨w.heap.size+2,0,none⟩=some (.bool false):=by simp[World.cell?,j3]
   have jq:Grow w (W.putObj D (.deferred none)):=k4.grown (grownBy_putObj' W D (.deferred none)) k4.size (λk e=>by cases e;have:=Oc.size;omega);have aZ:=ae (ag r0 (ag r1 (ag r2 (ag r3 (ag rg jq)))));clear k2 k3 k4 j2 j3 r0 r1 r2 r3 rg jq jD qj;go_wp2;refine⟨by simp,.inl ⟨_,_,rfl,run_takeDeferred hK,?_⟩⟩;obtain⟨r0,r1,r2,r3,rg,jq⟩:=aZ.out;refine⟨.tuple #[.agg #[.string ⟨#[]⟩,.int .u64 0,.bool false,.slice none 0 0],.bool false],by simp[results,Tryz.results272,go_sem,r0,r1,r2,r3,rg],?_,jq⟩;rw[aan.out];rw[uV.out];simp only[iK];rw[if_neg oZ.out];exact True.intro
  .obtain⟨va,vc,rfl⟩:=Go.Gl.Row1.slice hown
   rw[jX]at k2 hown;have jD:w.heap.size+1≠D:=λe=>by rw[e,hK]at k2;cases k2
   have qj:w.heap.size+2≠D:=λe=>by rw[e,hK]at k3;cases k3
   have j2:=(World.putObj_heap_other (w:=W) (o:=.deferred none) jD).trans k2;have j3:=(World.putObj_heap_other (w:=W) (o:=.deferred none) qj).trans k3;obtain⟨r0,r1,r2,r3⟩:=cX j2;have rg:(W.putObj D (.deferred none)).cell? ⟨w.heap.size+2,0,none⟩=some (.bool true):=by simp[World.cell?,j3]
   have jq:Grow w (W.putObj D (.deferred none)):=k4.grown (grownBy_putObj' W D (.deferred none)) k4.size (λk e=>by cases e;have:=Oc.size;omega);have gy:aI w.heap.size (W.putObj D (.deferred none)) (.slice va x.e.val.length vc) x.e.val:=hown.keep (λg hgb=>World.putObj_heap_other (λe=>by obtain⟨cur,hc⟩:=hown.block hgb;rw[e,hK]at hc;cases hc))
   have aZ:=ae (ag r0 (ag r1 (ag r2 (ag r3 (ag rg (ag jq (ag heq gy)))))));clear k2 k3 k4 j2 j3 r0 r1 r2 r3 rg jq jD qj hown gy heq;go_wp2;refine⟨by simp,.inl ⟨_,_,rfl,run_takeDeferred hK,?_⟩⟩;obtain⟨r0,r1,r2,r3,rg,jq,heq,gy⟩:=aZ.out;refine⟨.tuple #[.agg (cd ⟨x.e,.slice va x.e.val.length vc⟩),.bool true],by simp[results,Tryz.results272,go_sem,r0,r1,r2,r3,rg],?_,jq⟩;rw[aan.out,uV.out];simp only[iK];rw[if_pos heq];exact⟨_,rfl,gy⟩
end
section
structure Od where
 mem:Int
 block:Int
 zero:Int
 base:Int
 table:Int
abbrev rh(sb:Nat)(o:Od)(drv lv:Value)(mb tm seq hm:Nat):Array Value:=
 #[.pointer (some ⟨sb,0,none⟩),.int .i64 o.mem,.int .i64 o.block,.int .i64 o.zero,.int .i64 o.base,.int .i64 o.table,drv,lv,.pointer (some ⟨mb,0,none⟩),.map (some tm),.int .u64 (seq:Int),.map (some hm)]
def fA(w:World)(db sb:Nat)(o:Od)(drv lv:Value)(mb tm seq hm:Nat):Prop:=w.heap[db]?=some (.cells (rh sb o drv lv mb tm seq hm) 93 (0,0))
section
variable{w w':World}{db sb:Nat}{o:Od}{drv lv:Value}{mb tm seq hm:Nat}
theorem fA.cells(a:fA w db sb o drv lv mb tm seq hm):w.cell? ⟨db,0,none⟩=some (.pointer (some ⟨sb,0,none⟩))/\w.cell? ⟨db,1,none⟩=some (.int .i64 o.mem)/\w.cell? ⟨db,7,none⟩=some lv/\w.cell? ⟨db,8,none⟩=some (.pointer (some ⟨mb,0,none⟩))/\w.cell? ⟨db,9,none⟩=some (.map (some tm))/\w.cell? ⟨db,10,none⟩=some (.int .u64 (seq:Int))/\w.cell? ⟨db,11,none⟩=some (.map (some hm))/\db<w.heap.size:=by unfold fA at a;refine⟨?_,?_,?_,?_,?_,?_,?_,af a⟩<;>simp[World.cell?,a]
theorem fA.keep(a:fA w db sb o drv lv mb tm seq hm)(b:w'.heap[db]?=w.heap[db]?):fA w' db sb o drv lv mb tm seq hm:=b.trans a
theorem fA.grow(a:fA w db sb o drv lv mb tm seq hm)(b:Grow w w'):fA w' db sb o drv lv mb tm seq hm:=b.heap a
theorem aDY(a:fA w db sb o drv lv mb tm seq hm):Calls Tryz.prog 27 #[.pointer (some ⟨db,0,none⟩)] w λe w'=>e=.returned (.int .u64 (seq:Int))/\w'=w:=by obtain⟨_,_,_,_,_,b,_,b⟩:=a.cells;clear a;go_enter Tryz.func27,Tryz.ntmps27;go_wp2;go_ret;exact⟨rfl,rfl⟩
end
theorem TH(a b:List En):costs (a++b)=costs a+costs b:=by simp[costs]
theorem aDZ(x:En)(l:List En):costs (kR x l)<=costs l+iH x/\(kR x l).length<=l.length+1:=by
 have h:=uO x l;have d:=congrArg costs h;have f:=congrArg List.length h;rw[TH]at d;rw[aM]at f;unfold kR;generalize gM x l=a at*;generalize eI x l=b at*;rw[TH,aM];have a:∀(c:En)(m:List En),costs (c::m)=iH c+costs m:=λc m=>by simp[costs]
 rw[a,dD];cases b with
 |nil=>dsimp only;omega
 |cons e r=>
  rw[a]at d;rw[dD]at f;dsimp only;split
  .omega
  .rw[a,dD];omega
theorem aEa(s:Nat)(y:Wr):iH (gI s y)<=16+(y.key.size+y.val.length):=by
 unfold gI iH;dsimp only;split
 .simp only[iJ];omega
 .omega
theorem Oe(s:Nat)(l:List En):∀ws:List Wr,costs (fO s ws l)<=costs l+16*ws.length+bj ws/\(fO s ws l).length<=l.length+ws.length:=by
 intro ws
 induction ws generalizing l with
 |nil=>simp[YV,bj]
 |cons a ws b=>
  rw[ajB];obtain⟨c,c⟩:=b (kR (gI s a) l);obtain⟨b,b⟩:=aDZ (gI s a) l;have b:=aEa s a;have b:bj (a::ws)=a.key.size+a.val.length+bj ws:=by simp[bj]
  rw[dD,b];omega
structure Og(N:Nat->Prop)(w:World)(db sb:Nat)(o:Od)(drv lv:Value)(mb tm seq hm ha:Nat)(ns:List Nd)(dv:Value)(ds:List Int)(s:Nat)(ws:List Wr)(N':Nat->Prop)(bR:List Nd)(wr:World):Prop where
 cell:fA wr db sb o drv lv mb tm seq hm
 mem:∃eT,ed N' wr mb ha bR eT dv ds
 pB:bR.map (λn=>n.x.e)=fO s ws (ns.map (λn=>n.x.e))
 sub:∀b,N b->N' b
 new:∀b,N' b->N b\/w.heap.size<=b
 apart:∀b,N' b->b<wr.heap.size/\¬FM mb ha bR b
 sep:Sep (FL (FM mb ha ns) db) w wr (FL (FM mb ha bR) db)
 yP:¬FM mb ha bR db
def aEb(N:Nat->Prop)(w:World)(db sb:Nat)(o:Od)(drv lv:Value)(mb tm seq hm ha:Nat)(a:List Nd)(dv:Value)(ds:List Int)(s:Nat)(ws:List Wr)(e:Ending)(w':World):Prop:=
 e=.returned (.tuple #[])/\∃b c,Og N w db sb o drv lv mb tm (max seq s) hm ha a dv ds s ws b c w'
def aEc(N:Nat->Prop)(w:World)(db sb:Nat)(o:Od)(drv lv:Value)(mb tm seq hm ha:Nat)(b:List Nd)(dv:Value)(ds:List Int)(s:Nat)(a:List Wv)(c:Value)(d:World):Prop:=
 ∃(i:Nat)(e:Nat->Prop)(f:List Nd),c=.int .i64 (i:Int)/\i<=a.length/\Og N w db sb o drv lv mb tm seq hm ha b dv ds s ((a.take i).map (·.x)) e f d
theorem alI{Na:Nat->Prop}{w:World}{db sb:Nat}{o:Od}{drv lv:Value}{mb tm seq hm:Nat}{ns:List Nd}(hC:fA w db sb o drv lv mb tm seq hm)(hM:ed N w mb ha ns aX dv ds)(sY:¬FM mb ha ns db)(hN:∀b,N b->b<w.heap.size/\¬FM mb ha ns b/\b≠db){ys:List Wv}(wT:∀b,Na b->b<w.heap.size/\¬FM mb ha ns b/\b≠db)(hW:Ws Na w v ys){s:Nat}(hs:s<18446744073709551616)(dM:ys.length<=1000000)(sj:bj (ys.map (·.x))<=100000000)(iX:ns.length<=100000000)(hcs:costs (ns.map (λn=>n.x.e))<=100000000000):
  Calls Tryz.prog 43 #[.pointer (some ⟨db,0,none⟩),.int .u64 (s:Int),v] w (aEb N w db sb o drv lv mb tm seq hm ha ns dv ds s (ys.map (·.x))):=by
 obtain⟨_,_,_,_,_,c10,_,lt⟩:=hC.cells;have ff:∀i,w.frozen? ⟨db,i,none⟩=false:=λi=>by unfold fA at hC;simp[World.frozen?,hC]
 obtain⟨ya,yc,rfl⟩:=hW.slice;obtain⟨w1,bT⟩:∃w1,w1=w.setCell ⟨db,10,none⟩ (.int .u64 (max (seq:Int) (s:Int))):=⟨_,rfl⟩
 have hmx:max (seq:Int) (s:Int)=((max seq s:Nat):Int):=by omega
 have lV:Kp N w w1:=by rw[bT];exact⟨by simp,λb hb _=>aN _ _ _ _ (λe=>(hN b hb).2.2 e)⟩
 have alJ:Kp Na w w1:=by rw[bT];exact⟨by simp,λb hb _=>aN _ _ _ _ (λe=>(wT b hb).2.2 e)⟩
 have JU:fA w1 db sb o drv lv mb tm (max seq s) hm:=by rw[bT,hmx];exact Go.Gl.aK hC 10 _
 have hM1:ed N w1 mb ha ns aX dv ds:=hM.keep (λb hb=>by rw[bT];exact aN _ _ _ _ (λe=>sY (by have e':b=db:=e;rw[<-e'];exact hb))) lV;have hS1:Sep (FL (FM mb ha ns) db) w w1 (FL (FM mb ha ns) db):=by rw[bT];exact Sep.wE _ _ _ _ _
 have JV:w1.heap.size=w.heap.size:=by rw[bT];simp
 have hst:Og N w db sb o drv lv mb tm (max seq s) hm ha ns dv ds s [] N ns w1:=⟨JU,⟨aX,hM1⟩,by rw[YV],λb h=>h,λb h=>.inl h,λb hb=>⟨by rw[JV];exact(hN b hb).1,(hN b hb).2.1⟩,hS1,sY⟩
 have bz:=ae hst;have iy:=ae (show db<w.heap.size from lt);have HW1:=ae (hW.kp alJ);have JW:=ae bT;have HN:=ae wT;have zS:=ae sY;have Hyn:=ae sj;have Hcs:=ae hcs;have Hnl:=ae iX;clear hC hM sY hN wT hW lV alJ JU hM1 hS1 hst bT sj hcs iX hmx;have aEe:=ae JV;clear JV;go_enter Tryz.func43,Tryz.ntmps43
 go_upto_region 1 with fail
 rw[<-JW.out];clear ff JW c10 lt;generalize hmv:Value.int IntKind.u64 (max (seq:Int) (s:Int))=mv;clear hmv
 go_wp2_with fail
 go_loopw [19] (λiv wr=>aEc N w db sb o drv lv mb tm (max seq s) hm ha ns dv ds s ys iv wr) (λiv _=>ys.length-(intOf iv).toNat)
 case atStart=>exact⟨0,N,ns,rfl,aY _,bz.out⟩
 case round=>
  obtain⟨i,N',bR,rfl,hi,hst⟩:=hrel;by_cases hlt:i<ys.length
  .obtain⟨y,hy⟩:∃y,ys[i]?=some y:=⟨ys[i],by simp[hlt]⟩
   have ic:Kp Na w1 wr:=⟨by have:=hst.sep.size;have:=aEe.out;omega,λb hb hl=>by
    have hb1:=HN.out b hb;have hn:¬FL (FM mb ha ns) db b:=λh=>h.elim hb1.2.1 hb1.2.2
    rw[hst.sep.out b hb1.1 hn,bz.out.sep.out b hb1.1 hn]⟩
   have hW:=HW1.out.kp ic;obtain⟨b,o',c,jV,hNb,hbl,bq⟩:=hW.addr hy;cases jV;have fu:pz Na wr y:=hW.get hy;have qp:y.x∈ys.map (·.x):=aV.2 ⟨y,dm hy,rfl⟩;have FK:=Tq qp;have ep:(ys.take (i+1)).map (·.x)=(ys.take i).map (·.x)++[y.x]:=by rw[take_one hy];simp
   obtain⟨a0,a1,a2⟩:=JK bq hy;obtain⟨⟨yk,yg,yd⟩,yv⟩:=y;dsimp only at a0 a1 a2 fu FK ep;have JM:Bv wr yv yd:=fu.1;obtain⟨xa,xc,rfl⟩:=JM.slice;have lb:b<wr.heap.size:=hbl;have eN:(i:Int)<(ys.length:Int):=by omega
   have bU:(0:Int)<=(i:Int):=by omega
   have fT:IntKind.i64.wrap ((i:Int)+1)=(i:Int)+1:=aQ _ (by omega);have eE:(wr.alloc (.cells #[.string yk,.bool yg,.slice xa yd.length xc] 51)).heap[wr.heap.size]?=some (.cells #[.string yk,.bool yg,.slice xa yd.length xc] 51 (0,0)):=ax _ _;have aX:Grow wr (wr.alloc (.cells #[.string yk,.bool yg,.slice xa yd.length xc] 51)):=ar _ _;obtain⟨eT,cM⟩:=hst.mem;obtain⟨aU,om⟩:=Oe s (ns.map (λn=>n.x.e)) ((ys.take i).map (·.x));rw[<-hst.pB]at aU om;have hwt:bj ((ys.take i).map (·.x))<=bj (ys.map (·.x)):=by rw[List.map_take];exact NV _ _
   rw[bA,List.length_take]at aU;rw[bA,bA,bA,List.length_take]at om;have hcs:=Hcs.out;have iX:=Hnl.out;have sj:=Hyn.out;have JX:db<wr.heap.size:=by have:=hst.sep.size;have:=iy.out;omega
   have hput:=λ(W:World)(hg:Grow wr W)=>aCo (cM.grow hg) (λb hb=>⟨bF (hst.apart b hb).1 hg.size,(hst.apart b hb).2⟩) (by omega) ⟨⟨yk,s,yg,yd⟩,.slice xa yd.length xc⟩ (fu.kp (.bO hg)) hs (by unfold iH;dsimp only;omega)
   have alL:=hst.yP;have aEg:¬FM mb ha bR wr.heap.size:=λh=>by have:=cM.lt h;omega
   have aNZ:=hst.sep.size;have Jy:=ae hput;have Hs:=ae hst;have oy:=ae ep;obtain⟨_,_,_,c8,_,_,_,_⟩:=(hst.cell.grow aX).cells;obtain⟨t0,t1,t2⟩:=yM eE;have mY:=af eE;have bN:=bF JX aX.size;have EF:=ae aX;have mh:=ae eE;have HC:=ae (hst.cell.grow aX);clear hst hput ep fu JM cM aU om hwt hcs iX sj hW bq ic FK qp hy aX
   go_upto_region 4 with fail
   clear a0 a1 a2 lb;generalize wr.alloc (.cells #[.string yk,.bool yg,.slice xa yd.length xc] 51)=w5 at*;generalize JQ:wr.heap.size=tb at*;have aaq:=ae JQ;clear JQ;refine cN (λW=>W.cell? ⟨db,8,none⟩=some (.pointer (some ⟨mb,0,none⟩))/\db<W.heap.size/\W.cell? ⟨tb,0,none⟩=some (.string yk)/\W.cell? ⟨tb,1,none⟩=some (.bool yg)/\W.cell? ⟨tb,2,none⟩=some (.slice xa yd.length xc)/\tb<W.heap.size) [12] (by kernel_rfl) (bB λ_ _ _ _ _ h=>h) ⟨by simpa using c8,by simpa using bN,by simpa using t0,by simpa using t1,by simpa using t2,by simpa using mY⟩ ?_;simp only[ct];clear c8 bN t0 t1 t2 mY
   repeat ((first|(apply az;rfl;rintro W ⟨hW0,hW1,hW2,hW3,jR,nj⟩;go_simp;with_reducible rfl)|(apply aA;rfl));simp only[ah,List.set])
   have hgd:=EF.out.trans (ay w5);refine bw (by rfl) (by go_simp) (Jy.out w5.drew hgd) ?_;rintro e w6 ⟨rfl,ns2,alN,fR,he2,hs2⟩;have TI:db<w5.drew.heap.size:=by have:=hgd.size;have:=aaq.out;omega
   have yQ:=(HC.out.grow (ay w5)).keep (hs2.out db TI alL);have yR:Og N w db sb o drv lv mb tm (max seq s) hm ha ns dv ds s ((ys.take (i+1)).map (·.x)) (λb=>N' b\/(w5.drew.heap.size<=b/\b<w6.heap.size/\¬FM mb ha ns2 b)) ns2 w6:=by
    refine⟨yQ,⟨alN,fR⟩,?_,λb hb=>.inl (Hs.out.sub b hb),λb hb=>?_,λb hb=>?_,?_,λhf=>?_⟩
    .rw[he2,oy.out,ajA,Hs.out.pB];rfl
    .rcases hb with hb|hb
     .exact Hs.out.new b hb
     .have:=hgd.size;have:=aaq.out;right;omega
    .rcases hb with hb|hb
     .have h1:=Hs.out.apart b hb
      have h2:=hgd.size;have h5:=aaq.out;have h3:=hs2.size;refine⟨by omega,λhf=>?_⟩;rcases hs2.foot b hf with h4|h4
      .exact h1.2 h4
      .omega
     .exact hb.2
    .exact(Hs.out.sep.trans (Sep.bO hgd)).trans (hs2.wide db)
    .rcases hs2.foot db hf with h4|h4
     .exact alL h4
     .omega
   have CQ:=ae yR;obtain⟨_,_,_,c8,_,_,_,bN⟩:=yQ.cells;have fw:=(hs2.out tb (af ((ay w5).heap mh.out)) aEg).trans ((ay w5).heap mh.out);obtain⟨t0,t1,t2⟩:=yM fw;have lt6:=af fw;refine⟨_,rfl,⟨c8,bN,t0,t1,t2,lt6⟩,?_⟩;clear yR yQ fR he2 hs2 hgd c8 bN t0 t1 t2 lt6 fw
   try simp only[ah,List.set,aC]
   refine bg ?_;go_wp2;go_roundw
   case rel=>exact⟨i+1,_,_,by simp,hlt,CQ.out⟩
   case measure=>simp[intOf];omega
  .obtain rfl:i=ys.length:=by omega
   rw[iA]at hst;have Hs:=ae hst;clear hst;go_wp2;exact⟨rfl,.tuple #[],by simp[results,Tryz.results43,go_sem],rfl,N',bR,Hs.out⟩
end
end Go.Proofs.YtoolkdapflaeeaaGreatDoor
namespace Go.Proofs.YtoolkdapflaeeaaGreatDoor
open Go.RowKit Go.Gl Go.aF Mn
open Go.MapKept (run_checkKey run_findKey IsKey)
section
theorem alP(a:IntKind)(k:Int):∀(l:List (aD Int)) (i:Nat),Instr.findNow (.int a) (.int a k) (l.map (aD.raw (Value.int a))) i=some (ly k l i)
 | [],_=>rfl
 |e::es,i=>by
  simp only[cr,Instr.findNow,aD.raw,Instr.sameNow,ly];by_cases b:k=e.key
  .simp[b]
  .have c:(k==e.key)=false:=by simpa using b
   rw[c,if_neg b];exact alP a k es (i+1)
theorem aas:xy (κ:=Int) Tryz.prog 3 (Value.int .i64) where
 check:=λb k w=>run_checkKey Tryz.underlying3 (by simp[IsKey]) b 9999
 same:=λk=>by simp[Instr.sameBits]
 find:=λk l w=>run_findKey Tryz.underlying3 (alP .i64 k l 0)
def eh{κ:Type}[DecidableEq κ](w:World)(r:Nat)(enc:κ->Value)(g:κ->Option Value)(m:Nat):Prop:=
 ∃(l:List (aD κ)) (c:Nat),Go.Gl.MapAt w r enc l c/\(l.map aD.key).Nodup/\(∀a∈l,a.born<c)/\(l.map aD.born).Nodup/\l.length<=m/\∀k,(l.find? (λa=>decide (k=a.key))).map aD.val=g k
def tJ{κ:Type}[DecidableEq κ](g:κ->Option Value)(k:κ)(v:Value):κ->Option Value:=λj=>if j=k then some v else g j
def aat{κ:Type}[DecidableEq κ](g:κ->Option Value)(k:κ):κ->Option Value:=λj=>if j=k then none else g j
section
variable{κ:Type} [DecidableEq κ] {w w':World}{r:Nat}{enc:κ→Value}{g:κ→Option Value}{m:Nat}
theorem eh.keep(a:eh w r enc g m)(b:w'.heap[r]?=w.heap[r]?):eh w' r enc g m:=by obtain⟨l,c,d,e⟩:=a;exact⟨l,c,b.trans d,e⟩
theorem eh.lt(a:eh w r enc g m):r<w.heap.size:=by obtain⟨l,c,b,_⟩:=a;exact af b
theorem eh.grow(a:eh w r enc g m)(b:Grow w w'):eh w' r enc g m:=a.keep (b.block r a.lt)
theorem eh.more(a:eh w r enc g m)(hm:m<=m'):eh w r enc g m':=by obtain⟨l,c,b,d,e,f,g,g⟩:=a;exact⟨l,c,b,d,e,f,by omega,g⟩
theorem alQ(w:World)(enc:κ->Value):eh (w.alloc (.map #[] 0)) w.heap.size enc (λ_=>none) 0:=
 ⟨[],0,ax _ _,List.nodup_nil,(λa a=>by cases a),List.nodup_nil,aw _,λ_=>rfl⟩
theorem aau(a:xy Tryz.prog kt enc)(b:Tryz.prog.underlying t=some (.map kt et))(d:(zeroValue et).run Tryz.prog w=.ok z w)(e:eh w r enc g m)(k:κ):
  (Instr.lookup t (.map (some r)) (enc k) false).run Tryz.prog w=.ok ((g k).getD z) w:=by
 obtain⟨l,c,c,f,f,f,f,f⟩:=e;rw[aeb a b d c k,<-f k];rfl
theorem aav{a o:Obj}(_hr:w.heap[r]?=some a):GX r w (dp w r o):=
 ⟨rfl,rfl,rfl,by simp[dp],λb _ a=>zu (λb=>a (by rw[b]))⟩
theorem aaw(q:xy Tryz.prog kt enc)(s:Tryz.prog.underlying t=some (.map kt et))(a:eh w r enc g m)(k:κ)(v:Value):
  ∃w',(Instr.mapUpdate t (.map (some r)) (enc k) v).run Tryz.prog w=.ok () w'/\eh w' r enc (tJ g k v) (m+1)/\GX r w w':=by
 obtain⟨l,c,f,i,m,r,d,t⟩:=a;by_cases n:∃a∈l,k=a.key
 .refine⟨_,aec q s f i k v n,⟨nB k v l,c,zt (af f),?_,?_,?_,?_,?_⟩,aav f⟩
  .unfold nB;rw[fh]
   have:(aD.key∘λa:aD κ=>if k=a.key then{a with val:=v}else a)=aD.key:=funext λa=>by dsimp only[Function.comp];split<;>rfl
   rw[this];exact i
  .intro a d
   obtain⟨e,g,rfl⟩:=aV.1 d
   split<;>exact m e g
  .unfold nB;rw[fh]
   have:(aD.born∘λa:aD κ=>if k=a.key then{a with val:=v}else a)=aD.born:=funext λa=>by dsimp only[Function.comp];split<;>rfl
   rw[this];exact r
  .unfold nB;rw[bA];omega
  .intro j
   unfold nB tJ;rw[List.find?_map];have:((λa:aD κ=>decide (j=a.key))∘λa:aD κ=>if k=a.key then{a with val:=v}else a)=λa=>decide (j=a.key):=funext λa=>by dsimp only[Function.comp];split<;>rfl
   rw[this,Option.map_map];by_cases e:j=k
   .subst e
    rw[if_pos rfl];obtain⟨a,d,o⟩:=n;cases g:l.find? (λa=>decide (j=a.key))with
    |none=>exact absurd (List.find?_eq_none.1 g a d) (by simp[o])
    |some h=>
     have:=List.find?_some g;have p:j=h.key:=by simpa using this
     simp[p]
   .rw[if_neg e,<-t j]
    cases g:l.find? (λa=>decide (j=a.key))with
    |none=>rfl
    |some h=>
     have:=List.find?_some g;have p:j=h.key:=by simpa using this
     have u:¬k=h.key:=λa=>e (p.trans a.symm)
     simp[u]
 .have p:∀a∈l,k≠a.key:=λa d o=>n ⟨a,d,o⟩
  refine⟨_,Qw q s f k v p,⟨l++[(⟨k,v,c⟩:aD κ)],c+1,zt (af f),?_,?_,?_,?_,?_⟩,aav f⟩
  .rw[dS,List.nodup_append];refine⟨i,by simp,λi ha b f=>?_⟩;obtain⟨a,d,rfl⟩:=aV.1 ha;simp only[cr,List.map_nil,cZ]at f;subst f;exact λn=>p a d n.symm
  .intro a d
   rcases dn.1 d with d|d
   .have:=m a d;omega
   .rw[cZ.1 d];exact Nat.lt_succ_self c
  .rw[dS,List.nodup_append];refine⟨r,by simp,λi ha b f=>?_⟩;obtain⟨a,d,rfl⟩:=aV.1 ha;simp only[cr,List.map_nil,cZ]at f;subst f;have:=m a d;omega
  .rw[aM,List.length_singleton];omega
  .intro j
   rw[List.find?_append];unfold tJ;by_cases e:j=k
   .subst e;have:l.find? (λa=>decide (j=a.key))=none:=List.find?_eq_none.2 (λa d=>by simpa using p a d);rw[this];simp
   .rw[if_neg e,<-t j]
    cases g:l.find? (λa=>decide (j=a.key))with
    |none=>simp[e]
    |some h=>rfl
theorem aEh{kt':TypeId}(a:xy Tryz.prog kt enc)(f:Tryz.prog.underlying t=some (.map kt et))(d:eh w r enc g m)(k:κ):
  ∃w',(Builtin.delete_ #[t,kt'] ty #[.map (some r),enc k]).run Tryz.prog w=.ok (.tuple #[]) w'/\eh w' r enc (aat g k) m/\GX r w w':=by
 obtain⟨l,c,e,b,g,h,i,m⟩:=d;refine⟨_,Qx a f e b k,⟨l.filter (λa=>decide (k≠a.key)),c,zt (af e),b.sublist (List.filter_sublist.map _),λa b=>g a (List.mem_filter.1 b).1,h.sublist (List.filter_sublist.map _),aJ (List.length_filter_le _ _) i,λj=>?_⟩,aav e⟩;rw[List.find?_filter];unfold aat;by_cases c:j=k
 .subst c;rw[if_pos rfl];have:l.find? (λa=>decide (decide (j≠a.key)=true/\decide (j=a.key)=true))=none:=List.find?_eq_none.2 (λa _=>by by_cases d:j=a.key<;>simp[d]);exact congrArg (Option.map aD.val) this
 .rw[if_neg c,<-m j]
  have d:(λa:aD κ=>decide (decide (k≠a.key)=true/\decide (j=a.key)=true))=λa=>decide (j=a.key):=funext λa=>by
   by_cases b:j=a.key
   .have e:k≠a.key:=λx=>c (b.trans x.symm)
    simp[b,e]
   .simp[b]
  exact congrArg (λa=>Option.map aD.val (List.find? a l)) d
end
end
end Go.Proofs.YtoolkdapflaeeaaGreatDoor
