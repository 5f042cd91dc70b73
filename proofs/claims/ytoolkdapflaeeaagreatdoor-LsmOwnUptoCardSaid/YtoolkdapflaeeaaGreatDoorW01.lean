/- Helpers. -/
import Derived.Deep.CutRange
import Derived.Deep.DeepCutAuto
import Derived.Test.YtoolkdapflaeeaaGreatDoorW00
import Derived.MapKept
import Derived.Shelf.Abstract
import Derived.Shelf.SlLaysF0
import Derived.Shelf.SlLaysE0
import Derived.Shelf.SlLaysH0
import Derived.Shelf.SlLaysN
import Derived.Shelf.Lays
import Derived.Test.YtoolkdapflaeeaaGreatDoorProg
import Derived.Sort.OwnSorted
import Derived.Shelf.Strings.Prefix
import Derived.Shelf.Sort.Plain
import Derived.Shelf.Slices.In.SortNone
import Derived.Sort.KeysCollected
set_option maxRecDepth 100000
set_option maxHeartbeats 16000000
set_option linter.unusedSimpArgs false
open Go
variable{B b c i j k p qb r s:Nat}{F F':Nat→Prop}{arr:Array Value}{born used:Int}{bv pv u v:Value}{f:Nat × Nat}{ks:List Int}{l x:List UInt8}{t:TypeId}{w w' w1 w2:World}
namespace Go.Proofs.YtoolkdapflaeeaaGreatDoor
open Go.RowKit Go.Gl Go.aF
theorem aeJ:∀(r:List UInt8)(i v:Nat),(nC i v r).2.1<=i+r.length
 | [],i,v=>by simp[nC]
 |c::r,i,v=>by
  unfold nC;split
  .simp
  .split
   .split
    .simp
    .simp
   .have:=aeJ r (i+1) (v+(c.toNat-128)*128^i);simp at this ⊢;omega
theorem ug{a:Option Addr}(d:Bv w (.slice a l.length c) l)(e:i<=j)(f:j<=l.length):Bv w (.slice (if c=i then a else a.map (λx=>x.add i)) (j-i) (c-i)) ((l.drop i).take (j-i)):=by
 obtain⟨e,e,e,g,g,g,d⟩:=d;cases e;have e:((l.drop i).take (j-i)).length=j-i:=by simp;omega
 refine⟨_,c-i,by rw[e],by rw[e];omega,by omega,?_,?_⟩
 .intro c
  split at c
  .omega
  .cases a with
   |none=>have:=g rfl;omega
   |some x=>cases c
 .by_cases a:(l.drop i).take (j-i)=[]
  .exact .inl a
  .right
   have c:i<j:=by
    rcases Nat.lt_or_ge i j with c|c
    .exact c
    .exfalso;apply a;rw[show j-i=0 by omega];simp
   rcases d with rfl|⟨b,o,rfl,hb,hc⟩
   .simp at f;omega
   .rw[if_neg (by omega)]
    refine⟨b,o+i,by show some (Addr.add ⟨b,o,none⟩ i)=_;rw[Addr.add_lit],hb,λb k a=>?_⟩;rw[List.getElem?_take]at a
    split at a
    .rw[List.getElem?_drop]at a;have:=hc (i+b) k a;rw[Nat.add_assoc];exact this
    .cases a
def DR(a:Option Addr)(c len:Nat)(at' d e:Nat)(A P:List UInt8)(i:Nat)(v:Value)(W:World):Prop:=
 match i with
 |0=>v=.slice a len c
 |1=>v=.int .i64 at'
 |2=>v=.int .i64 d
 |3=>Bv W v A
 |4=>v=.slice a len c
 |5=>v=.int .i64 d
 |6=>v=.int .i64 e
 |7=>Bv W v P
 |8=>∃b pv,v=.slice (some ⟨b,0,none⟩) 1 1/\W.heap[b]?=some (.cells #[pv] 49 (0,0))/\Bv W pv P
 |9=>v=.int .u32 ((eQ aq P:Nat):Int)
 |10=>v=.int .u64 ((eQ aq P:Nat):Int)
 |11=>Bv W v (cK 4 (eQ aq P))
 |12=>v=.bool (decide (A=cK 4 (eQ aq P)))
 |13=>v=.bool (!decide (A=cK 4 (eQ aq P)))
 |_=>True
theorem DR.keep{a:Option Addr}{c d e f g:Nat}{A P:List UInt8}:∀(j:Nat)(v:Value)(W W':World),Grow W W'->DR a c d e f g A P j v W->DR a c d e f g A P j v W':=by
 intro j v W W' c a;unfold DR at a
 split at a<;>first
  |exact a
  |exact Bv.grow a c
  |(obtain⟨b,pv,d,e,f⟩:=a;exact⟨b,pv,d,c.heap e,f.grow c⟩)
  |(unfold DR;split<;>first|trivial|(exfalso;simp_all))
theorem aeK{l:List UInt8}(h:Bv w bv l)(hl:l.length<=1000000000000):
  Calls Tryz.prog 152 #[bv] w λe w'=>e=.returned (.tuple #[.int .i64 ((iP aq l).1:Nat),.int .i64 ((iP aq l).2.1:Nat),.int .i64 ((iP aq l).2.2:Nat)])/\Grow w w':=by
 have gq:=Lg h;obtain⟨ba,bc,rfl⟩:=h.slice;have H:=ae h;have iR:=ae gq;clear h gq;go_enter Tryz.func152,Tryz.ntmps152
 go_wp2_with fail
 (with_reducible refine iR.out.mono ?_);rintro e w1 ⟨rfl,bT⟩;have hw2:=bT.symm;subst hw2;clear bT iR;have pN:Hid (iP aq l=_):=ae (by unfold iP;rfl);generalize hr:fG l=r at*;have hat:=aeJ l 0 0;rw[show nC 0 0 l=r from hr]at hat;obtain⟨n,at',e⟩:=r;dsimp only at pN hat ⊢;clear hr;by_cases h1:e≠0
 .rw[if_pos h1]at pN
  have e1:((e:Int) != 0)=true:=by simp;omega
  have e2:e≠0:=h1;clear h1;go_wp2;go_ret3;rw[pN.out];exact⟨rfl,aW _⟩
 rw[if_neg h1]at pN;have e1:((e:Int) != 0)=false:=by simp;omega
 obtain rfl:e=0:=by omega
 clear h1;by_cases h2:67108864<n
 .rw[if_pos h2]at pN
  have e2:decide ((67108864:Int)<(n:Int))=true:=by simp;omega
  go_wp2;go_ret3;rw[pN.out];exact⟨rfl,aW _⟩
 rw[if_neg h2]at pN;have e2:decide ((67108864:Int)<(n:Int))=false:=by simp;omega
 by_cases h3:l.length<at'+(n+4)
 .rw[if_pos h3]at pN
  have e3:decide ((l.length:Int)-(at':Int)<(n:Int)+4)=true:=by simp;omega
  go_wp2;go_ret3;rw[pN.out];exact⟨rfl,aW _⟩
 rw[if_neg h3]at pN;have e3:decide ((l.length:Int)-(at':Int)<(n:Int)+4)=false:=by simp;omega
 have hbc:l.length<=bc:=by obtain⟨_,_,he,hlc,_⟩:=H.out;cases he;exact hlc
 generalize hPd:(l.drop (at'+4)).take n=P at*;generalize hAd:(l.drop at').take 4=A at*;have HP:=ae hPd;have HA:=ae hAd;clear hPd hAd
 go_upto_region 10 with fail
 obtain⟨fr,dV⟩:∃fr:Nat,fr=at'+4:=⟨_,rfl⟩
 obtain⟨tt,uh⟩:∃tt:Nat,tt=fr+n:=⟨_,rfl⟩
 rw[show((at':Int)+4)=(fr:Int)by omega];rw[show((fr:Int)+(n:Int))=(tt:Int)by omega];rw[<-dV]at HP pN;rw[<-uh]at pN;have b1:at'<=fr:=by omega
 have b2:fr<=tt:=by omega
 have b3:tt<=l.length:=by omega
 have pM:=ae dV;have Htt:=ae uh;clear dV uh h3
 go_cut [48]from 35 to 48 (λc wx=>c=.bool (!decide (A=cK 4 (eQ aq P)))/\Grow w wx)
 case first=>
  rename_i J K hJ hK
  refine xA (λa0 ha0=>?_);have F0:a0.tmps[0]?=some (.slice ba l.length bc):=by rw[ha0];rfl
  have F2:a0.tmps[2]?=some (.int .i64 fr):=by rw[ha0];rfl
  have F3:a0.tmps[3]?=some (.int .i64 tt):=by rw[ha0];rfl
  have F6:a0.tmps[6]?=some (.int .i64 at'):=by rw[ha0];rfl
  have hsz:a0.tmps.size=51:=by rw[ha0];rfl
  have vN:Hid (∀a1 wx,sF [35,36,37,38,39,40,41,42,43,44,45,46,47,48] a0 a1->a1.tmps[48]?=some (.bool (!decide (A=cK 4 (eQ aq P))))->Grow w wx->K a1 wx):=ae (λa1 wx ha h48 r0=>by refine hK _ _ (hJ _ _ ?_);refine⟨a1.tmps.getD 35 undef,a1.tmps.getD 36 undef,a1.tmps.getD 37 undef,a1.tmps.getD 38 undef,a1.tmps.getD 39 undef,a1.tmps.getD 40 undef,a1.tmps.getD 41 undef,a1.tmps.getD 42 undef,a1.tmps.getD 43 undef,a1.tmps.getD 44 undef,a1.tmps.getD 45 undef,a1.tmps.getD 46 undef,a1.tmps.getD 47 undef,a1.tmps.getD 48 undef,⟨by rw[gZ,h48];rfl,r0⟩,ha.fill.trans ?_⟩;subst ha0;kernel_rfl)
  clear ha0 hK hJ e1 e2 e3;refine xC (DR ba bc l.length at' fr tt A P) (λ_ _ W=>Below w.heap.size w W) Grow [35,36,37,38,39,40,41,42,43,44,45,46,47,48] (by kernel_rfl) (by kernel_rfl) (by rw[hsz];rfl) DR.keep (ay _) ?_ (λa1 W hf=>?_);rotate_left
  .obtain⟨v48,aeO,auL⟩:=hf.slot 13 48 (by rfl) (by rfl);have auM:v48=_:=auL;rw[auM]at aeO;exact vN.out a1 W hf.alike aeO hf.world
  clear vN;refine⟨?_,?_,?_,?_,?_,?_,?_,?_,?_,?_,?_,?_,?_,?_,True.intro⟩
  .intro listed a W hf ak aj;have hs1:=hf.sz hsz;have G0:=hf.got (by decide) F0 (by rw[hs1];decide);refine br rfl (by rfl) (λK' hK'=>?_);go_simp;exact hK' _ _ ⟨_,rfl,(λ_ _=>rfl),aW _,hf.world⟩
  .intro listed a W hf ak aj;have hs1:=hf.sz hsz;have G6:=hf.got (by decide) F6 (by rw[hs1];decide);refine br rfl (by rfl) (λK' hK'=>?_);go_simp;exact hK' _ _ ⟨_,rfl,(λ_ _=>rfl),aW _,hf.world⟩
  .intro listed a W hf ak aj;have hs1:=hf.sz hsz;have G2:=hf.got (by decide) F2 (by rw[hs1];decide);refine br rfl (by rfl) (λK' hK'=>?_);go_simp;exact hK' _ _ ⟨_,rfl,(λ_ _=>rfl),aW _,hf.world⟩
  .intro listed a W hf ak aj
   have hs1:=hf.sz hsz;have hB:Below w.heap.size w W:=hf.world;have G35:=aP (hf.sv 0 35 rfl (aO aj 0 (by kernel_rfl)) λ_ _ h=>h) (by rw[hs1];decide);have G36:=aP (hf.sv 1 36 rfl (aO aj 1 (by kernel_rfl)) λ_ _ h=>h) (by rw[hs1];decide);have G37:=aP (hf.sv 2 37 rfl (aO aj 2 (by kernel_rfl)) λ_ _ h=>h) (by rw[hs1];decide);have c1:fr<=bc:=by omega
   have c2:at'<=fr:=by omega
   refine br rfl (by rfl) (λK' hK'=>?_);go_simp;exact hK' _ _ ⟨_,rfl,(λ_ _=>by have:=ug (H.out.grow hB) (i:=at') (j:=fr) (by omega) (by omega);rw[show fr-at'=4 by(have:=pM.out;omega),HA.out]at this;rw[show fr-at'=4 by(have:=pM.out;omega)];exact this),aW _,hf.world⟩
  .intro listed a W hf ak aj;have hs1:=hf.sz hsz;have G0:=hf.got (by decide) F0 (by rw[hs1];decide);refine br rfl (by rfl) (λK' hK'=>?_);go_simp;exact hK' _ _ ⟨_,rfl,(λ_ _=>rfl),aW _,hf.world⟩
  .intro listed a W hf ak aj;have hs1:=hf.sz hsz;have G2:=hf.got (by decide) F2 (by rw[hs1];decide);refine br rfl (by rfl) (λK' hK'=>?_);go_simp;exact hK' _ _ ⟨_,rfl,(λ_ _=>rfl),aW _,hf.world⟩
  .intro listed a W hf ak aj;have hs1:=hf.sz hsz;have G3:=hf.got (by decide) F3 (by rw[hs1];decide);refine br rfl (by rfl) (λK' hK'=>?_);go_simp;exact hK' _ _ ⟨_,rfl,(λ_ _=>rfl),aW _,hf.world⟩
  .intro listed a W hf ak aj
   have hs1:=hf.sz hsz;have hB:Below w.heap.size w W:=hf.world;have G39:=aP (hf.sv 4 39 rfl (aO aj 4 (by kernel_rfl)) λ_ _ h=>h) (by rw[hs1];decide);have G40:=aP (hf.sv 5 40 rfl (aO aj 5 (by kernel_rfl)) λ_ _ h=>h) (by rw[hs1];decide);have G41:=aP (hf.sv 6 41 rfl (aO aj 6 (by kernel_rfl)) λ_ _ h=>h) (by rw[hs1];decide);have c1:tt<=bc:=by omega
   have c2:fr<=tt:=by omega
   refine br rfl (by rfl) (λK' hK'=>?_);go_simp;exact hK' _ _ ⟨_,rfl,(λ_ _=>by have:=ug (H.out.grow hB) (i:=fr) (j:=tt) (by omega) (by omega);rw[show tt-fr=n by(have:=Htt.out;omega),HP.out]at this;rw[show tt-fr=n by(have:=Htt.out;omega)];exact this),aW _,hf.world⟩
  .intro listed a W hf ak aj;have hs1:=hf.sz hsz;have hB:Below w.heap.size w W:=hf.world;obtain⟨v7,s7,q7⟩:=hf.slot 7 42 rfl (aO aj 7 (by kernel_rfl));have G42:=aP s7 (by rw[hs1];decide);obtain⟨xa,xc,rfl⟩:=Bv.slice q7;refine br rfl (by rfl) (λK' hK'=>?_);go_simp;exact hK' _ (W.alloc (.cells #[.slice xa P.length xc] 49)) ⟨_,rfl,(λ_ _=>⟨W.heap.size,_,rfl,ax _ _,Bv.grow q7 (ar _ _)⟩),(ar _ _),hB.trans ((ar _ _).mono hB.size)⟩
  .intro listed a W hf ak aj;have hs1:=hf.sz hsz;have hB:Below w.heap.size w W:=hf.world;obtain⟨v8,s8,q8⟩:=hf.slot 8 43 rfl (aO aj 8 (by kernel_rfl));obtain⟨b8,p8,q8,c8,d8⟩:=q8;have q8':v8=_:=q8;subst q8';have G43:=aP s8 (by rw[hs1];decide);refine ky rfl (by rfl) (by go_simp) (QF c8 d8) ?_;rintro e w7 ⟨rfl,dF⟩;exact⟨_,rfl,_,rfl,(λ_ _=>rfl),dF,hB.trans (dF.mono hB.size)⟩
  .intro listed a W hf ak aj
   have hs1:=hf.sz hsz;have hB:Below w.heap.size w W:=hf.world;have G44:=aP (hf.sv 9 44 rfl (aO aj 9 (by kernel_rfl)) λ_ _ h=>h) (by rw[hs1];decide);have hwr:IntKind.u64.wrap ((eQ aq P:Nat):Int)=((eQ aq P:Nat):Int):=by have:=Bq P;simp[IntKind.wrap,IntKind.bits,IntKind.signed];omega
   refine br rfl (by rfl) (λK' hK'=>?_);go_simp;exact hK' _ _ ⟨_,rfl,(λ_ _=>rfl),aW _,hf.world⟩
  .intro listed a W hf ak aj;have hs1:=hf.sz hsz;have hB:Below w.heap.size w W:=hf.world;have G45:=aP (hf.sv 10 45 rfl (aO aj 10 (by kernel_rfl)) λ_ _ h=>h) (by rw[hs1];decide);refine ky rfl (by rfl) (by go_simp) (aeD (B:=W.heap.size) (l:=[]) (oM _ _ W) (aw _) (by simp) _ (Bq P)) ?_;rintro e w7 ⟨v7,rfl,kA,dF⟩;exact⟨_,rfl,_,rfl,(λ_ _=>cE kA),dF,hB.trans (dF.mono hB.size)⟩
  .intro listed a W hf ak aj;have hs1:=hf.sz hsz;have hB:Below w.heap.size w W:=hf.world;obtain⟨v3,s3,q3⟩:=hf.slot 3 38 rfl (aO aj 3 (by kernel_rfl));have G38:=aP s3 (by rw[hs1];decide);obtain⟨v11,QG,DT⟩:=hf.slot 11 46 rfl (aO aj 11 (by kernel_rfl));have G46:=aP QG (by rw[hs1];decide);have q3b:Bv W v3 A:=q3;have auW:Bv W v11 (cK 4 (eQ aq P)):=DT;refine ky rfl (by rfl) (by go_simp) (Wj q3b auW) ?_;rintro e w7 ⟨rfl,dF⟩;exact⟨_,rfl,_,rfl,(λ_ _=>rfl),dF,hB.trans (dF.mono hB.size)⟩
  .intro listed a W hf ak aj;have hs1:=hf.sz hsz;have hB:Below w.heap.size w W:=hf.world;have G47:=aP (hf.sv 12 47 rfl (aO aj 12 (by kernel_rfl)) λ_ _ h=>h) (by rw[hs1];decide);refine br rfl (by rfl) (λK' hK'=>?_);go_simp;exact hK' _ _ ⟨_,rfl,(λ_ _=>rfl),aW _,hf.world⟩
 case rest=>
  obtain⟨rfl,hg⟩:=hcut;by_cases h4:A=cK 4 (eQ aq P)
  .rw[if_neg (by simpa using h4)]at pN
   have e4:decide (A=cK 4 (eQ aq P))=true:=by simpa using h4
   rw[e4];clear h4 e4;go_wp2;go_ret3;rw[pN.out];exact⟨rfl,hg⟩
  .rw[if_pos h4]at pN
   have e4:decide (A=cK 4 (eQ aq P))=false:=by simpa using h4
   rw[e4];clear h4 e4;go_wp2;go_ret3;rw[pN.out];exact⟨rfl,hg⟩
def mM(B:Nat)(w:World)(v:Value)(b:List (List UInt8)):Prop:=
 ∃a,Row1 49 B w v a/\a.length=b.length/\∀(i:Nat)(u:Value)(p:List UInt8),a[i]?=some u->b[i]?=some p->aI B w u p
theorem auY(B:Nat)(w:World):mM B w (.slice none 0 0) []:=⟨[],oM _ _ _,rfl,λi u p a=>by simp at a⟩
theorem mM.slice{b:List (List UInt8)}(d:mM B w v b):∃a c,v=.slice a b.length c:=by obtain⟨b,b,e,_⟩:=d;obtain⟨a,c,d⟩:=b.slice;exact⟨a,c,by rw[d,e]⟩
theorem mM.grow{a:List (List UInt8)}(c:mM B w v a)(b:Grow w w'):mM B w' v a:=by obtain⟨a,d,e,f⟩:=c;exact⟨a,d.grow b,e,λi u p a c=>(f i u p a c).grow b⟩
theorem mM.rv{c:List (List UInt8)}(b:mM B w v c):Rv w v c:=by
 obtain⟨a,d,e,g⟩:=b;rcases d with⟨rfl,rfl⟩|⟨b,d,h,rfl,i,f,k,l,m,n⟩
 .have:c=[]:=je e.symm;subst this;exact⟨none,0,rfl,.inl rfl⟩
 .have o:Row1 49 B w (.slice (some ⟨b,0,none⟩) a.length d) a:=.inr ⟨b,d,h,rfl,i,f,k,l,m,n⟩
  refine⟨some ⟨b,0,none⟩,d,by rw[e],.inr ⟨b,0,rfl,af f,λj p b=>?_⟩⟩;obtain⟨u,c⟩:∃u,a[j]?=some u:=by have:=(dW.1 b).1;exact⟨a[j]'(by omega),by simp[show j<a.length by omega]⟩
  exact⟨u,by rw[Nat.zero_add];exact o.cells rfl c,cE (g j u p c b)⟩
theorem aI.aeU(a:aI B w v l):v.oneCell'=true:=by obtain⟨b,c,rfl⟩:=a.slice;rfl
theorem aeV{a:List (List UInt8)}{p:List UInt8}(c:mM B w v a)(h:aI B w u p)(o:B<=w.heap.size)(d:a.length+1<=1000000000000):
  ∃v' w',(Builtin.append_ #[131,131] 131 #[v,.slice (some ⟨w.heap.size,0,none⟩) 1 1]).run Tryz.prog (w.alloc (.cells #[u] 49))=.ok v' w'/\mM B w' v' (a++[p])/\Below B w w':=by
 obtain⟨j,k,g,l⟩:=c;have d:Grow w (w.alloc (.cells #[u] 49)):=ar _ _;have c:Src Tryz.prog 1 131 (.slice (some ⟨w.heap.size,0,none⟩) 1 1) 1 [u] (w.alloc (.cells #[u] 49)):=
  Src.ofSlice _ Tryz.underlying131 _ _ _ _ rfl (cell_one_new w u _) (λx a=>by rw[cZ.1 a];exact h.aeU)
 obtain⟨v',w',q,r,m,e⟩:=zx (ty:=131) Tryz.underlying131 Tryz.zy rfl (k.grow d) c (by simp;omega) (by rw[g];unfold maxLen;omega) (by rw[g];omega);have n:∀b x c,aI B w x c->x.ownBlock=some b->w'.heap[b]?=w.heap[b]?:=λb x c a e=>by have s:aI B (w.alloc (.cells #[u] 49)) x c:=a.grow d;obtain⟨f,f⟩:=s.block e;rw[m.block b (af f) (λs=>(k.grow d).apart f (by decide) s.symm)];exact d.block b (a.lt e).2
 refine⟨v',w',q,⟨j++[u],r,by simp[g],λi x c a f=>?_⟩,below_grown (d.mono o) (by simp;omega) (k.grow d) m⟩;by_cases d:i<j.length
 .rw[vB d]at a;rw[vB (by omega)]at f;exact(l i x c a f).keep (λb e=>n b x c (l i x c a f) e)
 .have c:i=j.length:=by have:=(dW.1 a).1;simp at this;omega
  subst c;simp at a;rw[g]at f;simp at f;subst a f;exact h.keep (λb e=>n b u p h e)
theorem ava(T:List Nat)(b:List UInt8)(a:(iP T b).2.2=0):0<(iP T b).2.1/\(iP T b).1<=(iP T b).2.1/\(iP T b).2.1<=b.length:=by
 unfold iP at a ⊢;split
 .rename_i b;rw[if_pos b]at a;exact absurd a b
 .rename_i b
  rw[if_neg b]at a;split
  .rename_i b;rw[if_pos b]at a;cases a
  .rename_i b
   rw[if_neg b]at a;split
   .rename_i b;rw[if_pos b]at a;cases a
   .rename_i b
    rw[if_neg b]at a;split
    .rename_i b;rw[if_pos b]at a;cases a
    .simp;omega
def Wk(w:World)(l:List UInt8)(d av:Value)(c:World):Prop:=
 ∃(k a:Nat)(b:List (List UInt8)),av=.int .i64 a/\a<=l.length/\mM w.heap.size c d b/\b.length<=a/\(l.drop a).length<k/\mL aq l=(b++(rA aq k (l.drop a)).1,a+(rA aq k (l.drop a)).2.1,(rA aq k (l.drop a)).2.2)/\Grow w c
theorem aeW(h:Bv w bv l)(hl:l.length<=900000000000):
  Calls Tryz.prog 97 #[bv] w λe w'=>∃rv,e=.returned (.tuple #[rv,.int .i64 ((mL aq l).2.1:Nat),.int .i64 ((mL aq l).2.2:Nat)])/\mM w.heap.size w' rv (mL aq l).1/\Grow w w':=by
 obtain⟨ba,bc,rfl⟩:=h.slice;have hbc:l.length<=bc:=by obtain⟨_,_,he,hlc,_⟩:=h;cases he;exact hlc
 have H:=ae h;clear h;go_enter Tryz.func97,Tryz.ntmps97
 go_wp2_with fail
 go_loopw [5,6] (λov av wr=>Wk w l ov av wr) (λ_ av _=>l.length-(intOf av).toNat)
 case atStart=>exact⟨l.length+1,0,[],rfl,aY _,auY _ _,aw _,by simp,by simp[mL],aW _⟩
 case round=>
  obtain⟨k,at',ps,rfl,hat,hown,hpl,hk,qD,hg⟩:=hrel;obtain⟨k,rfl⟩:∃k',k=k'+1:=⟨k-1,by omega⟩
  rw[rA]at qD;by_cases hlt:at'<l.length
  .have hne:¬l.drop at'=[]:=by intro h0;have:=congrArg List.length h0;simp at this;omega
   rw[if_neg hne]at qD;have hcut:=ug (H.out.grow hg) (i:=at') (j:=l.length) (by omega) (aw _);rw[show(l.drop at').take (l.length-at')=l.drop at' from List.take_of_length_le (by simp),if_neg (by omega)]at hcut;have dV:=aeK hcut (by simp;omega);have hle:=ava aq (l.drop at');have hlen:(l.drop at').length=l.length-at':=by simp
   have eN:(at':Int)<(l.length:Int):=by omega
   have c1:at'<=bc:=by omega
   have pM:=ae dV;have nJ:=ae qD;have gw:=ae hown;have Hg:=ae hg;obtain⟨oa,oc,rfl⟩:=hown.slice;clear hcut dV qD hown hg hne
   go_wp2_with fail
   (with_reducible refine pM.out.mono ?_);rintro e w2 ⟨rfl,hg2⟩;generalize iP aq (l.drop at')=R at*;obtain⟨fr,tt,er⟩:=R;dsimp only at hle nJ ⊢;by_cases her:er=0
   .subst her
    obtain⟨qE,rD,dG⟩:=hle rfl;rw[if_neg (by simp)]at nJ;obtain⟨i1,aeX⟩:∃i:Nat,i=at'+fr:=⟨_,rfl⟩
    obtain⟨j1,QI⟩:∃j:Nat,j=at'+tt:=⟨_,rfl⟩
    have s1:(at':Int)+(fr:Int)=(i1:Int):=by omega
    have s2:(at':Int)+(tt:Int)=(j1:Int):=by omega
    have hg3:=Hg.out.trans hg2;have hcut:=ug (H.out.grow hg3) (i:=i1) (j:=j1) (by omega) (by omega);have hP:(l.drop i1).take (j1-i1)=((l.drop at').drop fr).take (tt-fr):=by rw[List.drop_drop,aeX,QI,show at'+tt-(at'+fr)=tt-fr by omega]
    rw[hP]at hcut;have vO:l.drop j1=(l.drop at').drop tt:=by rw[List.drop_drop,QI]
    have aKN:(((l.drop at').drop fr).take (tt-fr)).length<=900000000000:=by simp;omega
    generalize ((l.drop at').drop fr).take (tt-fr)=p at*;have b1:i1<=j1:=by omega
    have b2:j1<=bc:=by omega
    have b3:j1<=l.length:=by omega
    have b4:at'<j1:=by omega
    have e0:((0:Int) != 0)=false:=rfl;have Li:=ae vO;have Lj:=ae (gw.out.grow hg2);have jo:=ae hg3;have Wl:=ae QI;clear hP vO hg3 hg2 aeX QI pM hle rD dG qE gw;by_cases hb:bc=i1
    .subst hb
     rw[if_pos rfl,Nat.sub_self,show j1-bc=0 by omega]at hcut;have Ll:=xG hcut (by omega);have Wm:=ae Ll;clear Ll hcut
     go_wp2_with fail
     (with_reducible refine Wm.out.mono ?_);rintro e w4 ⟨cv,rfl,ui,hg4⟩;have bm:=jo.out.trans hg4;obtain⟨v',w',r1,r2,r3⟩:=aeV (Lj.out.grow hg4) (ui.mono jo.out.size) bm.size (by omega);obtain⟨ca,cc,rfl⟩:=ui.slice;have hrel:Wk w l v' (.int .i64 j1) w':=by
      refine⟨k,j1,ps++[p],rfl,b3,r2,by simp;omega,?_,?_,Below.trans bm r3⟩
      .simp at hk ⊢;omega
      .rw[nJ.out,Li.out,Wl.out];refine Prod.ext (by simp) (Prod.ext ?_ rfl);simp;omega
     have aR:=ae hrel;have cU:=ae r1;clear hrel r1 r2 r3 ui hg4 bm
     go_wp2_with (at_builtin;refine fP rfl rfl rfl rfl cU.out ?_)
     go_roundw
     case rel=>exact aR.out
     case measure=>simp[intOf];omega
    .skip
     rw[if_neg hb]at hcut;have Ll:=xG hcut (by omega);have Wm:=ae Ll;clear Ll hcut
     go_wp2_with fail
     (with_reducible refine Wm.out.mono ?_);rintro e w4 ⟨cv,rfl,ui,hg4⟩;have bm:=jo.out.trans hg4;obtain⟨v',w',r1,r2,r3⟩:=aeV (Lj.out.grow hg4) (ui.mono jo.out.size) bm.size (by omega);obtain⟨ca,cc,rfl⟩:=ui.slice;have hrel:Wk w l v' (.int .i64 j1) w':=by
      refine⟨k,j1,ps++[p],rfl,b3,r2,by simp;omega,?_,?_,Below.trans bm r3⟩
      .simp at hk ⊢;omega
      .rw[nJ.out,Li.out,Wl.out];refine Prod.ext (by simp) (Prod.ext ?_ rfl);simp;omega
     have aR:=ae hrel;have cU:=ae r1;clear hrel r1 r2 r3 ui hg4 bm
     go_wp2_with (at_builtin;refine fP rfl rfl rfl rfl cU.out ?_)
     go_roundw
     case rel=>exact aR.out
     case measure=>simp[intOf];omega
   .have e0:((er:Int) != 0)=true:=by simp;omega
    rw[if_pos her]at nJ;have aKO:er≠0:=her;clear her;go_wp2;refine bodyPost_ret (v:=.tuple #[.slice oa ps.length oc,.int .i64 ((mL aq l).2.1:Nat),.int .i64 ((mL aq l).2.2:Nat)]) ?_ rfl ⟨_,rfl,?_,Hg.out.trans hg2⟩
    .rw[nJ.out];simp[results,Tryz.results97,go_sem]
    .rw[nJ.out];simp only[List.append_nil];exact gw.out.grow hg2
  .have hdr:l.drop at'=[]:=List.drop_eq_nil_of_le (by omega)
   rw[if_pos hdr]at qD;have nJ:=ae qD;have gw:=ae hown;obtain⟨oa,oc,rfl⟩:=hown.slice;have We:l.length<=at':=by omega
   clear qD hown hdr hk;go_wp2;refine bodyPost_ret (v:=.tuple #[.slice oa ps.length oc,.int .i64 ((mL aq l).2.1:Nat),.int .i64 ((mL aq l).2.2:Nat)]) ?_ rfl ⟨_,rfl,?_,hg⟩
   .rw[nJ.out];simp[results,Tryz.results97,go_sem]
   .rw[nJ.out];simp only[List.append_nil];exact gw.out
end Go.Proofs.YtoolkdapflaeeaaGreatDoor
namespace Go.Proofs.YtoolkdapflaeeaaGreatDoor
open Go.RowKit Go.Gl Go.aF
open Go.MapKept (bytes_beq run_checkKey run_findKey IsKey)
section
theorem aeY(k:ByteArray):∀(l:List (aD ByteArray)) (i:Nat),Instr.findNow .string (.string k) (l.map (aD.raw Value.string)) i=some (ly k l i)
 | [],_=>rfl
 |e::es,i=>by
  simp only[cr,Instr.findNow,aD.raw,Instr.sameNow,ly];by_cases a:k=e.key
  .have:(k==e.key)=true:=(bytes_beq _ _).2 a;rw[this,if_pos a]
  .have:(k==e.key)=false:=by
    cases b:(k==e.key)with
    |false=>rfl
    |true=>exact absurd ((bytes_beq _ _).1 b) a
   simp only[this,if_neg a];exact aeY k es (i+1)
theorem sH:xy (κ:=ByteArray) Tryz.prog 9 Value.string where
 check:=λb k w=>run_checkKey Tryz.underlying9 (by simp[IsKey]) b 9999
 same:=λk=>by simp[Instr.sameBits,bytes_beq]
 find:=λk l w=>run_findKey Tryz.underlying9 (aeY k l 0)
theorem avb(w:World):(zeroValue 162).run Tryz.prog w=.ok (.pointer none) w:=by kernel_rfl
structure Fe where
 name:ByteArray
 born:Nat
 fb:Nat
 bv:Value
 b:List UInt8
 synced:Nat
def Fe.aB(f:Fe):aD ByteArray:=⟨f.name,.pointer (some ⟨f.fb,0,none⟩),f.born⟩
structure avc(B:Nat)(w:World)(f:Fe):Prop where
 cell:w.heap[f.fb]?=some (.cells #[f.bv,.int .i64 f.synced] 165 (0,0))
 row:aI B w f.bv f.b
 base:B<=f.fb
 sync:f.synced<=f.b.length
structure bX(B:Nat)(w:World)(p r:Nat)(size used born:Int)(fs:List Fe):Prop where
 self:w.heap[p]?=some (.cells #[.int .i64 size,.int .i64 used,.int .i64 born,.map (some r)] 125 (0,0))
 map:∃clock,MapAt w r Value.string (fs.map Fe.aB) clock/\∀f∈fs,f.born<clock
 names:(fs.map Fe.name).Nodup
 uj:(fs.map Fe.born).Nodup
 uk:(fs.map Fe.fb).Nodup
 rows:∀f∈fs,∀g∈fs,∀b,f.bv.ownBlock=some b->g.bv.ownBlock=some b->f.name=g.name
 files:∀f∈fs,avc B w f
 base:B<=p/\B<=r/\B<=w.heap.size
def dH(p r:Nat)(fs:List Fe)(b:Nat):Prop:=b=p\/b=r\/∃f∈fs,b=f.fb\/f.bv.ownBlock=some b
structure Sep(F:Nat->Prop)(w w':World)(F':Nat->Prop):Prop where
 os:w'.os=w.os
 tape:w'.tape=w.tape
 output:w'.output=w.output
 size:w.heap.size<=w'.heap.size
 out:∀b,b<w.heap.size->¬F b->w'.heap[b]?=w.heap[b]?
 foot:∀b,F' b->F b\/w.heap.size<=b
theorem Sep.refl(F:Nat->Prop)(w:World):Sep F w w F:=⟨rfl,rfl,rfl,aw _,λ_ _ _=>rfl,λ_ a=>.inl a⟩
theorem Sep.trans{c:Nat->Prop}{w w' d:World}(a:Sep F w w' F')(k:Sep F' w' d c):Sep F w d c:=
 ⟨k.os.trans a.os,k.tape.trans a.tape,k.output.trans a.output,aJ a.size k.size,λb d e=>by
  have f:¬F' b:=λc=>by
   rcases a.foot b c with c|c
   .exact e c
   .omega
  rw[k.out b (bF d a.size) f,a.out b d e],λb d=>by
  rcases k.foot b d with c|c
  .exact a.foot b c
  .exact .inr (aJ a.size c)⟩
theorem Sep.bO{w w':World}(a:Grow w w'):Sep F w w' F:=
 ⟨a.os,a.tape,a.output,a.size,λb c _=>a.block b c,λ_ a=>.inl a⟩
theorem Sep.free{w w':World}(a:Sep F w w' F')(c:b<w.heap.size)(d:¬F b):w'.heap[b]?=w.heap[b]?/\b<w'.heap.size/\¬F' b:=
 ⟨a.out b c d,bF c a.size,λc=>by
  rcases a.foot b c with a|a
  .exact d a
  .omega⟩
theorem Sep.below{w w':World}{B:Nat}(a:Sep F w w' F')(c:∀b,F b->B<=b)(d:B<=w.heap.size):Below B w w':=
 ⟨a.os,a.tape,a.output,a.size,λb d=>a.out b (by omega) (λa=>by have:=c b a;omega)⟩
section
variable{B:Nat}{w w':World}{p r:Nat}{size used born:Int}{fs:List Fe}
theorem bX.Wn(a:bX B w p r size used born fs)(d:dH p r fs b):B<=b/\b<w.heap.size:=by
 obtain⟨c,b,_⟩:=a.map;rcases d with rfl|rfl|⟨f,hf,rfl|hr⟩
 .exact⟨a.base.1,af a.self⟩
 .exact⟨a.base.2.1,af b⟩
 .exact⟨(a.files f hf).base,af (a.files f hf).cell⟩
 .exact(a.files f hf).row.lt hr
theorem bX.apart(d:bX B w p r size used born fs)(a:w.heap[b]?=some (.cells arr t f))(e:t≠125)(f:t≠165)(g:t≠5):¬dH p r fs b:=by
 obtain⟨c,h,_⟩:=d.map;rintro(rfl|rfl|⟨b,c,rfl|i⟩)
 .rw[d.self]at a;cases a;exact e rfl
 .rw[h]at a;cases a
 .rw[(d.files b c).cell]at a;cases a;exact f rfl
 .exact(d.files b c).row.apart a g i
theorem bX.grow(a:bX B w p r size used born fs)(b:Grow w w'):bX B w' p r size used born fs:=by obtain⟨c,d,e⟩:=a.map;exact⟨b.heap a.self,⟨c,b.heap d,e⟩,a.names,a.uj,a.uk,a.rows,λf c=>⟨b.heap (a.files f c).cell,(a.files f c).row.grow b,(a.files f c).base,(a.files f c).sync⟩,a.base.1,a.base.2.1,aJ a.base.2.2 b.size⟩
def fileOf(n:ByteArray)(fs:List Fe):Option Fe:=fs.find? (λf=>decide (n=f.name))
def oO(n:ByteArray)(fs:List Fe):Value:=match fileOf n fs with|none=>.pointer none|some f=>.pointer (some ⟨f.fb,0,none⟩)
theorem um{n:ByteArray}{f:Fe}(a:fileOf n fs=some f):f∈fs/\f.name=n:=by have:=List.find?_some a;exact⟨List.mem_of_find?_eq_some a,by simpa using(by simpa using this:n=f.name).symm⟩
theorem DU{n:ByteArray}(a:fileOf n fs=none):∀f∈fs,n≠f.name:=λf b=>by have:=List.find?_eq_none.1 a f b;simpa using this
theorem avd(n:ByteArray)(fs:List Fe):DD n (.pointer none) (fs.map Fe.aB)=oO n fs:=by
 unfold DD oO fileOf
 induction fs with
 |nil=>rfl
 |cons f fs b=>
  simp only[cr,List.find?_cons];by_cases a:n=f.name
  .simp[Fe.aB,a]
  .have c:n≠f.aB.key:=a;simp only[a,c,decide_false];exact b
theorem bX.lookup(a:bX B w p r size used born fs)(n:ByteArray):(Instr.lookup 123 (.map (some r)) (.string n) false).run Tryz.prog w=.ok (oO n fs) w:=by obtain⟨c,b,_⟩:=a.map;rw[aeb sH Tryz.underlying123 (avb w) b n,avd]
theorem bX.cells(a:bX B w p r size used born fs):w.cell? ⟨p,0,none⟩=some (.int .i64 size)/\w.cell? ⟨p,1,none⟩=some (.int .i64 used)/\w.cell? ⟨p,2,none⟩=some (.int .i64 born)/\w.cell? ⟨p,3,none⟩=some (.map (some r)):=by simp[World.cell?,a.self]
end
end
end Go.Proofs.YtoolkdapflaeeaaGreatDoor
namespace Go.Proofs.YtoolkdapflaeeaaGreatDoor
open Go.RowKit Go.Gl Go.aF
theorem ave(size:Int)(w:World)(a:1<=size)(a:size<=1073741824):
  Calls Tryz.prog 20 #[.int .i64 size] w λe w'=>e=.returned (.tuple #[.pointer (some ⟨w.heap.size+1,0,none⟩),.int .i64 0])/\bX w.heap.size w' (w.heap.size+1) w.heap.size size 0 0 []/\Grow w w':=by
 have a:=@run_makeMap Tryz.prog;go_enter Tryz.func20,Tryz.ntmps20;go_wp2;go_ret2;refine⟨rfl,⟨?_,⟨0,?_,(λf a=>by cases a)⟩,List.nodup_nil,List.nodup_nil,List.nodup_nil,(λf a=>by cases a),(λf a=>by cases a),by omega,aw _,by simp;omega⟩,by((repeat (first|exact bW _ _|assumption|refine cC ?_|refine cD ?_|refine cw ?_ ?_ _|refine cB ?_ ?_ _))<;>try (first|omega|(simp<;>omega)))⟩
 .have:=ax (w.alloc (.map #[] 0)) (.cells #[.int .i64 size,.int .i64 0,.int .i64 0,.map (some w.heap.size)] 125);simpa using this
 .exact(heap_alloc_old _ _ (by simp)).trans (ax _ _)
def Br(c:UInt8):Bool:=(decide (97<=c.toNat)&&decide (c.toNat<=122))||(decide (48<=c.toNat)&&decide (c.toNat<=57))||decide (c.toNat=45)||decide (c.toNat=46)
def lA(s:ByteArray):Prop:=1<=s.size/\s.size<=64/\∀(i:Nat)(a:i<s.size),Br s[i]=true
def avf(w:World)(s:ByteArray)(a:Value)(b:World):Prop:=∃i:Nat,a=.int .i64 i/\i<=s.size/\b=w
theorem Im{s:ByteArray}(a:lA s)(w:World):Calls Tryz.prog 125 #[.string s] w λe w'=>e=.returned (.bool true)/\w'=w:=by
 obtain⟨b,b,b⟩:=a;have d:=ae b;have c:decide ((s.size:Int)<1)=false:=by simp;omega
 have c:decide ((64:Int)<(s.size:Int))=false:=by simp;omega
 clear b;go_enter Tryz.func125,Tryz.ntmps125
 go_wp2_with fail
 go_loopw [15] (λb c=>avf w s b c) (λb _=>s.size-(intOf b).toNat)
 case atStart=>exact⟨0,rfl,aY _,rfl⟩
 case round=>
  obtain⟨i,rfl,b,b⟩:=hrel;have c:=b.symm;subst c;clear b;by_cases b:i<s.size
  .have c:(i:Int)<(s.size:Int):=by omega
   have c:(0:Int)<=(i:Int):=by omega
   have c:IntKind.i64.wrap ((i:Int)+1)=(i:Int)+1:=aQ _ (by omega);have c:=d.out i b;have d:(97<=s[i].toNat/\s[i].toNat<=122)\/(48<=s[i].toNat/\s[i].toNat<=57)\/s[i].toNat=45\/s[i].toNat=46:=by
    simp only[Br,Bool.or_eq_true,Bool.and_eq_true,decide_eq_true_eq]at c;rcases c with((a|a)|a)|a
    .exact .inl a
    .exact .inr (.inl a)
    .exact .inr (.inr (.inl a))
    .exact .inr (.inr (.inr a))
   clear c
   go_upto_region 7 with fail
   generalize s[i].toNat=k at*;rcases d with a|a|a|a
   .have c:=ae a
    have d:decide ((97:Int)<=(k:Int))=true:=by simp;omega
    have e:decide ((k:Int)<=122)=true:=by simp;omega
    clear a;go_wp2;go_roundw
    case rel=>exact⟨i+1,by simp,b,rfl⟩
    case measure=>simp[intOf];omega
   .have c:=ae a
    have d:decide ((97:Int)<=(k:Int))=false:=by simp;omega
    have e:decide ((48:Int)<=(k:Int))=true:=by simp;omega
    have f:decide ((k:Int)<=57)=true:=by simp;omega
    clear a;go_wp2;go_roundw
    case rel=>exact⟨i+1,by simp,b,rfl⟩
    case measure=>simp[intOf];omega
   .have c:=ae a
    have d:decide ((97:Int)<=(k:Int))=false:=by simp;omega
    have e:decide ((48:Int)<=(k:Int))=false:=by simp;omega
    have f:((k:Int)==45)=true:=by simp;omega
    clear a;go_wp2;go_roundw
    case rel=>exact⟨i+1,by simp,b,rfl⟩
    case measure=>simp[intOf];omega
   .have c:=ae a
    have d:decide ((97:Int)<=(k:Int))=false:=by simp;omega
    have e:decide ((48:Int)<=(k:Int))=false:=by simp;omega
    have f:((k:Int)==45)=false:=by simp;omega
    have c:((k:Int)==46)=true:=by simp;omega
    clear a;go_wp2;go_roundw
    case rel=>exact⟨i+1,by simp,b,rfl⟩
    case measure=>simp[intOf];omega
  .obtain rfl:i=s.size:=by omega
   go_wp2;go_ret;exact⟨rfl,rfl⟩
theorem aeZ{size:Int}{fs:List Fe}(c:bX B w p r size used born fs)(n:ByteArray)(g:∀f∈fs,f.b.length<=140737488355328):
  Calls Tryz.prog 34 #[.pointer (some ⟨p,0,none⟩),.string n] w λe w'=>
   (match fileOf n fs with
    |none=>e=.returned (.tuple #[.slice none 0 0,.int .i64 4])
    |some f=>∃v,e=.returned (.tuple #[v,.int .i64 0])/\aI w.heap.size w' v f.b)/\Grow w w':=by
 have b:=c.lookup n;obtain⟨a,a,a,a⟩:=c.cells;have a:=af c.self;cases a:fileOf n fs with
 |none=>simp only[oO,a]at b;have d:=ae a;clear a;go_enter Tryz.func34,Tryz.ntmps34;go_wp2;go_ret2;exact⟨rfl,aW _⟩
 |some f=>
  simp only[oO,a]at b;obtain⟨d,b⟩:=um a;have b:=c.files f d;have c:=xG (cE b.row) (g f d);obtain⟨g,h,d⟩:=b.row.slice;have i:w.cell? ⟨f.fb,0,none⟩=some (.slice g (dT f.b).length h):=by simp[World.cell?,b.cell,d]
  have f:=af b.cell;rw[d]at c;have f:=ae c;clear c a b d;go_enter Tryz.func34,Tryz.ntmps34
  go_wp2_with fail
  (with_reducible refine f.out.mono ?_);rintro e w1 ⟨a,rfl,a,b⟩;go_wp2;go_ret2;exact⟨⟨_,rfl,a⟩,b⟩
section
abbrev Vw:=List (ByteArray×List UInt8×Nat)
def vw(fs:List Fe):Vw:=fs.map λf=>(f.name,f.b,f.synced)
section
variable{B:Nat}{w w':World}{p r:Nat}{size used born:Int}{fs:List Fe}
theorem QJ(h:(fs.map Fe.name).Nodup){a b:Fe}(ha:a∈fs)(e:b∈fs)(c:a.name=b.name):a=b:=by
 induction fs with
 |nil=>cases ha
 |cons x fs f=>
  simp only[cr,List.nodup_cons,aV,not_exists,not_and]at h;rcases bI.1 ha with rfl|d<;>rcases bI.1 e with rfl|e
  .rfl
  .exact absurd c.symm (h.1 b e)
  .exact absurd c (h.1 a d)
  .exact f h.2 d e
theorem Wo(h:(fs.map Fe.fb).Nodup){a b:Fe}(ha:a∈fs)(e:b∈fs)(c:a.fb=b.fb):a=b:=by
 induction fs with
 |nil=>cases ha
 |cons x fs f=>
  simp only[cr,List.nodup_cons,aV,not_exists,not_and]at h;rcases bI.1 ha with rfl|d<;>rcases bI.1 e with rfl|e
  .rfl
  .exact absurd c.symm (h.1 b e)
  .exact absurd c (h.1 a d)
  .exact f h.2 d e
theorem bX.DV(a:bX B w p r size used born fs):p≠r:=by obtain⟨c,b,_⟩:=a.map;rintro rfl;rw[MapAt,a.self]at b;cases b
theorem bX.Bu(b:bX B w p r size used born fs){f:Fe}(d:f∈fs):f.fb≠p/\f.fb≠r:=by
 obtain⟨c,e,_⟩:=b.map;have a:=(b.files f d).cell;constructor
 .intro c;rw[c,b.self]at a;simp at a
 .intro c;rw[c,e]at a;cases a
theorem bX.vP(d:bX B w p r size used born fs){f:Fe}(e:f∈fs)(h:f.bv.ownBlock=some b):b≠p/\b≠r/\∀g∈fs,b≠g.fb:=by
 obtain⟨c,c,_⟩:=d.map;obtain⟨a,a⟩:=(d.files f e).row.block h;refine⟨λb=>?_,λb=>?_,λg e b=>?_⟩
 .rw[b,d.self]at a;cases a
 .rw[b,c]at a;cases a
 .rw[b,(d.files g e).cell]at a;cases a
theorem bX.Io(a:bX B w p r size used born fs)(d:Int):bX B (w.setCell ⟨p,1,none⟩ (.int .i64 d)) p r size d born fs/\Sep (dH p r fs) w (w.setCell ⟨p,1,none⟩ (.int .i64 d)) (dH p r fs):=by
 obtain⟨c,g,h⟩:=a.map;have e:∀b,b≠p->(w.setCell ⟨p,1,none⟩ (.int .i64 d)).heap[b]?=w.heap[b]?:=λb d=>aN _ _ _ _ d
 refine⟨⟨aK a.self 1 _,⟨c,(e r (Ne.symm a.DV)).trans g,h⟩,a.names,a.uj,a.uk,a.rows,λf g=>?_,a.base.1,a.base.2.1,by simpa using a.base.2.2⟩,⟨rfl,rfl,rfl,by simp,λb _ c=>e b (λh=>c (.inl h)),λb d=>.inl d⟩⟩;have c:=a.files f g;exact⟨(e _ (a.Bu g).1).trans c.cell,c.row.keep (λb d=>e b (a.vP g d).1),c.base,c.sync⟩
theorem bX.afa(h:bX B w p r size used born fs){n:ByteArray}(hn:fileOf n fs=none)(hm:MapAt w r Value.string (fs.map Fe.aB) c)(k:∀f∈fs,f.born<c):
  bX B (dp (w.alloc (.cells #[.slice none 0 0,.int .i64 0] 165)) r (.map (((fs.map Fe.aB)++[(⟨n,.pointer (some ⟨w.heap.size,0,none⟩),c⟩:aD ByteArray)]).map (aD.raw Value.string)).toArray (c+1))) p r size used born (fs++[⟨n,c,w.heap.size,.slice none 0 0,[],0⟩])/\
  Sep (dH p r fs) w (dp (w.alloc (.cells #[.slice none 0 0,.int .i64 0] 165)) r (.map (((fs.map Fe.aB)++[(⟨n,.pointer (some ⟨w.heap.size,0,none⟩),c⟩:aD ByteArray)]).map (aD.raw Value.string)).toArray (c+1))) (dH p r (fs++[⟨n,c,w.heap.size,.slice none 0 0,[],0⟩])):=by
 have a:=af hm;have l:=DU hn;generalize i:dp (w.alloc (.cells #[.slice none 0 0,.int .i64 0] 165)) r (.map (((fs.map Fe.aB)++[(⟨n,.pointer (some ⟨w.heap.size,0,none⟩),c⟩:aD ByteArray)]).map (aD.raw Value.string)).toArray (c+1))=w2;have j:∀b,b<w.heap.size->b≠r->w2.heap[b]?=w.heap[b]?:=λb a d=>by rw[<-i,zu d];exact heap_alloc_old _ _ a
 have d:MapAt w2 r Value.string ((fs++[(⟨n,c,w.heap.size,.slice none 0 0,[],0⟩:Fe)]).map Fe.aB) (c+1):=by rw[<-i];unfold MapAt;rw[zt (by simp;omega)];simp[Fe.aB]
 have m:w2.heap[w.heap.size]?=some (.cells #[.slice none 0 0,.int .i64 0] 165 (0,0)):=by rw[<-i,zu (by omega)];exact ax _ _
 have n:w2.heap.size=w.heap.size+1:=by rw[<-i];simp[dp]
 refine⟨⟨(j p (af h.self) h.DV).trans h.self,⟨c+1,d,λf d=>?_⟩,?_,?_,?_,?_,?_,h.base.1,h.base.2.1,by have:=h.base.2.2;omega⟩,⟨by rw[<-i];rfl,by rw[<-i];rfl,by rw[<-i];rfl,by omega,λb a c=>j b a (λe=>c (.inr (.inl e))),?_⟩⟩
 .rcases dn.1 d with c|c
  .have:=k f c;omega
  .obtain rfl:=cZ.1 c;simp
 .rw[dS];refine List.nodup_append.2 ⟨h.names,by simp,λe ha b a=>?_⟩;simp only[cr,List.map_nil,cZ]at a;subst a;obtain⟨f,d,rfl⟩:=aV.1 ha;exact Ne.symm (l f d)
 .rw[dS];refine List.nodup_append.2 ⟨h.uj,by simp,λe ha b a=>?_⟩;simp only[cr,List.map_nil,cZ]at a;subst a;obtain⟨f,d,rfl⟩:=aV.1 ha;have:=k f d;omega
 .rw[dS];refine List.nodup_append.2 ⟨h.uk,by simp,λe ha b a=>?_⟩;simp only[cr,List.map_nil,cZ]at a;subst a;obtain⟨f,d,rfl⟩:=aV.1 ha;have:=af (h.files f d).cell;omega
 .intro f d g hg b i k
  rcases dn.1 d with c|c
  .rcases dn.1 hg with e|e
   .exact h.rows f c g e b i k
   .obtain rfl:=cZ.1 e;cases k
  .obtain rfl:=cZ.1 c;cases i
 .intro f d
  rcases dn.1 d with c|c
  .have e:=h.files f c;exact⟨(j _ (af e.cell) (h.Bu c).2).trans e.cell,e.row.keep (λb a=>j b (e.row.lt a).2 (h.vP c a).2.1),e.base,e.sync⟩
  .obtain rfl:=cZ.1 c;exact⟨m,oM _ _ _,h.base.2.2,aw _⟩
 .rintro b (rfl|rfl|⟨f,d,a⟩)
  .exact .inl (.inl rfl)
  .exact .inl (.inr (.inl rfl))
  .rcases dn.1 d with c|c
   .exact .inl (.inr (.inr ⟨f,c,a⟩))
   .obtain rfl:=cZ.1 c
    rcases a with rfl|a
    .exact .inr (aw _)
    .cases a
def kC(n:ByteArray)(v:Value)(x:List UInt8)(s:Nat)(fs:List Fe):List Fe:=fs.map λa=>if a.name=n then{a with bv:=v,b:=x,synced:=s}else a
theorem Lm{n:ByteArray}{g:Fe}(b:g∈kC n v x s fs):∃a∈fs,g.name=a.name/\g.fb=a.fb/\g.born=a.born/\((a.name=n/\g.bv=v/\g.b=x/\g.synced=s)\/(a.name≠n/\g=a)):=by
 obtain⟨a,c,rfl⟩:=aV.1 b;refine⟨a,c,?_⟩;by_cases b:a.name=n
 .rw[if_pos b];exact⟨rfl,rfl,rfl,.inl ⟨b,rfl,rfl,rfl⟩⟩
 .rw[if_neg b];exact⟨rfl,rfl,rfl,.inr ⟨b,rfl⟩⟩
theorem avg(n:ByteArray)(v:Value)(x:List UInt8)(s:Nat)(fs:List Fe):(kC n v x s fs).map Fe.aB=fs.map Fe.aB:=by
 unfold kC;rw[fh];refine jf λa _=>?_
 simp only[Function.comp]
 split<;>rfl
theorem avh(n:ByteArray)(v:Value)(x:List UInt8)(s:Nat)(fs:List Fe):(kC n v x s fs).map Fe.name=fs.map Fe.name:=by
 unfold kC;rw[fh];refine jf λa _=>?_
 simp only[Function.comp]
 split<;>rfl
theorem avi(n:ByteArray)(v:Value)(x:List UInt8)(s:Nat)(fs:List Fe):(kC n v x s fs).map Fe.born=fs.map Fe.born:=by
 unfold kC;rw[fh];refine jf λa _=>?_
 simp only[Function.comp]
 split<;>rfl
theorem avj(n:ByteArray)(v:Value)(x:List UInt8)(s:Nat)(fs:List Fe):(kC n v x s fs).map Fe.fb=fs.map Fe.fb:=by
 unfold kC;rw[fh];refine jf λa _=>?_
 simp only[Function.comp]
 split<;>rfl
theorem bX.put(h:bX B w p r size used born fs){f:Fe}(hf:f∈fs)(hrow:aI B w1 v x)(hgr:w.grownBy w1 f.bv.ownBlock)(hown:∀b,v.ownBlock=some b->f.bv.ownBlock=some b\/w.heap.size<=b)(h2:w2.heap[f.fb]?=some (.cells #[v,.int .i64 s] 165 (0,0)))(uq:w1.grownBy w2 (some f.fb))(hs:s<=x.length):
  bX B w2 p r size used born (kC f.name v x s fs)/\Sep (dH p r fs) w w2 (dH p r (kC f.name v x s fs)):=by
 obtain⟨c,hm,hc⟩:=h.map;have ho:∀b,b<w.heap.size->f.bv.ownBlock≠some b->b≠f.fb->w2.heap[b]?=w.heap[b]?:=λb hb h1 h3=>by rw[uq.block b (bF hb hgr.size) (λe=>h3 (bh e)),hgr.block b hb (λe=>h1 e.symm)]
 have avk:f.bv.ownBlock≠some p:=λe=>(h.vP hf e).1 rfl
 have avl:f.bv.ownBlock≠some r:=λe=>(h.vP hf e).2.1 rfl
 have kf:∀b,v.ownBlock=some b->b≠f.fb:=λb hb e=>by
  rcases hown b hb with h1|h1
  .exact(h.vP hf h1).2.2 f hf e
  .have:=af (h.files f hf).cell;omega
 have hsz:w.heap.size<=w2.heap.size:=aJ hgr.size uq.size;refine⟨⟨(ho p (af h.self) avk (Ne.symm (h.Bu hf).1)).trans h.self,⟨c,by rw[avg];exact(ho r (af hm) avl (Ne.symm (h.Bu hf).2)).trans hm,λg hg=>?_⟩,by rw[avh];exact h.names,by rw[avi];exact h.uj,by rw[avj];exact h.uk,?_,?_,h.base.1,h.base.2.1,aJ h.base.2.2 hsz⟩,
  ⟨uq.os.trans hgr.os,uq.tape.trans hgr.tape,uq.output.trans hgr.output,hsz,λb hb hn=>ho b hb (λe=>hn (.inr (.inr ⟨f,hf,.inr e⟩))) (λe=>hn (.inr (.inr ⟨f,hf,.inl e⟩))),?_⟩⟩
 .obtain⟨g0,h0,_,_,hb,_⟩:=Lm hg;rw[hb];exact hc g0 h0
 .intro g hg g' fj b hb1 hb2
  obtain⟨g0,h0,iQ,Ln,_,hc0⟩:=Lm hg;obtain⟨g1,h1,jk,aKP,_,hc1⟩:=Lm fj;rw[iQ,jk];rcases hc0 with⟨e0,hv0,_,_⟩|⟨e0,rfl⟩<;>rcases hc1 with⟨e1,hv1,_,_⟩|⟨e1,rfl⟩
  .rw[e0,e1]
  .exfalso
   rw[hv0]at hb1;rcases hown b hb1 with h3|h3
   .exact e1 (h.rows g' h1 f hf b hb2 h3)
   .have:=((h.files g' h1).row.lt hb2).2;omega
  .exfalso
   rw[hv1]at hb2;rcases hown b hb2 with h3|h3
   .exact e0 (h.rows g h0 f hf b hb1 h3)
   .have:=((h.files g h0).row.lt hb1).2;omega
  .exact h.rows g h0 g' h1 b hb1 hb2
 .intro g hg
  obtain⟨g0,h0,iQ,Ln,_,hc0⟩:=Lm hg;rcases hc0 with⟨e0,hv0,hb0,hs0⟩|⟨e0,rfl⟩
  .have jq:g0=f:=QJ h.names h0 hf e0;subst jq;refine⟨by rw[Ln,hv0,hs0];exact h2,?_,by rw[Ln];exact(h.files g0 h0).base,by rw[hs0,hb0];exact hs⟩;rw[hv0,hb0];exact hrow.keep (λb hb=>uq.block b (hrow.lt hb).2 (λe=>kf b hb (bh e)))
  .have bE:=h.files g h0
   have hne:∀b,g.bv.ownBlock=some b->f.bv.ownBlock≠some b:=λb hb e=>e0 (h.rows g h0 f hf b hb e)
   have avm:g.fb≠f.fb:=λe=>e0 (by rw[Wo h.uk h0 hf e])
   exact⟨(ho _ (af bE.cell) (λe=>(h.vP hf e).2.2 g h0 rfl) avm).trans bE.cell,bE.row.keep (λb hb=>ho b (bE.row.lt hb).2 (hne b hb) ((h.vP h0 hb).2.2 f hf)),bE.base,bE.sync⟩
 .rintro b (rfl|rfl|⟨g,hg,hb⟩)
  .exact .inl (.inl rfl)
  .exact .inl (.inr (.inl rfl))
  .obtain⟨g0,h0,iQ,Ln,_,hc0⟩:=Lm hg
   rcases hb with rfl|hb
   .exact .inl (.inr (.inr ⟨g0,h0,.inl Ln⟩))
   .rcases hc0 with⟨e0,hv0,_,_⟩|⟨e0,rfl⟩
    .rw[hv0]at hb
     rcases hown b hb with h3|h3
     .exact .inl (.inr (.inr ⟨f,hf,.inr h3⟩))
     .exact .inr h3
    .exact .inl (.inr (.inr ⟨g,h0,.inr hb⟩))
end
end
theorem Bv.keep(a:Bv w v l)(d:w.heap.size<=w'.heap.size)(d:∀(b:Nat)(arr:Array Value)(t:TypeId)(f:Nat×Nat),w.heap[b]?=some (.cells arr t f)->w'.heap[b]?=w.heap[b]?):Bv w' v l:=by
 obtain⟨e,c,g,h,i,l,a⟩:=a;refine⟨e,c,g,h,i,l,?_⟩;rcases a with a|⟨b,o,ha,hb,hc⟩
 .exact .inl a
 .refine .inr ⟨b,o,ha,by omega,λj k c=>?_⟩
  have a:=hc j k c;have:w'.heap[b]?=w.heap[b]?:=by
   unfold World.cell? at a
   split at a
   .rename_i arr t f c
    exact d b _ _ _ c
   .cases a
  rw[<-a];simp only[World.cell?,this]
def ur(n:ByteArray)(x:List UInt8)(V:Vw):Vw:=if V.any (λa=>decide (a.1=n))=true then V.map (λa=>if a.1=n then(a.1,a.2.1++x,a.2.2)else a)else V++[(n,x,0)]
theorem avn{fs:List Fe}(c:(fs.map Fe.name).Nodup){f:Fe}(a:f∈fs)(v:Value)(x:List UInt8):vw (kC f.name v (f.b++x) f.synced fs)=ur f.name x (vw fs):=by
 unfold ur;have b:(vw fs).any (λd=>decide (d.1=f.name))=true:=List.any_eq_true.2 ⟨_,aV.2 ⟨f,a,rfl⟩,by simp⟩;rw[if_pos b];unfold vw kC;rw[fh,fh];refine jf λd e=>?_
 simp only[Function.comp];by_cases b:d.name=f.name
 .have:=QJ c e a b;subst this;simp
 .simp[b]
theorem avp{fs:List Fe}{n:ByteArray}(a:fileOf n fs=none)(c b:Nat)(v:Value)(x:List UInt8):vw (fs++[(⟨n,c,b,v,x,0⟩:Fe)])=ur n x (vw fs):=by
 unfold ur;rw[if_neg]
 .simp[vw]
 .intro b;obtain⟨c,c,d⟩:=List.any_eq_true.1 b;obtain⟨f,b,rfl⟩:=aV.1 c;exact DU a f b (by simpa using d:f.name=n).symm
def Lp(B:Nat)(w:World)(p r:Nat)(size used born:Int)(fs:List Fe)(n:ByteArray)(x:List UInt8)(e:Ending)(w':World):Prop:=
 e=.returned (.int .i64 0)/\∃a,bX B w' p r size (used+x.length) born a/\Sep (dH p r fs) w w' (dH p r a)/\vw a=ur n x (vw fs)
theorem avq{size:Int}{fs:List Fe}(h:bX B w p r size used born fs){n:ByteArray}{f:Fe}(gh:fileOf n fs=some f)(hn:lA n)(hq:w.heap[qb]?=some (.cells #[pv] 49 (0,0)))(hx:Bv w pv x)(hu:0<=used)(hroom:used+x.length<=size)(hsz:size<=1073741824)(eF:f.b.length<=1073741824):
  Calls Tryz.prog 78 #[.pointer (some ⟨p,0,none⟩),.string n,.slice (some ⟨qb,0,none⟩) 1 1] w (Lp B w p r size used born fs n x):=by
 obtain⟨c0,c1,c2,c3⟩:=h.cells;have lp:=af h.self;have p0:w.cell? ⟨qb,0,none⟩=some pv:=by simp[World.cell?,hq]
 have lq:=af hq;obtain⟨xa,xc,rfl⟩:=hx.slice;have afc:¬size<used+(x.length:Int):=by omega
 have Wp:decide (size<used+(x.length:Int))=false:=by simpa using hroom
 have bT:IntKind.i64.wrap (used+(x.length:Int))=used+(x.length:Int):=aQ _ (by omega);have H:=ae h;have Hx:=ae hx;have mO:=ae gh;have Hq:=ae hq;have aU:=Grow.cells (w:=w);clear h hx gh hq;go_enter Tryz.func78,Tryz.ntmps78
 go_wp2_with fail
 refine wp_loop_rounds 2 ?_;rw[rounds_succ]
 go_wp2_with fail
 rw[rounds_succ]
 go_wp2_with ((with_reducible refine(Im hn _).mono ?_);rintro e w1 ⟨rfl,hw⟩;have hw':=hw.symm;subst hw';clear hw)
 refine cN (λW=>Below w.heap.size w W) [] (by kernel_rfl) (bB λ_ _ _ _ _ h=>h) (ay _) ?_;simp only[ct]
 repeat ((first|(apply az;rfl;rintro W hW;go_simp;with_reducible rfl)|(apply aA;rfl));simp only[ah,List.set])
 refine bg ?_;have hgd:Grow w w.drew:=ay w;have h1:=H.out.grow hgd;have hx1:=Hx.out.grow hgd;have Bz:=ae (hgd.heap Hq.out);clear c0 c1 c2 c3 lp p0 lq aU;have hd:w.drew=w.drew:=rfl;generalize Lq:w.drew=w1 at*;clear hd;have hlk:=h1.lookup n;obtain⟨c0,c1,c2,c3⟩:=h1.cells;have lp:=af h1.self;obtain⟨hm,fM⟩:=um mO.out;simp only[oO,mO.out]at hlk;have bE:=h1.files f hm;have p0:w1.cell? ⟨qb,0,none⟩=some (.slice xa x.length xc):=by simp[World.cell?,Bz.out]
 have lq:=af Bz.out;obtain⟨v',w2,r1,r2,r3,r4⟩:=rB bE.row hx1 h1.base.2.2 (by omega);obtain⟨xE,xF,rfl⟩:=r2.slice;obtain⟨ba,bc,bD⟩:=bE.row.slice;have q0:w1.cell? ⟨f.fb,0,none⟩=some (.slice ba (dT f.b).length bc):=by simp[World.cell?,bE.cell,bD]
 have lf:=af bE.cell;have avr:f.bv.ownBlock≠some f.fb:=λe=>(h1.vP hm e).2.2 f hm rfl
 have Lr:w2.heap[f.fb]?=some (.cells #[f.bv,.int .i64 f.synced] 165 (0,0)):=by rw[r3.block _ lf (λe=>avr e.symm)];exact bE.cell
 have hput:=h1.put hm (w2:=w2.setCell ⟨f.fb,0,none⟩ (.slice xE (dT (f.b++x)).length xF)) (s:=f.synced) r2 r3 (λb hb=>by
  rcases r4 with h3|h3
  .exact .inl (h3 ▸ hb)
  .rw[h3]at hb;cases hb;exact .inr (aw _)) (aK Lr 0 _) (jB _ _ _ _) (by have:=bE.sync;simp;omega)
 obtain⟨cS,hs2⟩:=hput;obtain⟨gA,hs3⟩:=cS.Io (used+x.length);have ib:Hid (Lp B w p r size used born fs n x (.returned (.int .i64 0)) ((w2.setCell ⟨f.fb,0,none⟩ (.slice xE (dT (f.b++x)).length xF)).setCell ⟨p,1,none⟩ (.int .i64 (used+x.length)))):=ae ⟨rfl,_,gA,((Sep.bO hgd).trans hs2).trans hs3,by rw[avn H.out.names hm,fM]⟩;obtain⟨e0,e1,e2,e3⟩:=cS.cells;have l2:=af Lr;have Ls:=af cS.self;have f2:=bG Lr;have z0:w2.cell? ⟨f.fb,0,none⟩=some f.bv:=by simp[World.cell?,Lr]
 have f3:=bG cS.self;rw[bD]at r1;have cU:=ae r1;clear r1 r2 r3 r4 cS hs2 gA hs3 Lr bE bD h1 hx1 hm fM Lq hgd
 go_wp2_with fail
 refine wp_loop_rounds 2 ?_;rw[rounds_succ]
 go_wp2_with (at_builtin;refine fP rfl rfl rfl rfl cU.out ?_)
 rw[rounds_succ];go_wp2;go_ret;exact ib.out
theorem avs{size:Int}{fs:List Fe}(a:bX B w p r size used born fs){n:ByteArray}(e:fileOf n fs=none)(i:lA n)(c:w.heap[qb]?=some (.cells #[pv] 49 (0,0)))(d:Bv w pv x)(g:0<=used)(h:used+x.length<=size)(g:size<=1073741824):
  Calls Tryz.prog 78 #[.pointer (some ⟨p,0,none⟩),.string n,.slice (some ⟨qb,0,none⟩) 1 1] w (Lp B w p r size used born fs n x):=by
 obtain⟨m,o,q,k⟩:=a.cells;have g:=af a.self;have z:w.cell? ⟨qb,0,none⟩=some pv:=by simp[World.cell?,c]
 have A:=af c;obtain⟨G,H,rfl⟩:=d.slice;have j:¬size<used+(x.length:Int):=by omega
 have j:decide (size<used+(x.length:Int))=false:=by simpa using h
 have h:IntKind.i64.wrap (used+(x.length:Int))=used+(x.length:Int):=aQ _ (by omega);have l:=ae a;have u:=ae d;have h:=ae e;have v:=ae c;have y:=Grow.cells (w:=w);clear a d e c;go_enter Tryz.func78,Tryz.ntmps78
 go_wp2_with fail
 refine wp_loop_rounds 2 ?_;rw[rounds_succ]
 go_wp2_with fail
 rw[rounds_succ]
 go_wp2_with ((with_reducible refine(Im i _).mono ?_);rintro i w1 ⟨rfl,c⟩;have d:=c.symm;subst d;clear c)
 refine cN (λc=>Below w.heap.size w c) [] (by kernel_rfl) (bB λ_ _ _ _ _ a=>a) (ay _) ?_;simp only[ct]
 repeat ((first|(apply az;rfl;rintro c a;go_simp;with_reducible rfl)|(apply aA;rfl));simp only[ah,List.set])
 refine bg ?_;have j:Grow w w.drew:=ay w;have a:=l.out.grow j;have C:=u.out.grow j;have u:=ae (j.heap v.out);clear m o q k g z A y;generalize I:w.drew=w1 at*;have D:=a.lookup n;obtain⟨m,o,q,k⟩:=a.cells;have g:=af a.self;simp only[oO,h.out]at D;obtain⟨c,l,E⟩:=a.map;obtain⟨d,F⟩:=a.afa h.out l E;have v:Grow w1 (w1.alloc (.cells #[.slice none 0 0,.int .i64 0] 165)):=ar _ _;have J:=Qw sH Tryz.underlying123 (v.heap l) n (.pointer (some ⟨w1.heap.size,0,none⟩)) (λi e=>by obtain⟨f,y,rfl⟩:=aV.1 e;exact DU h.out f y)
 have K:(w1.alloc (.cells #[.slice none 0 0,.int .i64 0] 165)).cell? ⟨p,3,none⟩=some (.map (some r)):=by rw[World.cell?_alloc_lt _ _ _ g];exact k
 have y:∀(b:Nat)(arr:Array Value)(t:TypeId)(f:Nat×Nat),w1.heap[b]?=some (.cells arr t f)->(dp (w1.alloc (.cells #[.slice none 0 0,.int .i64 0] 165)) r (.map (((fs.map Fe.aB)++[(⟨n,.pointer (some ⟨w1.heap.size,0,none⟩),c⟩:aD ByteArray)]).map (aD.raw Value.string)).toArray (c+1))).heap[b]?=w1.heap[b]?:=λb arr t f e=>by rw[zu (λi=>by rw[i,l]at e;cases e)];exact heap_alloc_old _ _ (af e)
 have t:=C.keep (by simp[dp]) y;have f:=(y _ _ _ _ u.out).trans u.out;have L:=f;clear y;have L:p<(w1.alloc (.cells #[.slice none 0 0,.int .i64 0] 165)).heap.size:=bF g v.size;generalize y:dp (w1.alloc (.cells #[.slice none 0 0,.int .i64 0] 165)) r (.map (((fs.map Fe.aB)++[(⟨n,.pointer (some ⟨w1.heap.size,0,none⟩),c⟩:aD ByteArray)]).map (aD.raw Value.string)).toArray (c+1))=w2 at*;clear y;have M:=ae ((Sep.bO j).trans F);have N:=ae d;have O:=ae t;have y:=ae f;clear l E a C F d t f v I j u
 go_upto_region 15 with fail
 clear J K L m o q k g D;generalize w1.heap.size=a at*;have d:=N.out;have l:(⟨n,c,a,.slice none 0 0,[],0⟩:Fe)∈fs++[(⟨n,c,a,.slice none 0 0,[],0⟩:Fe)]:=by simp
 have m:=d.files _ l;have z:w2.cell? ⟨qb,0,none⟩=some (.slice G x.length H):=by simp[World.cell?,y.out]
 have A:=af y.out;obtain⟨f,j,v,o,q,y⟩:=rB m.row O.out d.base.2.2 (by simp;omega);obtain⟨t,u,rfl⟩:=o.slice;have k:w2.heap[a]?=some (.cells #[.slice none 0 0,.int .i64 0] 165 (0,0)):=m.cell;have f:w2.cell? ⟨a,0,none⟩=some (.slice none 0 0):=by simp[World.cell?,k]
 have g:=af k;have f:j.heap[a]?=some (.cells #[.slice none 0 0,.int .i64 0] 165 (0,0)):=by rw[q.block _ g (λi=>by cases i)];exact k
 obtain⟨g,i⟩:=d.put l (w2:=j.setCell ⟨a,0,none⟩ (.slice t (dT ([]++x)).length u)) (s:=0) o q (λb e=>by
  rcases y with b|b
  .exact .inl (b ▸ e)
  .rw[b]at e;cases e;exact .inr (aw _)) (aK f 0 _) (jB _ _ _ _) (aY _)
 obtain⟨b,e⟩:=g.Io (used+x.length);have s:vw (kC n (.slice t (dT ([]++x)).length u) ([]++x) 0 (fs++[(⟨n,c,a,.slice none 0 0,[],0⟩:Fe)]))=ur n x (vw fs):=by
  rw[<-avp h.out c a (.slice none 0 0) x];unfold vw kC;rw[fh,dS,dS];congr 1
  .refine jf λc z=>?_
   have:c.name≠n:=Ne.symm (DU h.out c z);simp[Function.comp,this]
  .simp
 have c:Hid (Lp B w p r size used born fs n x (.returned (.int .i64 0)) ((j.setCell ⟨a,0,none⟩ (.slice t (dT ([]++x)).length u)).setCell ⟨p,1,none⟩ (.int .i64 (used+x.length)))):=ae ⟨rfl,_,b,(M.out.trans i).trans e,s⟩;generalize h:(dT ([]++x)).length=n at*;obtain⟨n,n,n,n⟩:=g.cells;have n:=af f;have n:=af g.self;have n:=bG f;have n:j.cell? ⟨a,0,none⟩=some (.slice none 0 0):=by simp[World.cell?,f]
 have a:=bG g.self;have a:=ae v;clear v o q y d g i b e f m l k s h
 go_wp2_with fail
 refine wp_loop_rounds 2 ?_;rw[rounds_succ]
 go_wp2_with (at_builtin;refine fP rfl rfl rfl rfl a.out ?_)
 rw[rounds_succ];go_wp2;go_ret;exact c.out
theorem avu{size:Int}{fs:List Fe}(h:bX B w p r size used born fs){n:ByteArray}(gh:fileOf n fs=none)(hn:lA n)(hu:0<=used)(hroom:used<=size)(hsz:size<=1073741824):
  Calls Tryz.prog 78 #[.pointer (some ⟨p,0,none⟩),.string n,.slice none 0 0] w λe w'=>e=.returned (.int .i64 0)/\∃bK,bX B w' p r size used born bK/\Sep (dH p r fs) w w' (dH p r bK)/\vw bK=vw fs++[(n,[],0)]:=by
 obtain⟨c0,c1,c2,c3⟩:=h.cells;have lp:=af h.self;have afc:¬size<used:=by omega
 have Wp:decide (size<used)=false:=by simpa using hroom
 have bT:IntKind.i64.wrap used=used:=aQ _ (by omega);have H:=ae h;have mO:=ae gh;have aU:=Grow.cells (w:=w);clear h gh;go_enter Tryz.func78,Tryz.ntmps78
 go_wp2_with fail
 refine wp_loop_rounds 1 ?_;rw[rounds_succ]
 go_wp2_with ((with_reducible refine(Im hn _).mono ?_);rintro e w1 ⟨rfl,hw⟩;have hw':=hw.symm;subst hw';clear hw)
 refine cN (λW=>Below w.heap.size w W) [] (by kernel_rfl) (bB λ_ _ _ _ _ h=>h) (ay _) ?_;simp only[ct]
 repeat ((first|(apply az;rfl;rintro W hW;go_simp;with_reducible rfl)|(apply aA;rfl));simp only[ah,List.set])
 refine bg ?_;have hgd:Grow w w.drew:=ay w;have h1:=H.out.grow hgd;clear c0 c1 c2 c3 lp aU;generalize Lq:w.drew=w1 at*;have hlk:=h1.lookup n;obtain⟨c0,c1,c2,c3⟩:=h1.cells;have lp:=af h1.self;simp only[oO,mO.out]at hlk;obtain⟨ck,hmap,iT⟩:=h1.map;obtain⟨cS,hs2⟩:=h1.afa mO.out hmap iT;have ai:Grow w1 (w1.alloc (.cells #[.slice none 0 0,.int .i64 0] 165)):=ar _ _;have QK:=Qw sH Tryz.underlying123 (ai.heap hmap) n (.pointer (some ⟨w1.heap.size,0,none⟩)) (λe he=>by obtain⟨f,hf,rfl⟩:=aV.1 he;exact DU mO.out f hf)
 have afd:(w1.alloc (.cells #[.slice none 0 0,.int .i64 0] 165)).cell? ⟨p,3,none⟩=some (.map (some r)):=by rw[World.cell?_alloc_lt _ _ _ lp];exact c3
 have lp1:p<(w1.alloc (.cells #[.slice none 0 0,.int .i64 0] 165)).heap.size:=bF lp ai.size;generalize Wq:dp (w1.alloc (.cells #[.slice none 0 0,.int .i64 0] 165)) r (.map (((fs.map Fe.aB)++[(⟨n,.pointer (some ⟨w1.heap.size,0,none⟩),ck⟩:aD ByteArray)]).map (aD.raw Value.string)).toArray (ck+1))=w2 at*;clear Wq;obtain⟨kD,kE⟩:=cS.Io used;obtain⟨e0,e1,e2,e3⟩:=cS.cells;have Ls:=af cS.self;have f3:=bG cS.self;have ib:Hid (∃bK,bX B (w2.setCell ⟨p,1,none⟩ (.int .i64 used)) p r size used born bK/\Sep (dH p r fs) w (w2.setCell ⟨p,1,none⟩ (.int .i64 used)) (dH p r bK)/\vw bK=vw fs++[(n,[],0)]):=ae ⟨_,kD,((Sep.bO hgd).trans hs2).trans kE,by simp[vw]⟩;clear hmap iT h1 hs2 cS ai Lq hgd kD kE
 go_wp2_with fail
 refine wp_loop_rounds 1 ?_;rw[rounds_succ];go_wp2;go_ret;exact⟨rfl,ib.out⟩
theorem avv{size:Int}{fs:List Fe}(a:bX B w p r size used born fs)(n:ByteArray){b:Nat}(c:w.heap[b]?=some (.cells #[.pointer (some ⟨p,0,none⟩)] 40 (0,0))):
  Calls Tryz.prog 163 #[.string n,.pointer (some ⟨b,0,none⟩)] w λe w'=>e=.returned (.bool (fileOf n fs).isNone)/\w'=w:=by
 have d:=a.lookup n;obtain⟨e,e,e,e⟩:=a.cells;have e:=af a.self;have a:w.cell? ⟨b,0,none⟩=some (.pointer (some ⟨p,0,none⟩)):=by simp[World.cell?,c]
 have a:=af c;cases a:fileOf n fs with
 |none=>simp only[oO,a]at d;clear a;go_enter Tryz.func163,Tryz.ntmps163;go_wp2;go_ret;exact⟨rfl,rfl⟩
 |some f=>simp only[oO,a]at d;clear a;go_enter Tryz.func163,Tryz.ntmps163;go_wp2;go_ret;exact⟨rfl,rfl⟩
theorem afg{w:World}{n:ByteArray}(c:w.heap[qb]?=some (.cells #[.string n] 9 (0,0))){fn:FuncId}{a:Value}{b:Bool}(d:∃F,Tryz.prog.funcs[fn]?=some F/\F.params.size=1)(d:Calls Tryz.prog fn #[.string n,a] w λe w'=>e=.returned (.bool b)/\w'=w)(f:∀args w,(callFunc fn args).run Tryz.prog w=.ok (.enter fn args) w):
  Calls Tryz.prog 69 #[.slice (some ⟨qb,0,none⟩) 1 1,.func (.func fn) #[] #[a]] w λe w'=>e=.returned (.bool b)/\w'=w:=by
 have f:w.cell? ⟨qb,0,none⟩=some (.string n):=by simp[World.cell?,c]
 have f:=af c;have g:Calls Tryz.prog 120 #[.slice (some ⟨qb,0,none⟩) 1 1,.func (.func fn) #[] #[a]] w λe w'=>e=.returned (.int .i64 (if b then 0 else -1))/\w'=w:=by
  have a:=ae d;clear d c;go_enter Tryz.func120,Tryz.ntmps120
  go_wp2_with fail
  refine wp_loop_rounds 2 ?_;rw[rounds_succ]
  go_wp2_with fail
  (with_reducible refine a.out.mono ?_);rintro e w1 ⟨rfl,a⟩;have f:=a.symm;subst f;clear a;cases b with
  |true=>go_wp2;go_ret;exact⟨rfl,rfl⟩
  |false=>
   go_wp2_with fail
   rw[rounds_succ];go_wp2;go_ret;exact⟨rfl,rfl⟩
 have h:=ae g;clear g d c;go_enter Tryz.func69,Tryz.ntmps69
 go_wp2_with fail
 (with_reducible refine h.out.mono ?_);rintro e w1 ⟨rfl,a⟩;have f:=a.symm;subst f;clear a;cases b<;>(go_wp2;go_ret;exact⟨rfl,rfl⟩)
theorem Wt{size:Int}{fs:List Fe}(d:bX B w p r size used born fs)(n:ByteArray)(f:w.heap[qb]?=some (.cells #[.string n] 9 (0,0))):
  Calls Tryz.prog 113 #[.pointer (some ⟨p,0,none⟩),.slice (some ⟨qb,0,none⟩) 1 1] w λe w'=>e=.returned (.bool (fileOf n fs).isSome)/\Grow w w':=by
 have a:Grow w (w.alloc (.cells #[.pointer (some ⟨p,0,none⟩)] 40)):=ar _ _;have b:=ax w (.cells #[.pointer (some ⟨p,0,none⟩)] 40);have c:=afg (a.heap f) (fn:=163) ⟨_,Tryz.func163,by kernel_rfl⟩ (avv (d.grow a) n b) (enters_of Tryz.func163 (by kernel_rfl) rfl);have d:=ae c;have f:=ae a;clear c a b;go_enter Tryz.func113,Tryz.ntmps113
 go_wp2_with fail
 (with_reducible refine d.out.mono ?_);rintro e w1 ⟨rfl,a⟩;subst a;cases a:fileOf n fs<;>(have b:=ae a;clear a;go_wp2;go_ret;exact⟨by rw[b.out];rfl,f.out⟩)
def uv(n:ByteArray)(V:Vw):Vw:=V.map (λa=>if a.1=n then(a.1,a.2.1,a.2.1.length)else a)
theorem avx{fs:List Fe}(b:(fs.map Fe.name).Nodup){f:Fe}(c:f∈fs):vw (kC f.name f.bv f.b f.b.length fs)=uv f.name (vw fs):=by
 unfold uv vw kC;rw[fh,fh];refine jf λd e=>?_
 simp only[Function.comp];by_cases a:d.name=f.name
 .have:=QJ b e c a;subst this;simp
 .simp[a]
theorem avy{size:Int}{fs:List Fe}(h:bX B w p r size used born fs){n:ByteArray}{f:Fe}(c:fileOf n fs=some f)(d:w.heap[qb]?=some (.cells #[.string n] 9 (0,0)))(_hfl:f.b.length<=1073741824):
  Calls Tryz.prog 83 #[.pointer (some ⟨p,0,none⟩),.slice (some ⟨qb,0,none⟩) 1 1] w λe w'=>e=.returned (.int .i64 0)/\∃a,bX B w' p r size used born a/\Sep (dH p r fs) w w' (dH p r a)/\vw a=uv n (vw fs):=by
 have g:=Wt h n d;rw[c]at g;have j:=ae g;have q:=ae h;have i:=ae c;have l:=ae d;clear g h c d;go_enter Tryz.func83,Tryz.ntmps83
 go_wp2_with fail
 (with_reducible refine j.out.mono ?_);rintro e w1 ⟨rfl,j⟩;have d:=q.out.grow j;have k:=j.heap l.out;have c:w1.cell? ⟨qb,0,none⟩=some (.string n):=by simp[World.cell?,k]
 have c:=af k;have c:(Option.some f).isSome=true:=rfl
 go_wp2_with fail
 refine wp_loop_rounds 2 ?_;rw[rounds_succ]
 go_upto_region 6 with fail
 obtain⟨e,t⟩:=um i.out;have y:∀c,Below w1.heap.size w1 c->(Instr.lookup 123 (.map (some r)) (.string n) false).run Tryz.prog c=.ok (.pointer (some ⟨f.fb,0,none⟩)) c:=λc u=>by have:=(d.grow u).lookup n;simpa only[oO,i.out]using this
 obtain⟨z,A,C,g⟩:=d.cells;have g:=af d.self;have g:=d.files f e;obtain⟨i,l,v⟩:=g.row.slice;have D:w1.cell? ⟨f.fb,0,none⟩=some (.slice i (dT f.b).length l):=by simp[World.cell?,g.cell,v]
 have i:w1.cell? ⟨f.fb,1,none⟩=some (.int .i64 f.synced):=by simp[World.cell?,g.cell]
 have i:=af g.cell;have i:=bG g.cell;have E:=Grow.cells (w:=w1);have l:Grow w1 w1.drew:=ay w1;have i:=d.grow l;have x:aI B w1.drew f.bv f.b:=(i.files f e).row;obtain⟨m,o⟩:=i.put e (w1:=w1.drew) (w2:=w1.drew.setCell ⟨f.fb,1,none⟩ (.int .i64 f.b.length)) (s:=f.b.length) x ⟨rfl,rfl,rfl,aw _,λ_ _ _=>rfl⟩ (λb b=>.inl b) (aK (i.files f e).cell 1 _) (jB _ _ _ _) (aw _);have b:=avx q.out.names e;rw[t]at b m o;have q:Hid (∃a,bX B (w1.drew.setCell ⟨f.fb,1,none⟩ (.int .i64 f.b.length)) p r size used born a/\Sep (dH p r fs) w (w1.drew.setCell ⟨f.fb,1,none⟩ (.int .i64 f.b.length)) (dH p r a)/\vw a=uv n (vw fs)):=ae ⟨_,m,(Sep.bO (j.trans l)).trans o,b⟩;have a:(dT f.b).length=f.b.length:=jX _;rw[a]at D;clear m o b x i l g v d e t a k z A C;refine ue (λc=>Below w1.heap.size w1 c) [(0,false),(1,false),(2,false),(3,false),(4,false),(5,false),(6,false),(7,false),(8,false),(9,false),(10,false),(11,false),(12,false),(13,false),(14,false),(15,false),(16,false),(17,false)] 18 (by kernel_rfl) (by kernel_rfl) (bB λ_ _ _ _ _ h=>h) (ay _) ?_;simp only[cm,nth]
 repeat ((first|(apply az;rfl;rintro c u;go_simp;with_reducible rfl)|(apply aA;rfl));simp only[ah,List.set])
 refine bg ?_;refine uf (by rfl) (λb a=>?_);go_simp;refine a _ _ ?_;clear a b y E
 try simp only[ah,List.set,aC]
 go_wp2_with fail
 rw[rounds_succ];go_wp2;go_ret;exact⟨rfl,q.out⟩
section
def kF(n:ByteArray)(V:Vw):Vw:=V.filter (λa=>decide (n≠a.1))
def qH(n:ByteArray)(fs:List Fe):List Fe:=fs.filter (λf=>decide (n≠f.name))
theorem Wu(n:ByteArray)(fs:List Fe):vw (qH n fs)=kF n (vw fs):=by unfold vw qH kF;rw[List.filter_map];rfl
theorem afh(n:ByteArray)(fs:List Fe):(qH n fs).map Fe.aB=(fs.map Fe.aB).filter (λe=>decide (n≠e.key)):=by unfold qH;rw[List.filter_map];rfl
section
variable{B:Nat}{w:World}{p r:Nat}{size used born:Int}{fs:List Fe}
theorem bX.del(a:bX B w p r size used born fs)(n:ByteArray){c:Nat}(d:MapAt w r Value.string (fs.map Fe.aB) c)(j:∀f∈fs,f.born<c):
  bX B (dp w r (.map (((fs.map Fe.aB).filter (λe=>decide (n≠e.key))).map (aD.raw Value.string)).toArray c)) p r size used born (qH n fs)/\
  Sep (dH p r fs) w (dp w r (.map (((fs.map Fe.aB).filter (λe=>decide (n≠e.key))).map (aD.raw Value.string)).toArray c)) (dH p r (qH n fs)):=by
 have g:=af d;rw[<-afh];generalize h:dp w r (.map (((qH n fs).map Fe.aB).map (aD.raw Value.string)).toArray c)=w2;have i:∀b,b≠r->w2.heap[b]?=w.heap[b]?:=λb d=>by rw[<-h,zu d]
 have k:MapAt w2 r Value.string ((qH n fs).map Fe.aB) c:=by rw[<-h];unfold MapAt;rw[zt g]
 have l:w2.heap.size=w.heap.size:=by rw[<-h];simp[dp]
 have g:∀f∈qH n fs,f∈fs:=λf d=>(List.mem_filter.1 d).1
 refine⟨⟨(i p a.DV).trans a.self,⟨c,k,λf d=>j f (g f d)⟩,a.names.sublist (List.filter_sublist.map _),a.uj.sublist (List.filter_sublist.map _),a.uk.sublist (List.filter_sublist.map _),λf d c j=>a.rows f (g f d) c (g c j),λf d=>?_,a.base.1,a.base.2.1,by rw[l];exact a.base.2.2⟩,⟨by rw[<-h];rfl,by rw[<-h];rfl,by rw[<-h];rfl,by omega,λb _ c=>i b (λe=>c (.inr (.inl e))),?_⟩⟩
 .have c:=a.files f (g f d);exact⟨(i _ (a.Bu (g f d)).2).trans c.cell,c.row.keep (λb e=>i b (a.vP (g f d) e).2.1),c.base,c.sync⟩
 .rintro b (rfl|rfl|⟨f,d,e⟩)
  .exact .inl (.inl rfl)
  .exact .inl (.inr (.inl rfl))
  .exact .inl (.inr (.inr ⟨f,g f d,e⟩))
end
theorem avz{B:Nat}{w:World}{p r:Nat}{size used born:Int}{fs:List Fe}(b:bX B w p r size used born fs){n:ByteArray}(c:fileOf n fs=none)(d:w.heap[qb]?=some (.cells #[.string n] 9 (0,0))):
  Calls Tryz.prog 64 #[.pointer (some ⟨p,0,none⟩),.slice (some ⟨qb,0,none⟩) 1 1] w λe w'=>e=.returned (.int .i64 4)/\Grow w w':=by
 have a:=Wt b n d;rw[c]at a;have f:=ae a;clear a b c d;go_enter Tryz.func64,Tryz.ntmps64
 go_wp2_with fail
 (with_reducible refine f.out.mono ?_);rintro e w1 ⟨rfl,a⟩;have b:(none:Option Fe).isSome=false:=rfl;go_wp2;go_ret;exact⟨rfl,a⟩
theorem avA{B:Nat}{w:World}{p r:Nat}{size used born:Int}{fs:List Fe}(d:bX B w p r size used born fs){n:ByteArray}{f:Fe}(b:fileOf n fs=some f)(c:w.heap[qb]?=some (.cells #[.string n] 9 (0,0)))(a:f.b.length<=1073741824)(a:0<=used)(a:used<=1073741824):
  Calls Tryz.prog 64 #[.pointer (some ⟨p,0,none⟩),.slice (some ⟨qb,0,none⟩) 1 1] w λe w'=>e=.returned (.int .i64 0)/\∃a,bX B w' p r size (used-f.b.length) born a/\Sep (dH p r fs) w w' (dH p r a)/\vw a=kF n (vw fs):=by
 have g:=Wt d n c;rw[b]at g;have i:=ae g;have j:=ae d;have h:=ae b;have k:=ae c;clear g d b c;go_enter Tryz.func64,Tryz.ntmps64
 go_wp2_with fail
 (with_reducible refine i.out.mono ?_);rintro e w1 ⟨rfl,i⟩;have b:=j.out.grow i;have j:=i.heap k.out;have c:w1.cell? ⟨qb,0,none⟩=some (.string n):=by simp[World.cell?,j]
 have c:=af j;have c:(Option.some f).isSome=true:=rfl;obtain⟨o,y⟩:=um h.out;have c:(Instr.lookup 123 (.map (some r)) (.string n) false).run Tryz.prog w1=.ok (.pointer (some ⟨f.fb,0,none⟩)) w1:=by have:=b.lookup n;simpa only[oO,h.out]using this
 obtain⟨z,c,A,c⟩:=b.cells;have c:=af b.self;have g:=b.files f o;obtain⟨c,h,q⟩:=g.row.slice;have k:w1.cell? ⟨f.fb,0,none⟩=some (.slice c f.b.length h):=by simp[World.cell?,g.cell,q,jX]
 have c:=af g.cell;have c:=bG b.self;have C:=Grow.cells (w:=w1);have k:Grow w1 w1.drew:=ay w1;have c:IntKind.i64.wrap (used-(f.b.length:Int))=used-(f.b.length:Int):=aQ _ (by omega);obtain⟨l,m⟩:=(b.grow k).Io (used-f.b.length);obtain⟨w2,h⟩:∃x,x=(w1.setCell ⟨p,1,none⟩ (.int .i64 (used-f.b.length))).drew:=⟨_,rfl⟩
 have c:bX B w2 p r size (used-f.b.length) born fs:=by rw[h];exact l
 have s:Sep (dH p r fs) w1.drew w2 (dH p r fs):=by rw[h];exact m
 clear l m;obtain⟨l,m,t⟩:=c.map;obtain⟨u,v⟩:=c.del n m t;have x:=Qx (ty:=0) (kt':=9) sH Tryz.underlying123 m (by have:=c.names;rw[fh];exact this) n;obtain⟨x,x,x,x⟩:=c.cells;have x:=af c.self;have x:Hid (∃a,bX B (dp w2 r (.map (((fs.map Fe.aB).filter (λe=>decide (n≠e.key))).map (aD.raw Value.string)).toArray l)) p r size (used-f.b.length) born a/\Sep (dH p r fs) w (dp w2 r (.map (((fs.map Fe.aB).filter (λe=>decide (n≠e.key))).map (aD.raw Value.string)).toArray l)) (dH p r a)/\vw a=kF n (vw fs)):=ae ⟨_,u,((Sep.bO (i.trans k)).trans s).trans v,Wu n fs⟩;generalize a:dp w2 r (.map (((fs.map Fe.aB).filter (λe=>decide (n≠e.key))).map (aD.raw Value.string)).toArray l)=e at*;have e:=ae h;clear h a c s u v m t k g q b o y j z A
 go_wp2_with fail
 refine wp_loop_rounds 2 ?_;rw[rounds_succ]
 go_upto_region 8 with fail
 refine ue (λa=>Below w1.heap.size w1 a) [(0,false),(1,false),(2,false),(3,false),(4,false),(5,false),(6,false),(7,false),(8,false),(9,false),(10,false),(11,false)] 12 (by kernel_rfl) (by kernel_rfl) (bB λ_ _ _ _ _ d=>d) (ay _) ?_;simp only[cm,nth]
 repeat ((first|(apply az;rfl;rintro a a;go_simp;with_reducible rfl)|(apply aA;rfl));simp only[ah,List.set])
 refine bg ?_;refine uf (by rfl) (λb a=>?_);go_simp;refine a _ ((w1.setCell ⟨p,1,none⟩ (.int .i64 (used-f.b.length))).drew) ?_;clear a b C
 try simp only[ah,List.set,aC]
 rw[<-e.out]
 go_wp2_with fail
 rw[rounds_succ];go_wp2;go_ret;exact⟨rfl,x.out⟩
end
section
def kG(m n:ByteArray)(f:Fe)(fs:List Fe):List Fe:=(qH m fs).map λa=>if a.name=n then{a with fb:=f.fb,bv:=f.bv,b:=f.b,synced:=f.synced}else a
def vR(m n:ByteArray)(b:List UInt8)(s:Nat)(V:Vw):Vw:=(kF m V).map λa=>if a.1=n then(a.1,b,s)else a
theorem avB(m n:ByteArray)(f:Fe)(fs:List Fe):vw (kG m n f fs)=vR m n f.b f.synced (vw fs):=by
 unfold vR;rw[<-Wu];unfold kG vw;rw[fh,fh];refine jf λb _=>?_
 simp only[Function.comp];by_cases a:b.name=n
 .simp[a]
 .simp[a]
theorem avC(m n:ByteArray)(f:Fe)(fs:List Fe)(_hmn:m≠n):(kG m n f fs).map Fe.aB=((nB n (.pointer (some ⟨f.fb,0,none⟩)) (fs.map Fe.aB)).filter (λe=>decide (m≠e.key))):=by
 unfold kG qH nB;rw[fh,fh,List.filter_map];have:((λe:aD ByteArray=>decide (m≠e.key))∘(λe:aD ByteArray=>if n=e.key then{e with val:=.pointer (some ⟨f.fb,0,none⟩)}else e)∘Fe.aB)=(λa:Fe=>decide (m≠a.name)):=by
  have b:∀e:aD ByteArray,(if n=e.key then{e with val:=.pointer (some ⟨f.fb,0,none⟩)}else e).key=e.key:=λe=>by split<;>rfl
  funext a
  simp only[Function.comp,b];rfl
 rw[this];refine jf λa _=>?_
 simp only[Function.comp];by_cases b:a.name=n
 .have c:n=a.aB.key:=b.symm;rw[if_pos b,if_pos c];rfl
 .have c:¬n=a.aB.key:=Ne.symm b;rw[if_neg b,if_neg c]
theorem Ww{m n:ByteArray}{f:Fe}{fs:List Fe}{g:Fe}(b:g∈kG m n f fs):∃a∈fs,a.name≠m/\g.name=a.name/\g.born=a.born/\((a.name=n/\g.fb=f.fb/\g.bv=f.bv/\g.b=f.b/\g.synced=f.synced)\/(a.name≠n/\g=a)):=by
 obtain⟨a,c,rfl⟩:=aV.1 b;obtain⟨b,d⟩:=List.mem_filter.1 c;refine⟨a,b,λb=>by simp[b]at d,?_⟩;by_cases b:a.name=n
 .rw[if_pos b];exact⟨rfl,rfl,.inl ⟨b,rfl,rfl,rfl,rfl⟩⟩
 .rw[if_neg b];exact⟨rfl,rfl,.inr ⟨b,rfl⟩⟩
section
variable{B:Nat}{w:World}{p r:Nat}{size used born:Int}{fs:List Fe}
theorem bX.ren(e:bX B w p r size used born fs){m n:ByteArray}{f:Fe}(A:f∈fs)(s:f.name=m)(_hmn:m≠n)(a:MapAt w r Value.string (fs.map Fe.aB) c)(C:∀f∈fs,f.born<c):
  bX B (dp w r (.map (((kG m n f fs).map Fe.aB).map (aD.raw Value.string)).toArray c)) p r size used born (kG m n f fs)/\
  Sep (dH p r fs) w (dp w r (.map (((kG m n f fs).map Fe.aB).map (aD.raw Value.string)).toArray c)) (dH p r (kG m n f fs)):=by
 have d:=af a;generalize i:dp w r (.map (((kG m n f fs).map Fe.aB).map (aD.raw Value.string)).toArray c)=w2;have t:∀b,b≠r->w2.heap[b]?=w.heap[b]?:=λb a=>by rw[<-i,zu a]
 have B:MapAt w2 r Value.string ((kG m n f fs).map Fe.aB) c:=by rw[<-i];unfold MapAt;rw[zt d]
 have D:w2.heap.size=w.heap.size:=by rw[<-i];simp[dp]
 have d:(kG m n f fs).map Fe.name=(qH m fs).map Fe.name:=by
  unfold kG;rw[fh];refine jf λa _=>?_
  simp only[Function.comp]
  split<;>rfl
 have E:(kG m n f fs).map Fe.born=(qH m fs).map Fe.born:=by
  unfold kG;rw[fh];refine jf λa _=>?_
  simp only[Function.comp]
  split<;>rfl
 have y:((kG m n f fs).map Fe.name).Nodup:=by rw[d];exact e.names.sublist (List.filter_sublist.map _)
 have o:∀a∈kG m n f fs,∃d∈fs,a.fb=d.fb/\a.bv=d.bv/\a.b=d.b/\a.synced=d.synced/\(a.name=n/\d=f\/a.name≠n/\d=a):=by
  intro a h;obtain⟨d,g,z,k,_,l⟩:=Ww h;rcases l with⟨j,q,r,u,v⟩|⟨j,rfl⟩
  .exact⟨f,A,q,r,u,v,.inl ⟨by rw[k,j],rfl⟩⟩
  .exact⟨a,g,rfl,rfl,rfl,rfl,.inr ⟨j,rfl⟩⟩
 have w:∀a∈kG m n f fs,a.name≠n->a.name≠m/\a∈fs:=by
  intro a h f;obtain⟨d,g,z,k,_,l⟩:=Ww h;rcases l with⟨j,_⟩|⟨j,rfl⟩
  .exact absurd (k.trans j) f
  .exact⟨z,g⟩
 refine⟨⟨(t p e.DV).trans e.self,⟨c,B,λa h=>?_⟩,y,by rw[E];exact e.uj.sublist (List.filter_sublist.map _),?_,?_,λa h=>?_,e.base.1,e.base.2.1,by rw[D];exact e.base.2.2⟩,⟨by rw[<-i];rfl,by rw[<-i];rfl,by rw[<-i];rfl,by omega,λb _ c=>t b (λf=>c (.inr (.inl f))),?_⟩⟩
 .obtain⟨d,g,_,_,c,_⟩:=Ww h;rw[c];exact C d g
 .refine List.pairwise_map.2 ?_
  refine(List.pairwise_map.1 y).imp_of_mem λ{m b} n c F=>?_
  intro f;obtain⟨p,y,z,_,_,_,A⟩:=o m n;obtain⟨B,C,D,_,_,_,E⟩:=o b c;have j:p=B:=Wo e.uk y C (by rw[<-z,<-D,f]);rcases A with⟨k,f⟩|⟨k,f⟩<;>rcases E with⟨l,i⟩|⟨l,i⟩
  .exact F (k.trans l.symm)
  .exact(w b c l).1 (by rw[<-i,<-j,f,s])
  .exact(w m n k).1 (by rw[<-f,j,i,s])
  .exact F (by rw[<-f,<-i,j])
 .intro m n b c x F G
  obtain⟨p,y,_,z,_,_,A⟩:=o m n;obtain⟨B,C,_,D,_,_,E⟩:=o b c;have j:=e.rows p y B C x (by rw[<-z];exact F) (by rw[<-D];exact G);rcases A with⟨k,f⟩|⟨k,f⟩<;>rcases E with⟨l,i⟩|⟨l,i⟩
  .exact k.trans l.symm
  .exact absurd (by rw[<-i,<-j,f,s]) (w b c l).1
  .exact absurd (by rw[<-f,j,i,s]) (w m n k).1
  .rw[<-f,<-i];exact j
 .obtain⟨d,g,q,r,u,v,_⟩:=o a h;have f:=e.files d g;exact⟨by rw[q,r,v];exact(t _ (e.Bu g).2).trans f.cell,by rw[r,u];exact f.row.keep (λb c=>t b (e.vP g c).2.1),by rw[q];exact f.base,by rw[u,v];exact f.sync⟩
 .rintro b (rfl|rfl|⟨a,h,c⟩)
  .exact .inl (.inl rfl)
  .exact .inl (.inr (.inl rfl))
  .obtain⟨d,g,q,r,_,_,_⟩:=o a h;rw[q,r]at c;exact .inl (.inr (.inr ⟨d,g,c⟩))
end
end
theorem avF{size:Int}{fs:List Fe}(h:bX B w p r size used born fs){m n:ByteArray}{f g:Fe}(gh:fileOf m fs=some f)(hgo:fileOf n fs=some g)(fU:m≠n)(hn:lA n)(lX:g.b.length<=1073741824)(hu:0<=used)(Lu:used<=1073741824):
  Calls Tryz.prog 153 #[.pointer (some ⟨p,0,none⟩),.string m,.string n] w λe w'=>e=.returned (.int .i64 0)/\∃bK,bX B w' p r size (used-g.b.length) born bK/\Sep (dH p r fs) w w' (dH p r bK)/\vw bK=vR m n f.b f.synced (vw fs):=by
 have H:=ae h;obtain⟨hm,lC⟩:=um gh;obtain⟨Ir,jE⟩:=um hgo;have avG:(Instr.lookup 123 (.map (some r)) (.string m) false).run Tryz.prog w=.ok (.pointer (some ⟨f.fb,0,none⟩)) w:=by have:=h.lookup m;simpa only[oO,gh]using this
 have avH:(Instr.lookup 123 (.map (some r)) (.string n) false).run Tryz.prog w=.ok (.pointer (some ⟨g.fb,0,none⟩)) w:=by have:=h.lookup n;simpa only[oO,hgo]using this
 obtain⟨c0,c1,c2,c3⟩:=h.cells;have lp:=af h.self;have ai:=h.files g Ir;obtain⟨ba,bc,bD⟩:=ai.row.slice;have z0:w.cell? ⟨g.fb,0,none⟩=some (.slice ba g.b.length bc):=by simp[World.cell?,ai.cell,bD,jX]
 have lg:=af ai.cell;have ff:=bG h.self;have aU:=Grow.cells (w:=w);have hgd:Grow w w.drew:=ay w;have bT:IntKind.i64.wrap (used-(g.b.length:Int))=used-(g.b.length:Int):=aQ _ (by omega);obtain⟨Lv,Lx⟩:=(h.grow hgd).Io (used-g.b.length);obtain⟨w2,hw2⟩:∃x,x=(w.setCell ⟨p,1,none⟩ (.int .i64 (used-g.b.length))).drew:=⟨_,rfl⟩
 have cS:bX B w2 p r size (used-g.b.length) born fs:=by rw[hw2];exact Lv
 have hs2:Sep (dH p r fs) w.drew w2 (dH p r fs):=by rw[hw2];exact Lx
 clear Lv Lx;obtain⟨ck,hmap,iT⟩:=cS.map;have uw:((fs.map Fe.aB).map aD.key).Nodup:=by have:=cS.names;rw[fh];exact this
 have QK:=aec sH Tryz.underlying123 hmap uw n (.pointer (some ⟨f.fb,0,none⟩)) ⟨g.aB,aV.2 ⟨g,Ir,rfl⟩,jE.symm⟩;have LA:MapAt (dp w2 r (.map ((nB n (.pointer (some ⟨f.fb,0,none⟩)) (fs.map Fe.aB)).map (aD.raw Value.string)).toArray ck)) r Value.string (nB n (.pointer (some ⟨f.fb,0,none⟩)) (fs.map Fe.aB)) ck:=by unfold MapAt;rw[zt (af hmap)]
 have LB:((nB n (.pointer (some ⟨f.fb,0,none⟩)) (fs.map Fe.aB)).map aD.key).Nodup:=by
  have:(nB n (.pointer (some ⟨f.fb,0,none⟩)) (fs.map Fe.aB)).map aD.key=(fs.map Fe.aB).map aD.key:=by
   unfold nB;rw[fh];refine jf λe _=>?_
   simp only[Function.comp]
   split<;>rfl
  rw[this];exact uw
 have hdel:=Qx (ty:=0) (kt':=9) sH Tryz.underlying123 LA LB m;rw[<-avC m n f fs fU]at hdel;obtain⟨gA,hs3⟩:=cS.ren hm lC fU hmap iT;have xI:dp (dp w2 r (.map ((nB n (.pointer (some ⟨f.fb,0,none⟩)) (fs.map Fe.aB)).map (aD.raw Value.string)).toArray ck)) r (.map (((kG m n f fs).map Fe.aB).map (aD.raw Value.string)).toArray ck)=dp w2 r (.map (((kG m n f fs).map Fe.aB).map (aD.raw Value.string)).toArray ck):=by unfold dp;simp
 rw[xI]at hdel;have zC:(dp w2 r (.map ((nB n (.pointer (some ⟨f.fb,0,none⟩)) (fs.map Fe.aB)).map (aD.raw Value.string)).toArray ck)).heap[p]?=w2.heap[p]?:=zu cS.DV;have e3':(dp w2 r (.map ((nB n (.pointer (some ⟨f.fb,0,none⟩)) (fs.map Fe.aB)).map (aD.raw Value.string)).toArray ck)).cell? ⟨p,3,none⟩=some (.map (some r)):=by simp[World.cell?,zC,cS.self]
 have lp3:=af (zC.trans cS.self);obtain⟨_,_,_,e3⟩:=cS.cells;have Ls:=af cS.self;have ib:Hid (∃bK,bX B (dp w2 r (.map (((kG m n f fs).map Fe.aB).map (aD.raw Value.string)).toArray ck)) p r size (used-g.b.length) born bK/\Sep (dH p r fs) w (dp w2 r (.map (((kG m n f fs).map Fe.aB).map (aD.raw Value.string)).toArray ck)) (dH p r bK)/\vw bK=vR m n f.b f.synced (vw fs)):=ae ⟨_,gA,((Sep.bO hgd).trans hs2).trans hs3,avB m n f fs⟩;generalize hw3:dp w2 r (.map ((nB n (.pointer (some ⟨f.fb,0,none⟩)) (fs.map Fe.aB)).map (aD.raw Value.string)).toArray ck)=w3 at*;generalize hw4:dp w2 r (.map (((kG m n f fs).map Fe.aB).map (aD.raw Value.string)).toArray ck)=w4 at*;have rG:=ae hw2;clear hw2 hw3 hw4 cS hs2 gA hs3 hmap iT hgd ai bD h hm Ir gh hgo lC jE c0 c2 uw LB LA xI zC;have hne:(m==n)=false:=by
  cases hb:(m==n)with
  |false=>rfl
  |true=>exact absurd ((Go.MapKept.bytes_beq _ _).1 hb) fU
 have zD:(m.toList==n.toList)=false:=by
  cases hb:(m.toList==n.toList)with
  |false=>rfl
  |true=>exact absurd (ByteArray.ext (by simpa[jz]using hb)) fU
 go_enter Tryz.func153,Tryz.ntmps153
 go_wp2_with ((with_reducible refine(Im hn _).mono ?_);rintro e w1 ⟨rfl,hw⟩;have hw':=hw.symm;subst hw';clear hw)
 refine ue (λW=>Below w.heap.size w W) [(0,false),(1,false),(2,false),(3,false),(4,false),(5,false),(6,false),(7,false),(8,false),(9,false),(10,false),(11,false)] 12 (by kernel_rfl) (by kernel_rfl) (bB λ_ _ _ _ _ h=>h) (ay _) ?_;simp only[cm,nth]
 repeat ((first|(apply az;rfl;rintro W hW;go_simp;with_reducible rfl)|(apply aA;rfl));simp only[ah,List.set])
 refine bg ?_;refine uf (by rfl) (λK hK=>?_);go_simp;refine hK _ ((w.setCell ⟨p,1,none⟩ (.int .i64 (used-g.b.length))).drew) ?_;clear hK K aU
 try simp only[ah,List.set,aC]
 rw[<-rG.out];go_wp2;go_ret;exact⟨rfl,ib.out⟩
end Go.Proofs.YtoolkdapflaeeaaGreatDoor
namespace Go.Proofs.YtoolkdapflaeeaaGreatDoor
open Go.Shelf
def Tryz.avJ:Go.Shelf.Ren:=⟨λ|190=>71|125=>122|258=>121|128=>176|129=>177|302=>167|303=>168|304=>169|305=>170|306=>171|307=>172|308=>173|309=>174|310=>175|333=>210|329=>211|330=>212|334=>213|335=>214|336=>196|344=>229|n=>n,λ|31=>95|9=>9|3=>3|46=>229|0=>0|51=>247|53=>37|4=>4|183=>278|182=>277|131=>236|5=>5|218=>319|222=>322|228=>336|229=>337|n=>n,λ|n=>n⟩
theorem Tryz.afj:Go.Proofs.Lays.n190 Tryz.prog Tryz.avJ:=by constructor<;>intros<;>kernel_rfl
def Tryz.avK:Go.Shelf.Ren:=⟨λ|99=>46|206=>85|n=>n,λ|9=>9|4=>4|3=>3|n=>n,λ|n=>n⟩
theorem Tryz.LC:Go.Proofs.Lays.n99 Tryz.prog Tryz.avK:=by constructor<;>intros<;>kernel_rfl
def Tryz.avL:Go.Shelf.Ren:=⟨λ|101=>91|208=>141|206=>85|n=>n,λ|9=>9|4=>4|3=>3|n=>n,λ|n=>n⟩
theorem Tryz.avM:Go.Proofs.Lays.n101 Tryz.prog Tryz.avL:=by constructor<;>intros<;>kernel_rfl
def Tryz.avN:Go.Shelf.Ren:=⟨λ|172=>90|244=>139|245=>140|247=>191|279=>192|280=>193|281=>194|282=>195|287=>219|316=>220|171=>123|205=>221|321=>234|322=>235|243=>178|246=>215|283=>230|284=>231|285=>232|286=>233|129=>177|317=>245|318=>246|319=>247|320=>248|337=>252|338=>253|n=>n,λ|9=>9|3=>3|75=>66|76=>186|4=>4|5=>5|167=>297|37=>49|0=>0|85=>298|2=>2|168=>300|53=>37|175=>326|46=>229|210=>330|127=>344|145=>347|143=>345|21=>21|171=>339|173=>341|212=>355|51=>247|20=>20|213=>356|232=>360|233=>361|80=>295|n=>n,λ|15=>0|16=>1|17=>2|18=>3|19=>4|n=>n⟩
theorem Tryz.atoi:Go.Proofs.Lays.n172 Tryz.prog Tryz.avN:=by constructor<;>intros<;>kernel_rfl
def Tryz.afk:Go.Shelf.Ren:=⟨λ|171=>123|243=>178|246=>215|283=>230|284=>231|285=>232|286=>233|129=>177|317=>245|318=>246|319=>247|320=>248|337=>252|338=>253|n=>n,λ|3=>3|9=>9|2=>2|4=>4|171=>339|0=>0|53=>37|37=>49|5=>5|173=>341|212=>355|51=>247|20=>20|213=>356|46=>229|232=>360|233=>361|n=>n,λ|17=>2|18=>3|19=>4|n=>n⟩
theorem Tryz.itoa:Go.Proofs.Lays.n171 Tryz.prog Tryz.afk:=by constructor<;>intros<;>kernel_rfl
def Tryz.avO:Go.Shelf.Ren:=⟨λ|6=>206|15=>122|14=>227|28=>176|29=>177|20=>236|21=>237|22=>238|23=>239|24=>240|25=>241|26=>242|27=>243|46=>249|47=>211|48=>212|49=>250|50=>251|57=>254|n=>n,λ|22=>83|24=>101|25=>316|3=>3|39=>229|0=>0|53=>247|55=>37|4=>4|46=>278|45=>277|50=>236|5=>5|9=>9|66=>319|70=>322|76=>336|77=>337|n=>n,λ|n=>n⟩
theorem Tryz.afl:Go.Proofs.SlLaysF0.n6 Tryz.prog Tryz.avO:=by
 constructor<;>intros<;>try kernel_rfl
 exact⟨Tryz.f206.name,by decide,Tryz.func206.trans (congrArg some (by kernel_rfl))⟩;exact⟨Tryz.f227.name,by decide,Tryz.func227.trans (congrArg some (by kernel_rfl))⟩;exact⟨Tryz.f236.name,by decide,Tryz.func236.trans (congrArg some (by kernel_rfl))⟩;exact⟨Tryz.f237.name,by decide,Tryz.func237.trans (congrArg some (by kernel_rfl))⟩;exact⟨Tryz.f238.name,by decide,Tryz.func238.trans (congrArg some (by kernel_rfl))⟩;exact⟨Tryz.f239.name,by decide,Tryz.func239.trans (congrArg some (by kernel_rfl))⟩;exact⟨Tryz.f240.name,by decide,Tryz.func240.trans (congrArg some (by kernel_rfl))⟩;exact⟨Tryz.f241.name,by decide,Tryz.func241.trans (congrArg some (by kernel_rfl))⟩;exact⟨Tryz.f242.name,by decide,Tryz.func242.trans (congrArg some (by kernel_rfl))⟩;exact⟨Tryz.f243.name,by decide,Tryz.func243.trans (congrArg some (by kernel_rfl))⟩;exact⟨Tryz.f249.name,by decide,Tryz.func249.trans (congrArg some (by kernel_rfl))⟩;exact⟨Tryz.f250.name,by decide,Tryz.func250.trans (congrArg some (by kernel_rfl))⟩;exact⟨Tryz.f251.name,by decide,Tryz.func251.trans (congrArg some (by kernel_rfl))⟩;exact⟨Tryz.f254.name,by decide,Tryz.func254.trans (congrArg some (by kernel_rfl))⟩
def Tryz.avP:Go.Shelf.Ren:=⟨λ|41=>117|n=>n,λ|22=>83|23=>101|4=>4|n=>n,λ|n=>n⟩
theorem Tryz.afm:Go.Proofs.SlLaysE0.n41 Tryz.prog Tryz.avP:=by
 constructor<;>intros<;>try kernel_rfl
 exact⟨Tryz.f117.name,by decide,Tryz.func117.trans (congrArg some (by kernel_rfl))⟩
def Tryz.avQ:Go.Shelf.Ren:=⟨λ|6=>166|n=>n,λ|22=>83|23=>101|25=>225|3=>3|0=>0|4=>4|n=>n,λ|n=>n⟩
theorem Tryz.kh:Go.Proofs.SlLaysH0.n6 Tryz.prog Tryz.avQ:=by
 constructor<;>intros<;>try kernel_rfl
 exact⟨Tryz.f166.name,by decide,Tryz.func166.trans (congrArg some (by kernel_rfl))⟩
def Tryz.avR:Go.Shelf.Ren:=⟨λ|8=>118|6=>166|n=>n,λ|22=>83|23=>101|25=>225|4=>4|3=>3|0=>0|n=>n,λ|n=>n⟩
theorem Tryz.avS:Go.Proofs.SlLaysH0.n8 Tryz.prog Tryz.avR:=by
 constructor<;>intros<;>try kernel_rfl
 exact⟨Tryz.f166.name,by decide,Tryz.func166.trans (congrArg some (by kernel_rfl))⟩;exact⟨Tryz.f118.name,by decide,Tryz.func118.trans (congrArg some (by kernel_rfl))⟩
def Tryz.avT:Go.Shelf.Ren:=⟨λ|31=>204|29=>226|n=>n,λ|22=>24|23=>3|4=>4|3=>3|0=>0|n=>n,λ|n=>n⟩
theorem Tryz.afn:Go.Proofs.SlLaysN.n31 Tryz.prog Tryz.avT:=by
 constructor<;>intros<;>try kernel_rfl
 exact⟨Tryz.f226.name,by decide,Tryz.func226.trans (congrArg some (by kernel_rfl))⟩;exact⟨Tryz.f204.name,by decide,Tryz.func204.trans (congrArg some (by kernel_rfl))⟩
end Go.Proofs.YtoolkdapflaeeaaGreatDoor
namespace Go.Proofs.YtoolkdapflaeeaaGreatDoor
open Go.RowKit Go.Gl Go.aF Go.Sort
def avU:Prop:=∀(w:World)(b d:Nat)(a:List (List UInt8)) (c:Array Value),w.heap[b]?=some (.cells c 9 (0,0))->c.toList.take a.length=a.map encStr->a.length<1000000000->
 Calls Tryz.prog 71 #[.slice (some ⟨b,0,none⟩) a.length d] w λc w'=>c=.returned (.tuple #[])/\∃c d,w'=grow (putRow encStr (Sort.ahead w c) b 0 (a.mergeSort λx a=>decide (x<=a)).toArray) d
def avV:Prop:=∀(w:World),Calls Tryz.prog 71 #[.slice none 0 0] w λa w'=>a=.returned (.tuple #[])/\w'=w
def afo:Prop:=∀(s p:ByteArray)(w:World),Calls Tryz.prog 46 #[.string s,.string p] w λa w'=>a=.returned (.bool (Lib.hasPrefix s.data.toList p.data.toList))/\w'=w
theorem afp:avU:=λw b c d a a e f=>Any.slices_Sort_string Tryz.afj b 0 c d w (holds_of_block a e) (af a) (by omega)
theorem afq:avV:=λw=>Any.slices_Sort_string_none Tryz.afj none 0 w
theorem LC:afo:=λs p w=>Any.strings_HasPrefix Tryz.LC s p w
theorem Wx{κ:Type}:∀{l:List (aD κ)} {x:aD κ},(l.map aD.born).Nodup->x∈l->l.Perm (x::(l.filter λe=>decide (e.born≠x.born)))
 |y::l,x,hn,h=>by
  simp only[cr,List.nodup_cons,aV,not_exists,not_and]at hn;by_cases a:y.born=x.born
  .have b:x=y:=by
    rcases bI.1 h with h|h
    .exact h
    .exact absurd a.symm (hn.1 x h)
   subst b;rw[List.filter_cons_of_neg (by simp)];rw[List.filter_eq_self.2 λe b=>by simpa using λc=>hn.1 e b c]
  .have b:x∈l:=by
    rcases bI.1 h with h|h
    .exact absurd (by rw[h]) a
    .exact h
   rw[List.filter_cons_of_pos (by simpa using a)];exact((Wx hn.2 b).cons y).trans (List.Perm.swap x y _)
def pick(b:ByteArray->Bool)(l:List (aD ByteArray)):List (List UInt8):=(l.filter λa=>b a.key).map λa=>a.key.data.toList
def LD(w:World)(r:Nat)(b:ByteArray->Bool)(l:List (aD ByteArray))(c:Nat)(i:Value)(a:World):Prop:=
 ∃(d:Array Nat)(e:Nat)(done:List (List UInt8)) (f:Option Addr) (g h:Nat),i=.slice f g h/\a.heap[w.heap.size]?=some (.mapIter (some r) c d e)/\c<=e/\a.ownsRow w.heap.size 9 1 (.slice f g h) done.length (done.map encStr)/\(done++pick b (mK d l)).Perm (pick b l)/\Grow w a
theorem afr(s:ByteArray):encStr s.data.toList=.string s:=by obtain⟨a⟩:=s;simp[encStr]
def Wy(w:World)(a:List (List UInt8))(e:Ending)(w':World):Prop:=
 ∃v,e=.returned v/\w'.ownsRow w.heap.size 9 1 v a.length ((a.mergeSort λx a=>decide (x<=a)).map encStr)/\Grow w w'
theorem avW(c:afo)(s p:ByteArray){a:Nat}(b:w.heap[a]?=some (.cells #[.string s] 9 (0,0))):
  Calls Tryz.prog 70 #[.string p,.pointer (some ⟨a,0,none⟩)] w λe w'=>e=.returned (.bool (Lib.hasPrefix s.data.toList p.data.toList))/\w'=w:=by
 have d:w.cell? ⟨a,0,none⟩=some (.string s):=by simp[World.cell?,b]
 have a:=af b;have a:=ae (c s p w);go_enter Tryz.func70,Tryz.ntmps70
 go_wp2_with fail
 (with_reducible refine a.out.mono ?_);rintro e w1 ⟨rfl,a⟩;have b:=a.symm;subst b;clear a;go_wp2;go_ret;exact⟨rfl,rfl⟩
theorem avX{size:Int}{fs:List Fe}(h:bX B w p r size used born fs)(nI:fs.length<1000000000):
  Calls Tryz.prog 33 #[.pointer (some ⟨p,0,none⟩),.slice none 0 0] w (Wy w (pick (λ_=>true) (fs.map Fe.aB))):=by
 obtain⟨c,hm,LF⟩:=h.map;have LG:=run_range_map (P:=Tryz.prog) w 123 9 162 r _ c Tryz.underlying123 hm;obtain⟨c0,c1,c2,c3⟩:=h.cells;have lp:=af h.self;have dB:((fs.map Fe.aB).map aD.born).Nodup:=by rw[fh];exact h.uj
 have hold:∀e∈fs.map Fe.aB,e.born<c:=λe he=>by obtain⟨x,hx,rfl⟩:=aV.1 he;exact LF x hx
 have oP:w.heap.size≠r:=by have:=af hm;omega
 have hlen:(fs.map Fe.aB).length<1000000000:=by simpa using nI
 generalize fs.map Fe.aB=l at*;have Hm:=ae hm;have kH:=ae dB;have iB:=ae hold;clear h LF dB hold hm;go_enter Tryz.func33,Tryz.ntmps33;go_wp2;clear LG
 go_loopw [5] (λlv wr=>LD w r (λ_=>true) l c lv wr) (λ_ wr=>vF r w.heap.size wr)
 case atStart=>refine⟨#[],c,[],none,0,0,rfl,ax w _,aw _,jh _ _ _ _,?_,by((repeat (first|exact bW _ _|assumption|refine cC ?_|refine cD ?_|refine cw ?_ ?_ _|refine cB ?_ ?_ _))<;>try (first|omega|(simp<;>omega)))⟩;rw[show mK #[] l=l from List.filter_eq_self.2 (by simp)];simp
 case round=>
  obtain⟨seen,QM,done,la,ln,lc,rfl,hit,hcc,hown,qI,hg⟩:=hrel;have qJ:MapAt wr r Value.string l c:=hg.heap Hm.out;have ux:=Ie hit qJ;rcases VR (P:=Tryz.prog) (enc:=Value.string) (l:=l) 0 hit qJ iB.out hcc oP kH.out with⟨h1,h2⟩|⟨e,w1,he,hrun,Wz,vT,hgr,hsz⟩
  .rw[h1]at qI
   have Hp:Hid (done.Perm (pick (λ_=>true) l)):=ae (by simpa[pick]using qI);have gw:=ae hown;have Hg:=ae hg;have BB:done.length<1000000000:=by
    have:=Hp.out.length_eq;have h3:(pick (λ_=>true) l).length<=l.length:=by unfold pick;rw[bA];exact List.length_filter_le _ _
    omega
   clear h1 ux qJ hit hown qI hg
   go_wp2_with fail
   have LH:done.mergeSort (λx y=>decide (x<=y))=(pick (λ_=>true) l).mergeSort (λx y=>decide (x<=y)):=mergeSort_of_perm Hp.out;have hrow:=gw.out;rcases hrow.2 with⟨e1,e2⟩|⟨g,cap,cur,e1,ji,e2,e3,e4,e5,e6⟩
   .cases e1;have hd:done=[]:=je e2;subst hd;have zE:Calls Tryz.prog 71 #[.slice none 0 0] wr _:=afq wr;(with_reducible refine zE.mono ?_);rintro e w' ⟨rfl,rfl⟩;go_wp2;go_ret;refine⟨_,rfl,?_,Hg.out⟩;rw[<-LH,<-Hp.out.length_eq,List.mergeSort_nil];exact jh _ _ _ _
   .cases e1
    have hS:=afp wr g lc done cur e2 (by simpa using e6) BB;have cP:Hid (∀n os,(grow (putRow encStr (Sort.ahead wr n) g 0 (done.mergeSort λx y=>decide (x<=y)).toArray) os).ownsRow w.heap.size 9 1 (.slice (some ⟨g,0,none⟩) done.length lc) done.length ((done.mergeSort λx y=>decide (x<=y)).map encStr)):=ae (λn os=>ownsRow_sorted (List.length_mergeSort _) ji e2 e3 e4 e5);have HS:=ae hS;have WA:=ae ji;clear hrow e2 ji e3 e4 e5 e6 hS;(with_reducible refine HS.out.mono ?_);rintro e w' ⟨rfl,nn,os,hw'⟩;have LI:=ae hw';clear hw';go_wp2;go_ret;refine⟨_,rfl,?_,?_⟩
    .rw[<-LH,<-Hp.out.length_eq,LI.out];exact cP.out nn os
    .rw[LI.out];exact Hg.out.grown (grownBy_sorted _) Hg.out.size (λk hk=>by cases hk;exact WA.out)
  .have uy:=Wx (aee kH.out) he
   rw[<-KV]at uy;have BB:done.length<1000000000:=by
    have:=qI.length_eq;have h3:(pick (λ_=>true) l).length<=l.length:=by unfold pick;rw[bA];exact List.length_filter_le _ _
    simp at this;omega
   have WB:encStr e.key.data.toList=.string e.key:=afr _;have vU:pick (λ_=>true) (e::mK (seen.push e.born) l)=(if(λ_=>true) e.key=true then[e.key.data.toList]else[])++pick (λ_=>true) (mK (seen.push e.born) l):=by
    unfold pick;rw[List.filter_cons]
    split<;>simp
   have sI:(pick (λ_=>true) (mK seen l)).Perm (pick (λ_=>true) (e::mK (seen.push e.born) l)):=by unfold pick;exact(uy.filter _).map _
   rw[vU]at sI;generalize rz:e.key=key at*;have hown1:w1.ownsRow w.heap.size 9 1 (.slice la ln lc) done.length (done.map encStr):=hown.kept hgr (.inr λe1=>by
    rcases hown.2 with⟨e2,_⟩|⟨g,cap,cur,e2,_,e3,_⟩
    .rw[e2]at e1;cases e1
    .rw[e2]at e1;have e4:g=w.heap.size:=bh e1;rw[e4,hit]at e3;cases e3)
   have hsw:w.heap.size<w1.heap.size:=af vT;have hg1:Grow w w1:=hg.grown hgr hg.size (λk hk=>by cases hk;exact aw _);have ai:Grow w1 (w1.alloc (.cells #[.string key] 9)):=ar _ _;have dy:(w1.alloc (.cells #[.string key] 9)).heap[w1.heap.size]?=some (.cells #[.string key] 9 (0,0)):=ax _ _;have hown2:=hown1.alloc (.cells #[.string key] 9);have xJ:=ai.heap vT;have hg2:=hg1.trans ai;have xK:∀W,W.heap[w.heap.size]?=some (.mapIter (some r) c (seen.push e.born) c)->Grow w W->vF r w.heap.size W<vF r w.heap.size wr:=λW hW lD=>by
    rw[Ie hW (lD.heap Hm.out:MapAt W r Value.string l c),ux,KV];refine Nat.lt_of_le_of_ne (List.length_filter_le _ _) λh4=>?_
    have:=(List.length_filter_eq_length_iff.1 h4) e he;simp at this
   cases ic:(λ_=>true) key with
   |true=>
    rw[ic,if_pos rfl]at sI;obtain⟨i0,bU,hz0,hz1,hz2⟩:=info_parts Tryz.QE;have hgb:Grow (w1.alloc (.cells #[.string key] 9)) ((w1.alloc (.cells #[.string key] 9)).alloc (.cells #[.string key] 9)):=ar _ _;have eU:=ax (w1.alloc (.cells #[.string key] 9)) (.cells #[.string key] 9);rw[show(w1.alloc (.cells #[.string key] 9)).heap.size=w1.heap.size+1 by simp]at eU;obtain⟨g3,WC,w3,LK,iW,sJ,WD,WE⟩:=run_append_lies (P:=Tryz.prog) ((w1.alloc (.cells #[.string key] 9)).alloc (.cells #[.string key] 9)) 95 95 w.heap.size 9 i0 _ 1 16 Tryz.underlying95 bU hz0 hz1 hz2 rfl (by decide) _ _ _ (hown2.alloc _)
     ⟨w1.heap.size+1,0,none⟩ 1 1 [.string key] rfl (λj u hu=>World.news_of_block eU j u (by simpa using hu)) (λu hu=>by rw[cZ.1 hu];rfl) (by decide) (by unfold maxLen;omega) (by omega) (by simp;omega) _ rfl
    have hg3:Grow w w3:=(hg2.trans hgb).grown sJ (by have:=(hg2.trans hgb).size;omega) (λk hk=>(hown2.lt k hk).1);have DY:w3.heap[w.heap.size]?=some (.mapIter (some r) c (seen.push e.born) c):=by
     rw[sJ.block w.heap.size (by simp;omega) (λe1=>?_)]
     .exact hgb.heap xJ
     .rcases hown2.2 with⟨e2,_⟩|⟨g,cap,cur,e2,_,e3,_⟩
      .rw[e2]at e1;cases e1
      .rw[e2]at e1;have e4:w.heap.size=g:=bh e1;rw[<-e4,xJ]at e3;cases e3
    have aR:Hid (LD w r (λ_=>true) l c (.slice (some ⟨g3,0,none⟩) (done.length+1) WC) w3):=by
     refine ae ⟨seen.push e.born,c,done++[key.data.toList],_,_,_,rfl,DY,aw _,?_,?_,hg3⟩
     .rw[aM,dS,List.map_singleton,WB];exact iW
     .refine List.Perm.trans ?_ qI;rw[jL];exact List.Perm.append_left _ sI.symm
    have DZ:=ae (xK w3 DY hg3);have LM:=ae LK;clear ux qJ hit vT hgr he qI hg uy hown rz hown1 hg1 bU hz0 hz1 hz2 eU LK iW sJ WD WE hg2 xJ hg3 DY xK sI vU hgb hown2 ic hsz dy
    go_wp2_with (at_builtin;refine fP rfl rfl rfl rfl LM.out ?_)
    go_roundw
    case rel=>exact aR.out
    case measure=>exact DZ.out
   |false=>cases ic
theorem afs{size:Int}{fs:List Fe}(h:bX B w p r size used born fs)(nI:fs.length<1000000000)(pf:ByteArray)(hq:w.heap[qb]?=some (.cells #[.string pf] 9 (0,0))):
  Calls Tryz.prog 33 #[.pointer (some ⟨p,0,none⟩),.slice (some ⟨qb,0,none⟩) 1 1] w (Wy w (pick (λs=>Lib.hasPrefix s.data.toList pf.data.toList) (fs.map Fe.aB))):=by
 obtain⟨c,hm,LF⟩:=h.map;have LG:=run_range_map (P:=Tryz.prog) w 123 9 162 r _ c Tryz.underlying123 hm;obtain⟨c0,c1,c2,c3⟩:=h.cells;have lp:=af h.self;have dB:((fs.map Fe.aB).map aD.born).Nodup:=by rw[fh];exact h.uj
 have hold:∀e∈fs.map Fe.aB,e.born<c:=λe he=>by obtain⟨x,hx,rfl⟩:=aV.1 he;exact LF x hx
 have oP:w.heap.size≠r:=by have:=af hm;omega
 have hlen:(fs.map Fe.aB).length<1000000000:=by simpa using nI
 generalize fs.map Fe.aB=l at*;have Hm:=ae hm;have kH:=ae dB;have iB:=ae hold;have Hq:=ae hq;clear hq;clear h LF dB hold hm;go_enter Tryz.func33,Tryz.ntmps33;go_wp2;clear LG
 go_loopw [5] (λlv wr=>LD w r (λs=>Lib.hasPrefix s.data.toList pf.data.toList) l c lv wr) (λ_ wr=>vF r w.heap.size wr)
 case atStart=>refine⟨#[],c,[],none,0,0,rfl,ax w _,aw _,jh _ _ _ _,?_,by((repeat (first|exact bW _ _|assumption|refine cC ?_|refine cD ?_|refine cw ?_ ?_ _|refine cB ?_ ?_ _))<;>try (first|omega|(simp<;>omega)))⟩;rw[show mK #[] l=l from List.filter_eq_self.2 (by simp)];simp
 case round=>
  obtain⟨seen,QM,done,la,ln,lc,rfl,hit,hcc,hown,qI,hg⟩:=hrel;have qJ:MapAt wr r Value.string l c:=hg.heap Hm.out;have ux:=Ie hit qJ;rcases VR (P:=Tryz.prog) (enc:=Value.string) (l:=l) 0 hit qJ iB.out hcc oP kH.out with⟨h1,h2⟩|⟨e,w1,he,hrun,Wz,vT,hgr,hsz⟩
  .rw[h1]at qI
   have Hp:Hid (done.Perm (pick (λs=>Lib.hasPrefix s.data.toList pf.data.toList) l)):=ae (by simpa[pick]using qI);have gw:=ae hown;have Hg:=ae hg;have BB:done.length<1000000000:=by
    have:=Hp.out.length_eq;have h3:(pick (λs=>Lib.hasPrefix s.data.toList pf.data.toList) l).length<=l.length:=by unfold pick;rw[bA];exact List.length_filter_le _ _
    omega
   clear h1 ux qJ hit hown qI hg
   go_wp2_with fail
   have LH:done.mergeSort (λx y=>decide (x<=y))=(pick (λs=>Lib.hasPrefix s.data.toList pf.data.toList) l).mergeSort (λx y=>decide (x<=y)):=mergeSort_of_perm Hp.out;have hrow:=gw.out;rcases hrow.2 with⟨e1,e2⟩|⟨g,cap,cur,e1,ji,e2,e3,e4,e5,e6⟩
   .cases e1;have hd:done=[]:=je e2;subst hd;have zE:Calls Tryz.prog 71 #[.slice none 0 0] wr _:=afq wr;(with_reducible refine zE.mono ?_);rintro e w' ⟨rfl,rfl⟩;go_wp2;go_ret;refine⟨_,rfl,?_,Hg.out⟩;rw[<-LH,<-Hp.out.length_eq,List.mergeSort_nil];exact jh _ _ _ _
   .cases e1
    have hS:=afp wr g lc done cur e2 (by simpa using e6) BB;have cP:Hid (∀n os,(grow (putRow encStr (Sort.ahead wr n) g 0 (done.mergeSort λx y=>decide (x<=y)).toArray) os).ownsRow w.heap.size 9 1 (.slice (some ⟨g,0,none⟩) done.length lc) done.length ((done.mergeSort λx y=>decide (x<=y)).map encStr)):=ae (λn os=>ownsRow_sorted (List.length_mergeSort _) ji e2 e3 e4 e5);have HS:=ae hS;have WA:=ae ji;clear hrow e2 ji e3 e4 e5 e6 hS;(with_reducible refine HS.out.mono ?_);rintro e w' ⟨rfl,nn,os,hw'⟩;have LI:=ae hw';clear hw';go_wp2;go_ret;refine⟨_,rfl,?_,?_⟩
    .rw[<-LH,<-Hp.out.length_eq,LI.out];exact cP.out nn os
    .rw[LI.out];exact Hg.out.grown (grownBy_sorted _) Hg.out.size (λk hk=>by cases hk;exact WA.out)
  .have uy:=Wx (aee kH.out) he
   rw[<-KV]at uy;have BB:done.length<1000000000:=by
    have:=qI.length_eq;have h3:(pick (λs=>Lib.hasPrefix s.data.toList pf.data.toList) l).length<=l.length:=by unfold pick;rw[bA];exact List.length_filter_le _ _
    simp at this;omega
   have WB:encStr e.key.data.toList=.string e.key:=afr _;have vU:pick (λs=>Lib.hasPrefix s.data.toList pf.data.toList) (e::mK (seen.push e.born) l)=(if(λs=>Lib.hasPrefix s.data.toList pf.data.toList) e.key=true then[e.key.data.toList]else[])++pick (λs=>Lib.hasPrefix s.data.toList pf.data.toList) (mK (seen.push e.born) l):=by
    unfold pick;rw[List.filter_cons]
    split<;>simp
   have sI:(pick (λs=>Lib.hasPrefix s.data.toList pf.data.toList) (mK seen l)).Perm (pick (λs=>Lib.hasPrefix s.data.toList pf.data.toList) (e::mK (seen.push e.born) l)):=by unfold pick;exact(uy.filter _).map _
   rw[vU]at sI;generalize rz:e.key=key at*;have hown1:w1.ownsRow w.heap.size 9 1 (.slice la ln lc) done.length (done.map encStr):=hown.kept hgr (.inr λe1=>by
    rcases hown.2 with⟨e2,_⟩|⟨g,cap,cur,e2,_,e3,_⟩
    .rw[e2]at e1;cases e1
    .rw[e2]at e1;have e4:g=w.heap.size:=bh e1;rw[e4,hit]at e3;cases e3)
   have hsw:w.heap.size<w1.heap.size:=af vT;have hg1:Grow w w1:=hg.grown hgr hg.size (λk hk=>by cases hk;exact aw _);have ai:Grow w1 (w1.alloc (.cells #[.string key] 9)):=ar _ _;have dy:(w1.alloc (.cells #[.string key] 9)).heap[w1.heap.size]?=some (.cells #[.string key] 9 (0,0)):=ax _ _;have hown2:=hown1.alloc (.cells #[.string key] 9);have xJ:=ai.heap vT;have hg2:=hg1.trans ai;have xK:∀W,W.heap[w.heap.size]?=some (.mapIter (some r) c (seen.push e.born) c)->Grow w W->vF r w.heap.size W<vF r w.heap.size wr:=λW hW lD=>by
    rw[Ie hW (lD.heap Hm.out:MapAt W r Value.string l c),ux,KV];refine Nat.lt_of_le_of_ne (List.length_filter_le _ _) λh4=>?_
    have:=(List.length_filter_eq_length_iff.1 h4) e he;simp at this
   have hcon:=afg (hg2.heap Hq.out) (fn:=70) ⟨_,Tryz.func70,by kernel_rfl⟩ (avW LC key pf dy) (enters_of Tryz.func70 (by kernel_rfl) rfl);have q0:=af Hq.out;cases ic:(λs=>Lib.hasPrefix s.data.toList pf.data.toList) key with
   |true=>
    have LN:=ic;rw[ic,if_pos rfl]at sI;obtain⟨i0,bU,hz0,hz1,hz2⟩:=info_parts Tryz.QE;have hgb:Grow (w1.alloc (.cells #[.string key] 9)) ((w1.alloc (.cells #[.string key] 9)).alloc (.cells #[.string key] 9)):=ar _ _;have eU:=ax (w1.alloc (.cells #[.string key] 9)) (.cells #[.string key] 9);rw[show(w1.alloc (.cells #[.string key] 9)).heap.size=w1.heap.size+1 by simp]at eU;obtain⟨g3,WC,w3,LK,iW,sJ,WD,WE⟩:=run_append_lies (P:=Tryz.prog) ((w1.alloc (.cells #[.string key] 9)).alloc (.cells #[.string key] 9)) 95 95 w.heap.size 9 i0 _ 1 16 Tryz.underlying95 bU hz0 hz1 hz2 rfl (by decide) _ _ _ (hown2.alloc _)
     ⟨w1.heap.size+1,0,none⟩ 1 1 [.string key] rfl (λj u hu=>World.news_of_block eU j u (by simpa using hu)) (λu hu=>by rw[cZ.1 hu];rfl) (by decide) (by unfold maxLen;omega) (by omega) (by simp;omega) _ rfl
    have hg3:Grow w w3:=(hg2.trans hgb).grown sJ (by have:=(hg2.trans hgb).size;omega) (λk hk=>(hown2.lt k hk).1);have DY:w3.heap[w.heap.size]?=some (.mapIter (some r) c (seen.push e.born) c):=by
     rw[sJ.block w.heap.size (by simp;omega) (λe1=>?_)]
     .exact hgb.heap xJ
     .rcases hown2.2 with⟨e2,_⟩|⟨g,cap,cur,e2,_,e3,_⟩
      .rw[e2]at e1;cases e1
      .rw[e2]at e1;have e4:w.heap.size=g:=bh e1;rw[<-e4,xJ]at e3;cases e3
    have aR:Hid (LD w r (λs=>Lib.hasPrefix s.data.toList pf.data.toList) l c (.slice (some ⟨g3,0,none⟩) (done.length+1) WC) w3):=by
     refine ae ⟨seen.push e.born,c,done++[key.data.toList],_,_,_,rfl,DY,aw _,?_,?_,hg3⟩
     .rw[aM,dS,List.map_singleton,WB];exact iW
     .refine List.Perm.trans ?_ qI;rw[jL];exact List.Perm.append_left _ sI.symm
    have DZ:=ae (xK w3 DY hg3);have LM:=ae LK;clear ux qJ hit vT hgr he qI hg uy hown rz hown1 hg1 bU hz0 hz1 hz2 eU LK iW sJ WD WE hg2 xJ hg3 DY xK sI vU hgb hown2 ic hsz dy;rw[show Lib.hasPrefix key.data.toList pf.data.toList=true from LN]at hcon;have vQ:=ae hcon;clear hcon LN
    go_wp2_with fail
    (with_reducible refine vQ.out.mono ?_);rintro e5 w5 ⟨rfl,oQ⟩;have LO:=oQ.symm;subst LO;clear oQ
    go_wp2_with (at_builtin;refine fP rfl rfl rfl rfl LM.out ?_)
    go_roundw
    case rel=>exact aR.out
    case measure=>exact DZ.out
   |false=>
    have LN:=ic;rw[ic,if_neg (by decide),iK]at sI;have aR:Hid (LD w r (λs=>Lib.hasPrefix s.data.toList pf.data.toList) l c (.slice la ln lc) (w1.alloc (.cells #[.string key] 9))):=ae ⟨seen.push e.born,c,done,_,_,_,rfl,xJ,aw _,hown2,(List.Perm.append_left _ sI.symm).trans qI,hg2⟩;have DZ:=ae (xK _ xJ hg2);clear ux qJ hit vT hgr he qI hg uy hown rz hown1 hg1 hg2 xJ xK sI vU hown2 ic hsz dy;rw[show Lib.hasPrefix key.data.toList pf.data.toList=false from LN]at hcon;have vQ:=ae hcon;clear hcon LN
    go_wp2_with fail
    (with_reducible refine vQ.out.mono ?_);rintro e5 w5 ⟨rfl,oQ⟩;have LO:=oQ.symm;subst LO;clear oQ;go_wp2;go_roundw
    case rel=>exact aR.out
    case measure=>exact DZ.out
def cV(V:Vw):Nat:=(V.map (λa=>a.2.1.length)).sum
def xM(picks:List Int)(i b a:Nat):Nat:=match picks[i]? with
 |none=>a
 |some k=>if 0<=k then a+(k%((b-a+1:Nat):Int)).toNat else a
def pP(n:ByteArray)(k:Nat)(V:Vw):Vw:=V.map (λa=>if a.1=n then(a.1,a.2.1.take k,k)else a)
def dz(n:ByteArray)(V:Vw):Option (List UInt8×Nat):=(V.find? (λa=>decide (n=a.1))).map (·.2)
def BC(picks:List Int):Nat->List (List UInt8)->Vw->Vw
 |_,[],V=>V
 |i,n::ns,V=>BC picks (i+1) ns (match dz ⟨n.toArray⟩ V with|none=>V|some (b,s)=>pP ⟨n.toArray⟩ (xM picks i b.length s) V)
theorem aft(picks:List Int)(i:Nat){a c:Nat}(d:c<=a):c<=xM picks i a c/\xM picks i a c<=a:=by
 unfold xM;split
 .omega
 .rename_i k _
  split
  .have d:=Int.emod_nonneg k (b:=((a-c+1:Nat):Int)) (by omega);have d:=Int.emod_lt_of_pos k (b:=((a-c+1:Nat):Int)) (by omega);omega
  .omega
theorem xN(n:ByteArray)(fs:List Fe):dz n (vw fs)=(fileOf n fs).map (λf=>(f.b,f.synced)):=by
 unfold dz fileOf vw
 induction fs with
 |nil=>rfl
 |cons f fs b=>
  simp only[cr,List.find?_cons];by_cases a:n=f.name
  .simp[a]
  .simp only[a,decide_false];exact b
theorem avY{fs:List Fe}(b:(fs.map Fe.name).Nodup){f:Fe}(c:f∈fs)(v:Value)(k:Nat):vw (kC f.name v (f.b.take k) k fs)=pP f.name k (vw fs):=by
 unfold pP vw kC;rw[fh,fh];refine jf λd e=>?_
 simp only[Function.comp];by_cases a:d.name=f.name
 .have:=QJ b e c a;subst this;simp
 .simp[a]
theorem avZ{fs:List Fe}(b:(fs.map Fe.name).Nodup){f:Fe}(c:f∈fs)(a:k<=f.b.length):cV (pP f.name k (vw fs))+(f.b.length-k)=cV (vw fs):=by
 induction fs with
 |nil=>cases c
 |cons a fs g=>
  simp only[cr,List.nodup_cons,aV,not_exists,not_and]at b;rcases bI.1 c with rfl|d
  .have h:pP f.name k (vw fs)=vw fs:=by unfold pP;refine(jf λe c=>?_).trans (List.map_id _);obtain⟨x,i,rfl⟩:=aV.1 c;simp[b.1 x i]
   have c:pP f.name k (vw (f::fs))=(f.name,f.b.take k,k)::vw fs:=by show(if f.name=f.name then _ else _)::pP f.name k (vw fs)=_;rw[h,if_pos rfl]
   rw[c];simp[cV,vw];omega
  .have h:¬a.name=f.name:=λe=>b.1 f d e.symm
   have:=g b.2 d;have c:pP f.name k (vw (a::fs))=(a.name,a.b,a.synced)::pP f.name k (vw fs):=by show(if a.name=f.name then _ else _)::pP f.name k (vw fs)=_;rw[if_neg h]
   rw[c];simp only[cV,vw,cr,List.sum_cons]at this ⊢;omega
theorem awa{a:Option Addr}(h:aI B w (.slice a l.length c) l)(hk:k<=l.length):aI B w (.slice a k k) (l.take k):=by
 have hl:(dT (l.take k)).length=k:=by rw[jX];simp;omega
 rcases h with⟨h1,h2⟩|⟨g,cap,cur,h1,hB,hg,hlc,hcc,hm,ht⟩
 .have hl0:l=[]:=je (by rw[<-jX,h2];rfl)
  subst hl0;simp only[Value.slice.injEq]at h1;obtain⟨rfl,_,rfl⟩:=h1;have:k=0:=by simpa using hk
  subst this;exact .inl ⟨rfl,rfl⟩
 .simp only[Value.slice.injEq]at h1
  obtain⟨rfl,_,rfl⟩:=h1;rw[jX]at hlc ht;refine .inr ⟨g,k,cur,by rw[hl],hB,hg,by rw[hl];exact aw _,by omega,by omega,?_⟩;rw[hl];have:cur.toList.take k=(cur.toList.take l.length).take k:=by rw[List.take_take,Nat.min_eq_left hk]
  rw[this,ht];simp[dT,List.map_take]
def Iv(w:World)(v:Value)(ks:List Int):Prop:=
 ∃a c,v=.slice a ks.length c/\ks.length<=maxLen/\(ks=[]\/∃b c,a=some ⟨b,c,none⟩/\b<w.heap.size/\∀(j:Nat)(k:Int),ks[j]?=some k->w.cell? ⟨b,c+j,none⟩=some (.int .i64 k))
def WG(F:Nat->Prop)(v:Value):Prop:=∀b,v.ownBlock=some b->¬F b
theorem Iv.sep(a:Iv w v ks)(d:Sep F w w' F')(e:ks≠[]->WG F v):Iv w' v ks:=by
 obtain⟨f,c,rfl,g,a⟩:=a;refine⟨f,c,rfl,g,?_⟩;by_cases c:ks=[]
 .exact .inl c
 .rcases a with a|⟨b,o,rfl,hb,hc⟩
  .exact absurd a c
  .have a:=d.free hb (e c b rfl);exact .inr ⟨b,o,rfl,a.2.1,λj k b=>by rw[<-hc j k b];simp only[World.cell?,a.1]⟩
theorem awb(n:ByteArray)(k:Nat)(V:Vw):(pP n k V).map (·.1)=V.map (·.1):=by
 unfold pP;rw[fh];refine jf λa _=>?_
 simp only[Function.comp]
 split<;>rfl
structure CrI(B:Nat)(w:World)(p r:Nat)(size born:Int)(V0:Vw)(F:Nat->Prop)(picks:List Int)(ns:List (List UInt8))(gN:Nat)(cur:Array Value)(i:Nat)(bK:List Fe)(wr:World):Prop where
 aS:bX B wr p r size (cV (vw bK)) born bK
 run:BC picks 0 ns V0=BC picks i (ns.drop i) (vw bK)
 names:(vw bK).map (·.1)=V0.map (·.1)
 sep:Sep F w wr (dH p r bK)
 row:wr.heap[gN]?=some (.cells cur 9 (0,0))
 room:cV (vw bK)<=1073741824
def WH(B:Nat)(w:World)(p r:Nat)(size born:Int)(b:Vw)(F:Nat->Prop)(picks:List Int)(a:List (List UInt8))(c:Nat)(d:Array Value)(e:Value)(f:World):Prop:=
 ∃(i:Nat)(g:List Fe),e=.int .i64 i/\i<=a.length/\CrI B w p r size born b F picks a c d i g f
theorem afu{fs:List Fe}{f:Fe}(a:f∈fs):f.b.length<=cV (vw fs):=by
 induction fs with
 |nil=>cases a
 |cons b fs b=>
  simp only[cV,vw,cr,List.sum_cons]at b ⊢;rcases bI.1 a with rfl|a
  .omega
  .have:=b a;omega
theorem awd{fs:List Fe}{n:ByteArray}(h:n∈(vw fs).map (·.1)):∃f,fileOf n fs=some f:=by
 cases a:fileOf n fs with
 |some f=>exact⟨f,rfl⟩
 |none=>obtain⟨e,b,rfl⟩:=aV.1 h;obtain⟨f,c,rfl⟩:=aV.1 b;exact absurd rfl (DU a f c)
theorem awe{size:Int}{fs:List Fe}(i:bX B w p r size used born fs){f:Fe}(e:f∈fs){a:Option Addr}(h:f.bv=.slice a f.b.length c)(j:k<=f.b.length)(d:Int):
  bX B (((w.setCell ⟨p,1,none⟩ (.int .i64 d)).setCell ⟨f.fb,0,none⟩ (.slice a k k)).setCell ⟨f.fb,1,none⟩ (.int .i64 k)) p r size d born (kC f.name (.slice a k k) (f.b.take k) k fs)/\
  Sep (dH p r fs) w (((w.setCell ⟨p,1,none⟩ (.int .i64 d)).setCell ⟨f.fb,0,none⟩ (.slice a k k)).setCell ⟨f.fb,1,none⟩ (.int .i64 k)) (dH p r (kC f.name (.slice a k k) (f.b.take k) k fs)):=by
 obtain⟨g,m⟩:=i.Io d;have i:aI B (w.setCell ⟨p,1,none⟩ (.int .i64 d)) (.slice a k k) (f.b.take k):=awa (l:=f.b) (c:=c) (by rw[<-h];exact(g.files f e).row) j;have c:=(g.files f e).cell;obtain⟨j,l⟩:=g.put e (w1:=w.setCell ⟨p,1,none⟩ (.int .i64 d)) (w2:=((w.setCell ⟨p,1,none⟩ (.int .i64 d)).setCell ⟨f.fb,0,none⟩ (.slice a k k)).setCell ⟨f.fb,1,none⟩ (.int .i64 k)) (s:=k) i ⟨rfl,rfl,rfl,aw _,λ_ _ _=>rfl⟩ (λb b=>.inl (by rw[h];cases a<;>exact b)) (aK (aK c 0 _) 1 _) (xD (jB _ _ _ _) (jB _ _ _ _)) (by simp;omega);exact⟨j,m.trans l⟩
end Go.Proofs.YtoolkdapflaeeaaGreatDoor
