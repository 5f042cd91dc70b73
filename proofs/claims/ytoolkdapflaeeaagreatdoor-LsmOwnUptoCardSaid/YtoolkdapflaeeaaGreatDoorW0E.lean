/- Helpers. -/
import Derived.Test.YtoolkdapflaeeaaGreatDoorW0D
import Derived.Deep.CutRange
import Derived.Deep.DeepCutAuto
set_option maxRecDepth 100000
set_option maxHeartbeats 16000000
set_option linter.unusedSimpArgs false
open Go
variable{A A' B C K K' Nn T T' Z d db ha hm i i' lb m mb p q r sb seq sq tb tm xb:Nat}{F F' G G' M N:Nat→Prop}{W W' w w3:World}{cv dv tv v:Value}{ds:List Int}{k0 k1:ByteArray}
namespace Go.Proofs.YtoolkdapflaeeaaGreatDoor
open Go.RowKit Go.Gl Go.aF Mn
section
def kW(y:Wr):Wr:=if y.gone then⟨y.key,y.gone,[]⟩else y
def kV(y:Wv):Wv:=if y.x.gone then⟨⟨y.x.key,y.x.gone,[]⟩,.slice none 0 0⟩else y
theorem aoG(y:Wv):(kV y).x=kW y.x:=by unfold kV kW;split<;>rfl
theorem aGS(a:List Wv):(a.map kV).map (·.x)=(a.map (·.x)).map kW:=by rw[fh,fh];exact jf λa _=>aoG a
def lu(ws:List Wr):Prop:=16777216<bj ws\/∃a∈ws,65535<a.key.size
instance(ws:List Wr):Decidable (lu ws):=by unfold lu;infer_instance
theorem aGT(ws:List Wr)(y:Wr):lu (ws++[y])↔lu ws\/65535<y.key.size\/16777216<y.val.length\/16777216<bj (ws++[y]):=by
 have a:=JL ws [y];have a:bj [y]=y.key.size+y.val.length:=by simp[bj]
 unfold lu;constructor
 .rintro(a|⟨c,b,a⟩)
  .exact .inr (.inr (.inr a))
  .rcases dn.1 b with b|b
   .exact .inl (.inr ⟨c,b,a⟩)
   .rw[cZ.1 b]at a;exact .inr (.inl a)
 .rintro((a|⟨c,b,a⟩)|a|a|a)
  .exact .inl (by omega)
  .exact .inr ⟨c,jg _ b,a⟩
  .exact .inr ⟨y,nz _ (List.mem_singleton_self y),a⟩
  .exact .inl (by omega)
  .exact .inl a
theorem aGU{ws:List Wr}(a:¬lu ws):bj ws<=16777216/\∀y∈ws,y.key.size<=65535:=by
 unfold lu at a;refine⟨by omega,λy b=>?_⟩;have c:¬65535<y.key.size:=λc=>a (.inr ⟨y,b,c⟩)
 omega
variable{Z B Nn A C i:Nat}{w w':World}{t t':Tr}{f f':Lk}{T K T' K':Nat}{s:di}
def Pm(s:di)(a:List (List (Nat×List Wr)))(c:List (Nat×List Wr))(b:Nat×List Wr):di:={s with LL:=a++[c++[b]]}
theorem aoH{a:List (List (Nat×List Wr))}{b:List (Nat×List Wr)}(c:s.LL=a++[b]){ws:List Wr}(d:∀e∈cJ s,e.seq<q)(f:cx (aH s.LL))(x:En):
  x∈cJ (Pm s a b (q,ws))↔(∃y,gJ x.key ws=some y/\x=gI q y)\/x∈cJ s:=by
 unfold cJ Pm;dsimp only;rw[OQ,<-c,dn,dn,YX f];constructor
 .rintro((a|⟨a,_⟩)|a)
  .exact .inl a
  .exact .inr (.inl a)
  .exact .inr (.inr a)
 .rintro(a|a|a)
  .exact .inl (.inl a)
  .exact .inl (.inr ⟨a,λe=>by have:=d x (jg _ a);omega⟩)
  .exact .inr a
theorem cY.applied(b:cY Z B Nn A C i w t f T K s){c:List (List (Nat×List Wr))}{a:List (Nat×List Wr)}(j:s.LL=c++[a])(hm:t.m=s.V.wal.toNat+c.length){ws:List Wr}(y:OP (t.seq+1,ws))(g:cR Z B Nn w' t' f' T' K')(l:t'.V=t.V)(d:t'.o=t.o)(m:t'.ns.map (λn=>n.x.e)=fO (t.seq+1) ws (aH s.LL))(z:t'.m=t.m)(D:t'.ld=t.ld)(o:t'.seq=t.seq+1)(p:f'=f.set (bJ cy t.m) (cg aq (a.map kZ++[kZ (t.seq+1,ws)]),(cg aq (a.map kZ++[kZ (t.seq+1,ws)])).length))(e:K'<=K+10):
  cY Z B Nn (A+ws.length) (C+16*ws.length+bj ws) (i+1) w' t' f' T' K' (Pm s c a (t.seq+1,ws)):=by
 have e:=b.lim;have i:=b.yY.ord;have r:=aoH j (q:=t.seq+1) (ws:=ws) (λh q=>by have:=b.top h q;omega) i;have w:aH (c++[a++[(t.seq+1,ws)]])=fO (t.seq+1) ws (aH s.LL):=by rw[OQ,<-j]
 obtain⟨i,i⟩:=Oe (t.seq+1) (aH s.LL) ws;have k:(c++[a++[(t.seq+1,ws)]]).flatten=s.LL.flatten++[(t.seq+1,ws)]:=by rw[j];simp
 have x:(c++[a++[(t.seq+1,ws)]]).length=s.LL.length:=by rw[j];simp
 refine⟨g,by rw[l];exact b.V,?_,?_,by rw[p];exact sA.set b.sync _ _,?_,by rw[m];exact w.symm,by rw[z];show _=s.V.wal+((c++[a++[(t.seq+1,ws)]]).length:Int);rw[x];exact b.m,by simp[Pm],by rw[D];exact b.ld,by rw[d];exact b.opt,?_,by rw[o];have:=b.rr;omega,?_,?_,by have:=b.K;omega⟩
 .rw[d,p];have d:=b.gX.abB (f':=f.set (bJ cy t.m) (cg aq (a.map kZ++[kZ (t.seq+1,ws)]),(cg aq (a.map kZ++[kZ (t.seq+1,ws)])).length)) (λn g=>iC _ (tN g _) _);exact⟨d.cur,d.Kk,d.tmp,d.one,d.all,d.good,d.Kl,d.tabs,d.only,d.aB,d.files⟩
 .have g:=b.log
  rw[j]at g;have l:gU f s.V.wal.toNat (gO (jy c++[a.map kZ])):=by simpa using g
  have m:=aFq l (kZ (t.seq+1,ws));rw[bA,<-hm,<-p]at m;show gU f' s.V.wal.toNat (gO (jy (c++[a++[(t.seq+1,ws)]])));simpa using m
 .refine⟨?_,?_,e.yX,?_,e.Gk,by have:=e.next;show s.V.next<=_;omega,by have:=e.el;show s.es.length<=_;omega,by have:=e.adds;show(s.es.map λh=>h.add.length).sum<=_;omega,λi j=>?_,?_,?_,?_⟩
  .show(aH (c++[a++[(t.seq+1,ws)]])).length+(s.V.tabs.map λf=>(s.aB f.file).length).sum<=_;rw[w];have:=e.pB;omega
  .show costs (aH (c++[a++[(t.seq+1,ws)]]))+(s.V.tabs.map λf=>costs (s.aB f.file)).sum<=_;rw[w];have:=e.cost;omega
  .show s.V.wal+((c++[a++[(t.seq+1,ws)]]).length:Int)<=_;rw[x];have:=e.wal;omega
  .have n:i∈s.LL.flatten++[(t.seq+1,ws)]:=by rw[<-k];exact j
   rcases dn.1 n with j|j
   .exact e.Gm i j
   .rw[cZ.1 j];exact y
  .show(c++[a++[(t.seq+1,ws)]]).flatten.length<=_;rw[k,aM];have:=e.Kn;simp only[dD,iJ];omega
  .show((c++[a++[(t.seq+1,ws)]]).flatten.map λi=>i.2.length).sum<=_;rw[k,dS,List.sum_append];have:=e.OV;simp only[cr,List.map_nil,List.sum_cons,List.sum_nil];omega
  .show((c++[a++[(t.seq+1,ws)]]).flatten.map λi=>bj i.2).sum<=_;rw[k,dS,List.sum_append];have:=e.OW;simp only[cr,List.map_nil,List.sum_cons,List.sum_nil];omega
 .rw[o];have j:=b.seq;show t.seq+1=((c++[a++[(t.seq+1,ws)]]).flatten.map (·.1)).foldl max s.V.seq.toNat;rw[k,dS,List.foldl_append];unfold pD at j;rw[<-j];simp only[cr,List.map_nil,List.foldl_cons,List.foldl_nil];omega
 .intro f e a i c
  rcases(r f).1 e with⟨u,h1,d⟩|h1<;>rcases(r a).1 i with⟨v,g,l⟩|g
  .rw[<-c.1,h1]at g;cases g;rw[d,l]
  .have m:=b.top a g
   have n:f.seq=t.seq+1:=by rw[d];rfl
   have:=c.2;omega
  .have m:=b.top f h1
   have n:a.seq=t.seq+1:=by rw[l];rfl
   have:=c.2;omega
  .exact b.vu f h1 a g c
 .intro h q
  rw[o];rcases(r h).1 q with⟨u,_,d⟩|h1
  .rw[d];exact aw _
  .have:=b.top h h1;omega
end
section
def UF(Z B Nn A C i:Nat)(w:World)(t:Tr)(T:Nat)(s:di)(ws:List Wr)(e:Ending)(w':World):Prop:=
 ∃(c d:Nat)(t':Tr)(f':Lk)(T' K':Nat)(a:di),e=.returned (.tuple #[.int .u64 (d:Int),.int .i64 (c:Int)])/\fJ w t w' t'/\cY Z B Nn (A+ws.length) (C+16*ws.length+bj ws) (i+2) w' t' f' T' K' a/\t'.hh=t.hh/\t'.hn=t.hn/\a.V.tabs.length<=s.V.tabs.length+1/\
  ((((ws=[]/\c=0/\d=t.seq)\/(ws≠[]/\lu ws/\c=3/\d=0)\/(¬lu ws/\c=5/\d=0/\Z<T+(bC aq (jw (t.seq+1) ws)).length))/\t'.seq=t.seq/\(∀b,b∈cJ a↔b∈cJ s)/\T'=T/\aH a.LL=aH s.LL)\/
   (ws≠[]/\¬lu ws/\c=0/\d=t.seq+1/\t'.seq=t.seq+1/\(∀b,b∈cJ a↔(∃c,gJ b.key ws=some c/\b=gI (t.seq+1) c)\/b∈cJ s)/\T'<=T+(bC aq (jw (t.seq+1) ws)).length+(gW t.o.block.toNat (fO (t.seq+1) ws (aH s.LL))).length+(2*costs (fO (t.seq+1) ws (aH s.LL))+200)/\((costs (fO (t.seq+1) ws (aH s.LL)):Int)<=t.o.mem->a.V=s.V/\aH a.LL=fO (t.seq+1) ws (aH s.LL)/\T'=T+(bC aq (jw (t.seq+1) ws)).length)/\(aH a.LL=[]\/T'=T+(bC aq (jw (t.seq+1) ws)).length/\aH a.LL=fO (t.seq+1) ws (aH s.LL))))
def abQ(w:World)(Na:Nat->Prop)(a:List Wv)(ws:List Wr)(c d e f:Value)(b:World):Prop:=
 ∃i:Nat,f=.int .i64 (i:Int)/\i<=a.length/\c=.int .i64 ((bj (ws.take i):Nat):Int)/\d=.bool (decide (lu (ws.take i)))/\pA w.heap.size Na b e ((a.map kV).take i)/\Grow w b
theorem Ws.lt{w:World}{xs:List Wv}(c:Ws M w v xs):Ws (λb=>M b/\b<w.heap.size) w v xs:=by
 obtain⟨⟨d,e,f,g,h,i,a⟩,j⟩:=c;refine⟨⟨d,e,f,g,h,i,?_⟩,λc d=>Bw.lt (j c d)⟩;rcases a with a|⟨b,o,q1,q2,q3,q4⟩
 .exact .inl a
 .exact .inr ⟨b,o,q1,⟨q2,q3⟩,q3,q4⟩
theorem aGV{w:World}{y:Wv}(a:pz N w y):pz N w (kV y):=by
 unfold kV;split
 .exact YB _ _
 .exact a
theorem aGW{A:Nat}{y:Wv}(a:pz N W y):uZ N A W y:=⟨a.1,a.2.imp id (λa b c=>.inl (a b c))⟩
theorem UG:∀ws:List Wr,bj (ws.map kW)<=bj ws
 | []=>aw _
 |y::ws=>by
  have a:=UG ws;have b:(kW y).key.size+(kW y).val.length<=y.key.size+y.val.length:=by
   unfold kW;split
   .simp
   .exact aw _
  simp only[bj,cr,List.sum_cons]at a ⊢;omega
variable{Z B Nn A C i:Nat}{w:World}{t:Tr}{f:Lk}{T K:Nat}{s:di}
theorem cY.wide(a:cY Z B Nn A C i w t f T K s){b:Nat}(c:A<=A')(d:C<=b)(hi:i<=i'):cY Z B Nn A' b i' w t f T K s:={a.more hi with lim:=a.lim.more c d hi}
theorem UH(h:cY Z B Nn A C i w t f T K s){Na:Nat->Prop}(wT:∀b,Na b->b<w.heap.size/\¬FT t b){ys:List Wv}(hW:Ws Na w v ys){ws:List Wr}(uS:ws=(ys.map (·.x)).map kW)(dM:ys.length<=60000)(sj:bj ws<=50000000)(hA:A+ws.length<=100000)(hC:C+16*ws.length+bj ws<=1000000)(hi:i+4<=Nn)(xe:i<=800000)(dG:s.V.tabs.length<=4999):
  Calls Tryz.prog 14 #[.pointer (some ⟨t.db,0,none⟩),v] w (UF Z B Nn A C i w t T s ws):=by
 have kO:ws.length=ys.length:=by rw[uS];simp
 have yF:(ys.map kV).map (·.x)=ws:=by rw[aGS,uS]
 obtain⟨_,_,_,_,_,c10,_,bN⟩:=h.tree.cell.cells;have Dj:t.seq+1<18446744073709551616:=by have:=h.rr;omega
 have Gn:Hid (abQ w Na ys ws (.int .i64 0) (.bool false) (.slice none 0 0) (.int .i64 0) w):=ae ⟨0,rfl,aY _,by simp[bj],by simp[lu,bj],alz _ _ _,aW w⟩;have H0:=ae h;have Gu:=ae wT;have HW:=ae hW;have Gv:=ae uS;have UI:=ae yF;have Pn:=ae kO;have Hb:=ae (ag dM (ag sj (ag hA (ag hC (ag hi (ag xe (ag dG Dj)))))));obtain⟨va,vc,rfl⟩:=hW.slice;clear h wT hW uS yF sj hA hC hi xe dG kO Dj;go_enter Tryz.func14,Tryz.ntmps14;by_cases mI:ys.length=0
 .have e0:((ys.length:Int)==0)=true:=by simp[mI]
  have Hy0:=ae mI;clear mI dM;go_wp2;go_ret2;have hw0:ws=[]:=je (by rw[Pn.out,Hy0.out]);refine⟨0,t.seq,t,f,T,K,s,rfl,fJ.refl _ _,?_,rfl,rfl,Nat.le_succ _,.inl ⟨.inl ⟨hw0,rfl,rfl⟩,rfl,λx=>Iff.rfl,rfl,rfl⟩⟩;exact H0.out.wide (by omega) (by omega) (by omega)
 have e0:((ys.length:Int)==0)=false:=beq_eq_false_iff_ne.2 (by omega);have aoJ:ws≠[]:=λe=>by have h1:=Pn.out;rw[e]at h1;exact mI h1.symm
 have abR:=ae aoJ;clear mI aoJ
 go_wp2_with fail
 clear e0 c10 bN
 go_loopw [6,7,8,22] (λsv gv lv iv wr=>abQ w Na ys ws sv gv lv iv wr) (λ_ _ _ iv _=>ys.length-(intOf iv).toNat)
 case atStart=>exact Gn.out
 case round=>
  clear Gn;obtain⟨i,rfl,hi,rfl,rfl,hrow,hgr⟩:=hrel;by_cases hlt:i<ys.length
  .obtain⟨y,hy⟩:∃y,ys[i]?=some y:=⟨ys[i],by simp[hlt]⟩
   have zb:=HW.out.grow hgr;obtain⟨b,o',c,jV,hNb,hbl,bq⟩:=zb.addr hy;cases jV;have fu:pz Na wr y:=zb.get hy;have pC:ws[i]?=some (kW y.x):=by rw[Gv.out,gQ,gQ,hy];rfl
   have CM:(ys.map kV)[i]?=some (kV y):=by rw[gQ,hy];rfl
   have ep:ws.take (i+1)=ws.take i++[kW y.x]:=take_one pC;have kT:(ys.map kV).take (i+1)=(ys.map kV).take i++[kV y]:=take_one CM;have hS1:bj (ws.take (i+1))=bj (ws.take i)+((kW y.x).key.size+(kW y.x).val.length):=by rw[ep,JL];simp[bj]
   have iD:=NV ws (i+1);have nu:=aGT (ws.take i) (kW y.x);rw[<-ep]at nu;obtain⟨a0,a1,a2⟩:=JK bq hy;have UJ:=aGV fu;have vD:=aoG y;obtain⟨S,hS⟩:∃S,S=bj (ws.take i):=⟨_,rfl⟩
   obtain⟨S',OY⟩:∃S',S'=bj (ws.take (i+1)):=⟨_,rfl⟩
   obtain⟨lg,Ku⟩:∃lg,lg=decide (lu (ws.take i)):=⟨_,rfl⟩
   rw[<-hS,<-Ku];obtain⟨kv,vW⟩:∃kv,kv=kV y:=⟨_,rfl⟩
   rw[<-vW]at UJ vD kT;rw[<-vD]at ep hS1 nu;have tS:kv.x.key=y.x.key:=by rw[vD];unfold kW;split<;>rfl
   have hkg:kv.x.gone=y.x.gone:=by rw[vD];unfold kW;split<;>rfl
   have IU:y.x.gone=true->kv.v=.slice none 0 0:=λhg=>by rw[vW];unfold kV;rw[if_pos hg]
   have JS:y.x.gone=false->kv.v=y.v:=λhg=>by rw[vW];unfold kV;rw[if_neg (by rw[hg];decide)]
   obtain⟨⟨yk,yg,yd⟩,yv⟩:=y;obtain⟨⟨kk,kg,kd⟩,kw⟩:=kv;dsimp only at a0 a1 a2 tS hkg IU JS hS1 nu;subst tS;subst hkg;have aoL:Bv wr yv yd:=fu.1;have Fu:Bv wr kw kd:=UJ.1;obtain⟨xa,xc,rfl⟩:=aoL.slice;obtain⟨za,zc,rfl⟩:=Fu.slice;clear aoL Fu;have lb:b<wr.heap.size:=hbl;have eN:(i:Int)<(ys.length:Int):=by omega
   have bU:(0:Int)<=(i:Int):=by omega
   have fT:IntKind.i64.wrap ((i:Int)+1)=(i:Int)+1:=aQ _ (by omega);obtain⟨la,lc,rfl⟩:=hrow.slice;have hb:=Hb.out;have hsz:S'<=50000000:=by omega
   have bT:IntKind.i64.wrap ((kk.size:Int)+(kd.length:Int))=(kk.size:Int)+(kd.length:Int):=aQ _ (by omega);have hw2:IntKind.i64.wrap ((S:Int)+((kk.size:Int)+(kd.length:Int)))=(S':Int):=(aQ _ (by omega)).trans (by omega);have pK:=ae hrow;have gu:=ae hgr;have aGX:=ae UJ;have oy:=ae ep;have Hkn:=ae kT;have Hlg:=ae (show lu (ws.take (i+1))↔lu (ws.take i)\/65535<kk.size\/16777216<kd.length\/16777216<S' by rw[nu,<-OY]);have aoN:=ae Ku;have HS':=ae OY;have iy:=ae hlt;have gi:((ys.map kV).take i).length=i:=by simp;omega
   have Hkl:=ae gi;rw[gi];clear hrow hgr UJ ep kT nu Ku OY hS vD vW pC CM hS1 iD fu zb bq hNb hbl hy hb hlt gi
   go_upto_if 27 with fail
   have ai:=ar wr (.cells #[.string kk,.bool kg,.slice xa yd.length xc] 51);have dB:=ax wr (.cells #[.string kk,.bool kg,.slice xa yd.length xc] 51);generalize wr.alloc (.cells #[.string kk,.bool kg,.slice xa yd.length xc] 51)=w5 at*;obtain⟨tb,eE⟩:∃tb,tb=wr.heap.size:=⟨_,rfl⟩
   rw[<-eE]at dB ⊢;have mh:=ae eE;have cn:=ae ai;have kH:=ae dB;have mY:=af dB;have ff:=bG dB;clear ai dB eE a0 a1 a2 lb
   go_cut []from 28 to 28 (λwx=>wx.heap[tb]?=some (.cells #[.string kk,.bool kg,.slice za kd.length zc] 51 (0,0))/\Grow wr wx)
   case first=>
    cases kg with
    |true=>have cG:=Go.Gl.aK kH.out 2 (.slice none 0 0);have hz:=IU rfl;obtain⟨q0,q1,q2⟩:=yM kH.out;have bm:Grow wr (w5.setCell ⟨tb,2,none⟩ (.slice none 0 0)):=cn.out.setCell (Nat.le_of_eq mh.out.symm) _;have aZ:=ae (ag cG bm);rw[Value.slice.injEq]at hz;obtain⟨hz1,hz2,hz3⟩:=hz;have Hz:=ae (ag hz1 (ag hz2 hz3));clear cG bm IU JS hz1 hz2 hz3;go_wp2;go_meet;rw[Hz.out.1,Hz.out.2.1,Hz.out.2.2];exact aZ.out
    |false=>have hz:=JS rfl;rw[Value.slice.injEq]at hz;obtain⟨hz1,hz2,hz3⟩:=hz;have Hz:=ae (ag hz1 (ag hz2 hz3));clear IU JS hz1 hz2 hz3;go_wp2;go_meet;rw[Hz.out.1,Hz.out.2.1,Hz.out.2.2];exact⟨kH.out,cn.out⟩
   case rest=>
    obtain⟨abU,dh⟩:=hcut;obtain⟨t0,t1,t2⟩:=yM abU;have lt6:=af abU;have Dm:=ae dh;clear mY ff dh abU
    go_upto_region 12 with fail
    obtain⟨xm,abV⟩:∃xm,xm=decide (lu (ws.take (i+1))):=⟨_,rfl⟩
    have aGZ:=ae abV;have aoO:xm=true↔lg=true\/65535<kk.size\/16777216<kd.length\/16777216<S':=by rw[abV,aoN.out,decide_eq_true_eq,decide_eq_true_eq];exact Hlg.out
    have Kv:=ae aoO;clear abV aoO
    go_cut [7]from 38 to 54 (λgv wx=>gv=.bool xm/\wx=wc)
    case first=>
     cases lg with
     |true=>have hr:Hid (xm=true):=ae (Kv.out.2 (.inl rfl));go_wp2;go_meet;exact⟨by rw[hr.out],rfl⟩
     |false=>
      by_cases h1:65535<kk.size
      .have d1:(65535:Int)<(kk.size:Int):=by omega
       have hr:Hid (xm=true):=ae (Kv.out.2 (.inr (.inl h1)));clear h1;go_wp2;go_meet;exact⟨by rw[hr.out],rfl⟩
      .have d1:¬(65535:Int)<(kk.size:Int):=by omega
       have d1':(kk.size:Int)<=65535:=by omega
       by_cases h2:16777216<kd.length
       .have d2:(16777216:Int)<(kd.length:Int):=by omega
        have hr:Hid (xm=true):=ae (Kv.out.2 (.inr (.inr (.inl h2))));clear h1 h2;go_wp2;go_meet;exact⟨by rw[hr.out],rfl⟩
       .have d2:¬(16777216:Int)<(kd.length:Int):=by omega
        have d2':(kd.length:Int)<=16777216:=by omega
        by_cases h3:16777216<S'
        .have d3:(16777216:Int)<(S':Int):=by omega
         have hr:Hid (xm=true):=ae (Kv.out.2 (.inr (.inr (.inr h3))));clear h1 h2 h3;go_wp2;go_meet;exact⟨by rw[hr.out],rfl⟩
        .have d3:¬(16777216:Int)<(S':Int):=by omega
         have d3':(S':Int)<=16777216:=by omega
         have hr:Hid (xm=false):=ae (by
          cases hl:xm with
          |false=>rfl
          |true=>
           rcases Kv.out.1 hl with h|h|h|h
           .cases h
           .exact absurd h h1
           .exact absurd h h2
           .exact absurd h h3)
         clear h1 h2 h3;go_wp2;go_meet;exact⟨by rw[hr.out],rfl⟩
    case rest=>
     obtain⟨rfl,hwc⟩:=hcut;have hwc':=hwc.symm;subst hwc';clear hwc Kv Hlg aoN bT hw2;have Gw:pA w.heap.size Na wc (.slice la i lc) ((ys.map kV).take i):=by have h6:=pK.out.keep Dm.out.size (λb hb=>Dm.out.block b (by have:=(Gu.out b hb).1;have:=gu.out.size;omega)) (λb cur t f _ _ hc=>Dm.out.heap hc);rw[Hkl.out]at h6;exact h6
     have aoP:pz Na wc ⟨⟨kk,kg,kd⟩,.slice za kd.length zc⟩:=aGX.out.kp (.bO Dm.out);have Gx:=gu.out.trans Dm.out;obtain⟨gb,JR,W3,hrun,hrow3,hg3⟩:=alv Gw (aGW aoP) (λb hb=>(Gu.out b hb).1) Gx.size (by rw[Hkl.out];omega);rw[Hkl.out]at hrun hrow3;rw[<-Hkn.out]at hrow3;have sJ:Grow w W3:=Gx.grown hg3 Gx.size (λk e=>(Oa Gw e).1);have aR:Hid (abQ w Na ys ws (.int .i64 (S':Int)) (.bool xm) (.slice (some ⟨gb,0,none⟩) (i+1) JR) (.int .i64 ((i:Int)+1)) W3):=ae ⟨i+1,by simp,iy.out,by rw[<-HS'.out],by rw[<-aGZ.out],hrow3,sJ⟩;have cU:=ae hrun;clear Gw aoP Gx hrun hrow3 hg3 sJ
     go_wp2_with (at_builtin;refine fP rfl rfl rfl rfl cU.out ?_)
     go_roundw
     case rel=>exact aR.out
     case measure=>simp[intOf];have:=iy.out;omega
  .obtain rfl:i=ys.length:=by omega
   have et:(ys.map kV).take ys.length=ys.map kV:=List.take_of_length_le (by simp);have ew:ws.take ys.length=ws:=List.take_of_length_le (by rw[Pn.out];exact aw _);rw[et]at hrow;rw[ew];obtain⟨la,lc,rfl⟩:=hrow.slice;have gi:(ys.map kV).length=ys.length:=by simp
   rw[gi]at hrow ⊢;have gu:=ae hgr;have pK:=ae hrow;clear et ew gi hgr hrow hi;by_cases hL:lu ws
   .rw[decide_eq_true hL];have HL:=ae hL;clear hL;go_wp2;go_ret2;exact⟨3,0,t,f,T,K,s,rfl,fJ.bO t gu.out,(H0.out.grow gu.out).wide (by omega) (by omega) (by omega),rfl,rfl,Nat.le_succ _,.inl ⟨.inr (.inl ⟨abR.out,HL.out,rfl,rfl⟩),rfl,λx=>Iff.rfl,rfl,rfl⟩⟩
   rw[decide_eq_false hL];obtain⟨jk,jD⟩:=aGU hL;have HL:=ae hL;have Hn:=ae (ag jk jD);clear hL jk jD;obtain⟨gp,bs,pE,hm,oL,_⟩:=H0.out.last;have Dh:=ae (ag pE (ag hm oL));clear pE hm oL;have OH:=ae (H0.out.tree.grow gu.out);obtain⟨sq,dR⟩:∃sq,sq=t.seq+1:=⟨_,rfl⟩
   have abW:IntKind.u64.wrap ((t.seq:Int)+1)=(sq:Int):=by have h1:=Hb.out.2.2.2.2.2.2.2;rw[IntWalk.u64_in _ (by omega)];omega
   have Dj:sq<18446744073709551616:=by have h1:=Hb.out.2.2.2.2.2.2.2;omega
   have ze:=ae dR;clear dR
   go_upto_region 17 with fail
   have hgd:=ay wr;have Gy:∀W,Grow wr W->W.cell? ⟨t.db,7,none⟩=some (.pointer (some ⟨t.lb,0,none⟩))/\W.cell? ⟨t.db,10,none⟩=some (.int .u64 (t.seq:Int))/\t.db<W.heap.size:=λW hg=>by obtain⟨_,_,c7,_,_,c10,_,bN⟩:=(OH.out.grow hg).cell.cells;exact⟨c7,c10,bN⟩
   have Kw:=ae Gy;clear Gy;refine cN (λW=>W.cell? ⟨t.db,7,none⟩=some (.pointer (some ⟨t.lb,0,none⟩))/\W.cell? ⟨t.db,10,none⟩=some (.int .u64 (t.seq:Int))/\t.db<W.heap.size) [10,0,0] (by kernel_rfl) (bB λ_ _ _ _ _ h=>h) (Kw.out _ hgd) ?_;simp only[ct]
   repeat ((first|(apply az;rfl;rintro W ⟨hW0,hW1,hW2⟩;go_simp;with_reducible rfl)|(apply aA;rfl));simp only[ah,List.set])
   have abX:Ws (λb=>(Na b\/w.heap.size<=b)/\b<wr.heap.size) wr (.slice la ys.length lc) (ys.map kV):=(pK.out.ws (M:=λb=>Na b\/w.heap.size<=b) (λb hb=>hb)).lt;have aoQ:=ae abX;have hb:=Hb.out;have qW:=aDq (abX.grow hgd) (seq:=sq) Dj (by rw[bA];omega) (by rw[UI.out];omega);rw[UI.out]at qW;obtain⟨P,hP⟩:∃P,P=jw sq ws:=⟨_,rfl⟩
   rw[<-hP]at qW;have hPl:P.length<=60000000:=by have h1:=ZY sq ws;have h2:=Pn.out;rw[hP];omega
   have HP:=ae (ag hP hPl);clear abX hP hb;refine bw (by rfl) (by go_simp) qW ?_;rintro e w1 ⟨pv,rfl,pQ,hg1⟩;have hg2:=hgd.trans hg1;refine⟨_,rfl,Kw.out _ hg2,?_⟩;have bD:=cE pQ;obtain⟨pa,pc,rfl⟩:=pQ.slice;clear qW pQ
   try simp only[ah,List.set,aC]
   have ai:=ar w1 (.cells #[.slice pa P.length pc] 49);have hg3:=hg2.trans ai;refine ud (by rfl) (tZ (v:=.slice pa P.length pc) rfl Tryz.underlying131 Tryz.zy rfl rfl rfl) (Kw.out _ hg3) ?_
   try simp only[ah,List.set,aC]
   have xn:=OH.out.grow hg3;have eF:(cg aq [P]).length<=1000000000000:=by have h1:=nG aq P;have h2:=cF P.length;simp only[cg,List.flatMap_cons,List.flatMap_nil,List.append_nil];omega
   have Pa:t.m+1<=i:=by have h1:=H0.out.m;have h2:=H0.out.lim.wal;omega
   have aoR:=aAf Jc xn.dK xn.aS xn.log (by have:=Hb.out;omega) (by have:=Hb.out;omega) (Wc (ax _ _) (bD.grow ai)) (λp hp=>by rw[cZ.1 hp];omega) eF (by simp);refine bw (by rfl) (by go_simp) aoR ?_;rintro e w4 ⟨c4,f4,T4,rfl,ui,F4,kD,hl4,kE⟩;obtain⟨yZ,abY⟩:=xn.Gg kD kE;have hC4:fA w4 t.db t.sb t.o t.drv (.pointer (some ⟨t.lb,0,none⟩)) t.mb t.tm t.seq t.hm:=yZ.cell;obtain⟨_,_,d7,_,_,d10,_,bN⟩:=hC4.cells;refine⟨_,rfl,⟨d7,d10,bN⟩,?_⟩;have xj:=ae yZ;have Nu:=ae ((fJ.bO t hg3).trans abY);have aca:=ae ((fJ.bO t (gu.out.trans hg3)).trans abY);have Pd:=ae Pa;have HC4:=ae hC4;clear yZ abY kD hl4 kE aoR eF xn hg3 ai bD hg2 hg1 hgd hC4 Pa
   try simp only[ah,List.set,aC]
   repeat ((first|(apply az;rfl;rintro W ⟨hW0,hW1,hW2⟩;go_simp;with_reducible rfl)|(apply aA;rfl));simp only[ah,List.set])
   refine bg ?_;have aoS:cg aq [P]=bC aq P:=by simp[cg]
   rw[aoS]at ui;clear aoS;rcases ui with⟨rfl,hroom,rfl,rfl⟩|⟨rfl,oU,rfl,rfl⟩
   rotate_left
   .have Oy:=ae oU;clear oU d7 d10 bN;go_wp2;go_ret2;refine⟨5,0,_,f4,T4,K+1,s,rfl,aca.out,((H0.out.put xj.out rfl rfl rfl rfl rfl rfl rfl (by omega)).wide (by omega) (by omega) (by omega)),rfl,rfl,Nat.le_succ _,.inl ⟨.inr (.inr ⟨HL.out,rfl,rfl,by rw[<-ze.out,<-HP.out.1];exact Oy.out⟩),rfl,λx=>Iff.rfl,rfl,rfl⟩⟩
   have MQ:=ae hroom;obtain⟨q,hq⟩:∃q,q=cg aq (bs.map kZ):=⟨_,rfl⟩
   have jU:=Dh.out.2.2;rw[<-hq]at jU;have nS:f.add (bJ cy t.m) (bC aq P)=f.set (bJ cy t.m) (q++bC aq P,q.length):=by unfold Lk.add;rw[jU]
   rw[nS]at xj;have uQ:=Hb.out;have aHe:=Pd.out;have aoT:eA w4 t.lb t.p cy (t.m:Int):=xj.out.log;have UK:=aim Jc xj.out.dK xj.out.aS aoT (by omega) (by omega) (sN f (bJ cy t.m) (q++bC aq P,q.length));rw[QR]at UK;have Sp:q++bC aq P=cg aq (bs.map kZ++[kZ (t.seq+1,ws)]):=by rw[hq,HP.out.1,ze.out];simp[cg]
   rw[Sp]at UK;have aoU:=ae UK;clear hroom hq jU nS uQ aHe UK Sp aoT
   go_wp2_with fail
   (with_reducible refine aoU.out.mono ?_);rintro e w5 ⟨rfl,F5,ja,hl5,hs5⟩;obtain⟨tQ,AZ⟩:=xj.out.Gg ja hs5;have Po:=Nu.out.trans AZ;clear aoU d7 d10 bN;have iX:∀b,((Na b\/w.heap.size<=b)/\b<wr.heap.size)->¬FT t b:=λb hb hf=>by
    rcases hb.1 with h1|h1
    .exact(Gu.out b h1).2 hf
    .have:=H0.out.tree.lt hf;omega
   have aoV:Kp (λb=>(Na b\/w.heap.size<=b)/\b<wr.heap.size) wr w5:=⟨Po.sep.size,λb hb _=>Po.sep.out b hb.2 (iX b hb)⟩
   have Pp:=aoQ.out.kp aoV;obtain⟨aOQ,MN⟩:∃aX,ed t.N w5 t.mb t.ha t.ns aX t.dv t.ds:=tQ.mem
   have CX:fA w5 t.db t.sb t.o t.drv (.pointer (some ⟨t.lb,0,none⟩)) t.mb t.tm t.seq t.hm:=tQ.cell;have UL:∀b,((Na b\/w.heap.size<=b)/\b<wr.heap.size)->b<w5.heap.size/\¬FT {{t with F:=F4}with F:=F5} b:=λb hb=>⟨bF hb.2 Po.sep.size,λhf=>by
    rcases Po.sep.foot b hf with h1|h1
    .exact iX b hb h1
    .omega⟩
   have eD:=Hb.out;have aHf:t.ns.length<=A:=by have h1:=congrArg List.length H0.out.mem;rw[bA]at h1;have:=H0.out.lim.pB;omega
   have aHg:costs (t.ns.map (λn=>n.x.e))<=C:=by rw[H0.out.mem];have:=H0.out.lim.cost;omega
   have yR:=alI CX MN (λhf=>(H0.out.tree.ne.fm _ hf).2.1 rfl) (λb hb=>⟨(tQ.apart b hb).1,λhf=>(tQ.apart b hb).2 (.inr (.inl hf)),λe=>(tQ.apart b hb).2 (.inr (.inr (.inl e)))⟩) (λb hb=>⟨(UL b hb).1,λhf=>(UL b hb).2 (.inr (.inl hf)),λe=>(UL b hb).2 (.inr (.inr (.inl e)))⟩) Pp (s:=sq) Dj (by rw[bA];omega) (by rw[UI.out];omega) (by omega) (by omega);rw[UI.out]at yR;obtain⟨_,_,d7,_,_,d10,_,bN⟩:=CX.cells;have CQ:=ae yR;have UB:=ae tQ;have Hs5:=ae (aca.out.trans AZ);clear yR AZ ja hl5 hs5 Po iX aoV Pp MN CX UL eD aHf aHg tQ
   go_wp2_with fail
   (with_reducible refine CQ.out.mono ?_);rintro e w6 ⟨rfl,N',bR,Dn⟩;obtain⟨tR,qM⟩:=UB.out.laid Dn;have ru:=Dn.pB;rw[ze.out]at ru;rw[H0.out.mem]at ru;have nI:max t.seq sq=t.seq+1:=by have:=ze.out;omega
   dsimp only at tR qM;rw[nI]at tR qM;have yQ:fA w6 t.db t.sb t.o t.drv (.pointer (some ⟨t.lb,0,none⟩)) t.mb t.tm sq t.hm:=by rw[ze.out];exact tR.cell
   have Pq:OP (t.seq+1,ws):=by have hb:=Hb.out;have hn:=Hn.out;exact⟨hb.2.2.2.2.2.2.2,by dsimp only;have:=Pn.out;omega,hb.2.1,λy hy=>⟨hn.2 y hy,by have h1:=Tq hy;have h2:=hn.1;dsimp only at h1 ⊢;omega⟩⟩
   have tU:=H0.out.applied Dh.out.1 Dh.out.2.1 Pq tR rfl rfl ru rfl rfl rfl rfl (by omega);have hall:=aoH Dh.out.1 (q:=t.seq+1) (ws:=ws) (λe he=>by have:=H0.out.top e he;omega) H0.out.yY.ord;have Dp:=ae tU;have gB:=ae hall;have Pe:=ae (Hs5.out.trans qM);have FW:=ae yQ;have aHh:=ae ru;clear Dn ru nI tR qM Pq tU hall CQ d7 d10 bN xj UB Nu aca HC4 aoQ;obtain⟨_,d1,d7,d8,_,d10,_,bN⟩:=yQ.cells;clear yQ
   go_upto_region 23 with fail
   have hgd:=ay w6;have S23:∀W,Grow w6 W->W.cell? ⟨t.db,1,none⟩=some (.int .i64 t.o.mem)/\W.cell? ⟨t.db,8,none⟩=some (.pointer (some ⟨t.mb,0,none⟩))/\t.db<W.heap.size:=λW hg=>by obtain⟨_,c1,_,c8,_,_,_,bN⟩:=(FW.out.grow hg).cells;exact⟨c1,c8,bN⟩
   obtain⟨aOR,EO⟩:=Dp.out.tree.mem;have Pr:=aFa (EO.grow hgd);dsimp only at Pr;rw[aHh.out]at Pr;obtain⟨cs,hcs⟩:∃cs,cs=costs (fO (t.seq+1) ws (aH s.LL)):=⟨_,rfl⟩
   rw[<-hcs]at Pr;have Hcs:=ae hcs;clear EO hcs;refine oK (λW=>W.cell? ⟨t.db,1,none⟩=some (.int .i64 t.o.mem)/\W.cell? ⟨t.db,8,none⟩=some (.pointer (some ⟨t.mb,0,none⟩))/\t.db<W.heap.size) [(0,false),(1,false),(2,false),(3,false),(5,false),(6,false),(7,false),(8,false),(9,false),(4,true),(10,false)] (by kernel_rfl) (by kernel_rfl) (bB λ_ _ _ _ _ h=>h) (S23 _ hgd) ?_;simp only[cm,nth];have aHi:=ae S23;clear S23 d1 d7 d8 d10 bN
   repeat ((first|(apply az;rfl;rintro W ⟨hW0,hW1,hW2⟩;go_simp;with_reducible rfl)|(apply aA;rfl));simp only[ah,List.set])
   refine bw (by rfl) (by go_simp) Pr ?_;rintro e w7 ⟨rfl,rfl⟩;refine⟨_,rfl,aHi.out _ hgd,?_⟩;clear Pr
   try simp only[ah,List.set,aC]
   repeat ((first|(apply az;rfl;rintro W ⟨hW0,hW1,hW2⟩;go_simp;with_reducible rfl)|(apply aA;rfl));simp only[ah,List.set])
   refine bg ?_;by_cases wI:t.o.mem<(cs:Int)
   .have eF:=aoa (Dp.out.grow hgd) (by have:=Hb.out;omega) (by have:=Hb.out;omega) (by have:=Hb.out;omega) (by have:=Hb.out;omega) (by have:=Hb.out;show s.V.tabs.length<=4999;omega)
    have rC:=ae eF;have xp:=ae hgd;clear eF hgd
    go_wp2_with fail
    (with_reducible refine rC.out.mono ?_);rintro e w8 ⟨c8,t8,f8,T8,K8,s8,rfl,yf,UM,CF,Ew,UN,lN,sW,_,tV,Pt⟩;have aZ:=ae (ag yf (ag UM (ag CF (ag Ew (ag UN (ag lN (ag sW (ag tV Pt))))))));clear rC yf UM CF Ew UN lN sW tV Pt;go_wp2;go_ret2;obtain⟨yf,UM,CF,Ew,UN,lN,sW,tV,Pt⟩:=aZ.out;have dR:=ze.out;subst dR;have ku:aH (Pm s gp bs (t.seq+1,ws)).LL=fO (t.seq+1) ws (aH s.LL):=by show aH (gp++[bs++[(t.seq+1,ws)]])=_;rw[OQ,<-Dh.out.1]
    rw[ku]at tV Pt;refine⟨0,t.seq+1,t8,f8,T8,K8,s8,rfl,(Pe.out.grow xp.out).trans yf,UM,UN,lN,sW,.inr ⟨abR.out,HL.out,rfl,rfl,Ew,λx=>(CF x).trans (gB.out x),?_,λhle=>by rw[<-Hcs.out]at hle;omega,?_⟩⟩
    .rw[<-HP.out.1];omega
    .rw[<-HP.out.1];exact Pt
   .have xp:=ae hgd
    have dB:¬(t.o.mem<(cs:Int)):=wI;have Ou:(cs:Int)<=t.o.mem:=by omega
    clear hgd wI;go_wp2;go_ret2;have dR:=ze.out;subst dR;refine⟨0,t.seq+1,_,_,_,_,_,rfl,Pe.out.grow xp.out,(Dp.out.grow xp.out).more (by omega),rfl,rfl,Nat.le_succ _,.inr ⟨abR.out,HL.out,rfl,rfl,rfl,gB.out,?_,λ_=>⟨rfl,?_,?_⟩,.inr ⟨?_,?_⟩⟩⟩
    .rw[<-HP.out.1];omega
    .show aH (gp++[bs++[(t.seq+1,ws)]])=_;rw[OQ,<-Dh.out.1]
    .rw[<-HP.out.1]
    .rw[<-HP.out.1]
    .show aH (gp++[bs++[(t.seq+1,ws)]])=_;rw[OQ,<-Dh.out.1]
end
section
structure Told(size A C i:Nat)(f:Lk)(K:Nat)(s:di):Prop where
 gX:yV size f s
 log:gU f s.V.wal.toNat (gO (jy s.LL))
 sync:sA f
 lim:wZ A C i s
 rr:pD s<=i
 vu:qQ (cJ s)
 top:∀e∈cJ s,e.seq<=pD s
 K:K<=10*i
variable{Z B Nn A C i:Nat}{w w':World}{t:Tr}{f:Lk}{T K:Nat}{s:di}
theorem cY.told(a:cY Z B Nn A C i w t f T K s):Told t.o.block.toNat A C i f K s:=
 ⟨a.gX,a.log,a.sync,a.lim,by rw[<-a.seq];exact a.rr,a.vu,λb c=>by rw[<-a.seq];exact a.top b c,a.K⟩
abbrev Ba:di:=⟨dw,[],λ_=>[],[]⟩
abbrev Ky:Lk:=RX 0 [] (λ_=>none)
theorem Dq(k:ByteArray):Ky k=if k=uz then some (lJ 0,(lJ 0).length)else if k=dt 0 then some ([],0)else none:=rfl
theorem aoW:Ut Ky 0:=by
 refine⟨by rw[Dq,if_neg (WL 0),if_pos rfl];simp,λa b a=>?_⟩;rw[Dq]at a
 split at a
 .rename_i c
  rw[c]at b;exact absurd b (by decide)
 .split at a
  .assumption
  .exact absurd rfl a
theorem aHj(size:Nat){K:Nat}(a:K<=10):Told size 0 0 1 Ky K Ba:=by
 refine⟨⟨by rw[Dq,if_pos rfl],by rw[Dq,if_neg (WL 0),if_pos rfl];rfl,by rw[Dq,if_neg (by decide),if_neg (Ne.symm (QP 0))],aoW,rfl,aye,(λ_ a=>by cases a),(λf d=>by cases d),λc e c=>?_,λf d=>(by cases d),λf d=>(by cases d)⟩,⟨λd q a=>by simp at a,λg c f=>?_⟩,λm q d=>?_,?_,aY _,λh ha=>(by cases ha),λi i=>(by cases i),by omega⟩
 .exfalso
  rw[Dq]at c
  split at c
  .rename_i a;rw[a]at e;exact absurd e (by decide)
  .split at c
   .rename_i a
    rw[a]at e;have i:=Km (b:=116) (q:=[45]) (a:=109) (p:=[97,110,105,102,101,115,116,45]) (Uu 0) (by decide);exact absurd (i.symm.trans e) (by decide)
   .exact c rfl
 .exfalso
  have e:Ky g=none:=by
   rw[Dq];split
   .rename_i a;rw[a]at c;exact absurd (c.symm.trans abz) (by decide)
   .split
    .rename_i a;rw[a]at c;exact absurd (c.symm.trans (CZ 0)) (by decide)
    .rfl
  rw[e]at f;cases f
 .rw[Dq]at d
  split at d
  .cases d;rfl
  .split at d
   .cases d;rfl
   .cases d
 .exact⟨aw _,aw _,by decide,by decide,by decide,by decide,by decide,by decide,(λb a=>by cases a),by decide,by decide,by decide⟩
def acd(Z B size A C i:Nat)(w:World)(p r:Nat)(s:di)(Tb:Nat)(e:Ending)(w':World):Prop:=
 ∃sb,e=.returned (.tuple #[.pointer (some ⟨sb,0,none⟩),.nilIface])/\B<=sb/\∃tv f' T' K' F',eH w' sb p tv s.V ((0:Nat):Int)/\Mn.Own 0 w' tv s.V.tabs/\Dl Z B w' p r f' T' K' F'/\Rl B r w w'/\Told size A C i f' K' s/\T'<=Tb
theorem aoX{p:Nat}{F:Nat->Prop}(size:Nat)(a:Dl Z B w p r (λ_=>none) T K F)(f:df Nn B w)(h:0<Nn)(b:K<=5)(i:T+6<=Z):Calls Tryz.prog 48 #[.pointer (some ⟨p,0,none⟩)] w (acd Z B size 0 0 1 w p r Ba (T+6)):=by
 refine(anF a f (Q:=λb c f' T' K'=>b=dw/\c=0/\f'=Ky/\T'<=T+6/\K'<=10) (λb c f' T' K' d=>by obtain⟨_,rfl,_,_,e⟩:=d;omega) (λd sb g j d=>?_)).mono ?_
 .have e:B<=sb:=aJ a.base j;refine(aFV d (a.grow g) e (f.grow g a.base) h rfl rfl i).mono ?_;rintro h i ⟨rfl,j,⟨T',F',a,f⟩,g⟩;exact⟨rfl,_,dw,0,Ky,T',K+3,F',j,⟨rfl,.inl ⟨rfl,rfl⟩⟩,f,g,aoW,rfl,rfl,rfl,a,by omega⟩
 .rintro h i ⟨sb,rfl,e,tv,b,c,f',T',K',F',d,b,f,g,rfl,rfl,rfl,a,c⟩;exact⟨sb,rfl,e,tv,_,T',K',F',d,b,f,g,aHj size c,a⟩
theorem aHk{size:Nat}(a:Told size A C i f K s)(b:Dl Z B w p r f T K F)(l:df Nn B w)(o:0<Nn)(hi:i<=5000):Calls Tryz.prog 48 #[.pointer (some ⟨p,0,none⟩)] w (acd Z B size A C i w p r s T):=by
 have m:=a.lim;have y:=a.K;refine(anF b l (Q:=λc d f' T' K'=>c=s.V/\d=0/\f'=f/\T'=T/\K'=K) (λc d f' T' K' q=>by obtain⟨_,rfl,_,_,rfl⟩:=q;omega) (λz sb n t e=>?_)).mono ?_
 .have g:B<=sb:=aJ b.base t;refine(aGa e (b.grow n) g (l.grow n b.base) o (by omega) a.gX.cur a.gX.Kk a.gX.Kl (by have:=m.adds;omega) (by have:=m.el;omega) a.gX.all).mono ?_;rintro u v ⟨rfl,⟨tv,x,h⟩,⟨F',j⟩,k⟩;exact⟨rfl,tv,s.V,0,f,T,K,F',x,h,j,k,a.gX.one,rfl,rfl,rfl,rfl,rfl⟩
 .rintro u v ⟨sb,rfl,g,tv,c,d,f',T',K',F',e,h,j,k,rfl,rfl,rfl,rfl,rfl⟩;exact⟨sb,rfl,g,tv,f',T',K',F',e,h,j,k,a,aw _⟩
end
structure Gz(w3 W:World)(ds:List Int)(mb ha tm hm:Nat)(dv:Value):Prop where
 mem:∃N:Nat->Prop,ed N W mb ha [] 0 dv ds
 row:Go.Gl.Row1 3 w3.heap.size W dv (ds.map (λx=>.int .i64 x))
 UO:w3.heap.size<=mb
 UQ:w3.heap.size<=ha
 tab:eh W tm encI (λ_=>none) 0
 Kz:w3.heap.size<=tm
 held:eh W hm Ov (λ_=>none) 0
 KA:w3.heap.size<=hm
 ne:tm≠hm
theorem Gz.grow(a:Gz w3 W ds mb ha tm hm dv)(b:Grow W W'):Gz w3 W' ds mb ha tm hm dv:=by obtain⟨N,c⟩:=a.mem;exact⟨⟨N,c.grow b⟩,a.row.grow b,a.UO,a.UQ,a.tab.grow b,a.Kz,a.held.grow b,a.KA,a.ne⟩
def S8(w3:World)(sb xb:Nat)(o:Od)(cv:Value)(ds:List Int)(j:Nat)(v:Value)(W:World):Prop:=
 match j with
 |0=>v=.pointer (some ⟨sb,0,none⟩)
 |1=>v=vr o cv
 |2=>v=.pointer (some ⟨xb,5,none⟩)
 |3=>v=cv
 |4=>∃mb ha dv,v=.pointer (some ⟨mb,0,none⟩)/\(∃N:Nat->Prop,ed N W mb ha [] 0 dv ds)/\Go.Gl.Row1 3 w3.heap.size W dv (ds.map (λa=>.int .i64 a))/\w3.heap.size<=mb/\w3.heap.size<=ha
 |5=>∃tm,v=.map (some tm)/\eh W tm encI (λ_=>none) 0/\w3.heap.size<=tm
 |6=>∃hm,v=.map (some hm)/\eh W hm Ov (λ_=>none) 0/\w3.heap.size<=hm
 |7=>∃mb ha tm hm dv,v=.agg (rh sb o cv (.pointer none) mb tm 0 hm)/\Gz w3 W ds mb ha tm hm dv
 |8=>∃db mb ha tm hm dv,v=.pointer (some ⟨db,0,none⟩)/\w3.heap.size<=db/\fA W db sb o cv (.pointer none) mb tm 0 hm/\Gz w3 W ds mb ha tm hm dv
 |9=>∃db mb ha tm hm dv,v=.pointer (some ⟨db,0,none⟩)/\w3.heap.size<=db/\fA W db sb o cv (.pointer none) mb tm 0 hm/\Gz w3 W ds mb ha tm hm dv
 |_=>True
theorem S8.keep{o:Od}:∀(j:Nat)(v:Value)(W W':World),Grow W W'->S8 w3 sb xb o cv ds j v W->S8 w3 sb xb o cv ds j v W':=by
 intro j v W W' a b
 match j,b with
 |0,b=>exact b
 |1,b=>exact b
 |2,b=>exact b
 |3,b=>exact b
 |4,⟨mb,ha,dv,h1,⟨N,h3⟩,h6,h4,h5⟩=>exact⟨mb,ha,dv,h1,⟨N,h3.grow a⟩,h6.grow a,h4,h5⟩
 |5,⟨tm,h1,h2,h3⟩=>exact⟨tm,h1,h2.grow a,h3⟩
 |6,⟨tm,h1,h2,h3⟩=>exact⟨tm,h1,h2.grow a,h3⟩
 |7,⟨mb,ha,tm,hm,dv,h1,h2⟩=>exact⟨mb,ha,tm,hm,dv,h1,h2.grow a⟩
 |8,⟨db,mb,ha,tm,hm,dv,h1,h2,h3,h4⟩=>exact⟨db,mb,ha,tm,hm,dv,h1,h2,h3.grow a,h4.grow a⟩
 |9,⟨db,mb,ha,tm,hm,dv,h1,h2,h3,h4⟩=>exact⟨db,mb,ha,tm,hm,dv,h1,h2,h3.grow a,h4.grow a⟩
 |_+10,_=>exact True.intro
def T8(w3:World)(l:Array Bool)(a:Act)(W:World):Prop:=
 Grow w3 W/\(l.getD 5 false=true->l.getD 6 false=true->∃tm hm,a.tmps[44]?=some (.map (some tm))/\a.tmps[45]?=some (.map (some hm))/\tm≠hm)
theorem T8.next{l:Array Bool}{a:Act}(b:T8 w3 l a W)(hi:i≠5/\i≠6)(c:d≠44/\d≠45)(e:Grow W W'):T8 w3 (l.setIfInBounds i true) (a.put (some d) v) W':=
 ⟨b.1.trans e,λa d=>by rw[getD_set_ne false hi.1]at a;rw[getD_set_ne false hi.2]at d;obtain⟨tm,hm,e,f,g⟩:=b.2 a d;exact⟨tm,hm,jN c.1 e,jN c.2 f,g⟩⟩
structure Bl(Z B Nn:Nat)(W:World)(db sb p r mb ha tm hm sq:Nat)(o:Od)(cv dv tv:Value)(ds:List Int)(V:bM)(f:Lk)(T K:Nat)(F:Nat->Prop):Prop where
 cell:fA W db sb o cv (.pointer none) mb tm sq hm
 set:eH W sb p tv V ((0:Nat):Int)
 own:Mn.Own 0 W tv V.tabs
 mem:ed (λb=>dv.ownBlock=some b) W mb ha [] 0 dv ds
 Pv:Go.Gl.Row1 3 0 W dv (ds.map (λx=>.int .i64 x))
 UR:Go.Gl.Row1 3 0 W cv (ds.map (λx=>.int .i64 x))
 held:eh W hm Ov (λ_=>none) 0
 aS:Dl Z B W p r f T K F
 dK:df Nn B W
def aHl(W W':World):Prop:=W.heap.size<=W'.heap.size/\∀(b:Nat)(c:Array Value)(a:TypeId)(d:Nat×Nat),W.heap[b]?=some (.cells c a d)->(a=93\/a=154\/a=101\/a=181\/a=176\/a=287\/a=3\/a=85)->W'.heap[b]?=W.heap[b]?
theorem Bl.keep{o:Od}{V:bM}{f f':Lk}(a:Bl Z B Nn W db sb p r mb ha tm hm sq o cv dv tv ds V f T K F)(d:aHl W W')(g:W'.heap[hm]?=W.heap[hm]?)(h:Dl Z B W' p r f' T' K' F')(c:∀b,b<B->W'.heap[b]?=W.heap[b]?):Bl Z B Nn W' db sb p r mb ha tm hm sq o cv dv tv ds V f' T' K' F':=by
 have i:W.heap[db]?=some (.cells (rh sb o cv (.pointer none) mb tm sq hm) 93 (0,0)):=a.cell;have j:W.heap[sb]?=some (.cells (setCells p tv V ((0:Nat):Int)) 154 (0,0)):=a.set;have e:∀{v:Value},Go.Gl.Row1 3 0 W v (ds.map (λf=>.int .i64 f))->∀b,v.ownBlock=some b->W'.heap[b]?=W.heap[b]?:=λk b c=>by obtain⟨l,f⟩:=k.block c;exact d.2 b _ _ _ f (.inr (.inr (.inr (.inr (.inr (.inr (.inl rfl)))))))
 refine⟨a.cell.keep (d.2 _ _ _ _ i (.inl rfl)),a.set.same (d.2 _ _ _ _ j (.inr (.inl rfl))),Db a.own (λb l f=>d.2 _ _ _ _ f (.inr (.inr (.inl rfl)))),a.mem.keep (λb c=>?_) ⟨d.1,λb c _=>e a.Pv b c⟩,a.Pv.keep (e a.Pv),a.UR.keep (e a.UR),a.held.keep g,h,a.dK.keep c⟩;obtain⟨b,b,b,e⟩:=a.mem.kind c;exact d.2 _ _ _ _ b (by rcases e with rfl|rfl|rfl<;>simp)
theorem Bl.gx{o:Od}{V:bM}{f:Lk}(d:Bl Z B Nn W db sb p r mb ha tm hm sq o cv dv tv ds V f T K F){g:Int->Option Value}(h:eh W tm encI g m)(b:GX tm W W')(g:tm≠hm)(i:¬F tm)(a:B<=tm):Bl Z B Nn W' db sb p r mb ha tm hm sq o cv dv tv ds V f T K F:=by
 have a:=Sep.AX b;refine d.keep ⟨a.size,λe b b b b _=>a.out e (af b) (λc=>h.map (by rw[<-c];exact b))⟩ (a.out hm d.held.lt (λc=>g c.symm)) ?_ (λe b=>?_)
 .obtain⟨f,g,h⟩:=d.aS;exact⟨f,g.keep a.size (λe b=>a.out e (d.aS.foot b).2 (λc=>i (by rw[<-c];exact b))),h⟩
 .exact a.out e (by have:=d.aS.base;omega) (λc=>by omega)
theorem Bl.sep{o:Od}{V:bM}{f f':Lk}(a:Bl Z B Nn W db sb p r mb ha tm hm sq o cv dv tv ds V f T K F)(e:Dl Z B W' p r f' T' K' F')(b:Sep F W W' F')(f:¬F hm):Bl Z B Nn W' db sb p r mb ha tm hm sq o cv dv tv ds V f' T' K' F':=by
 refine a.keep ⟨b.size,λc d d d d g=>b.out c (af d) (a.aS.apart d ?_ ?_ ?_)⟩ (b.out hm a.held.lt f) e (λc d=>b.out c (by have:=a.aS.base;omega) (λb=>by have:=(a.aS.foot b).1;omega))
 all_goals rcases g with rfl|rfl|rfl|rfl|rfl|rfl|rfl|rfl<;>decide
def LdI(e:World)(tm:Nat)(c:List Tb)(f:Int->List En)(a:Value)(b:World):Prop:=
 ∃(i:Nat)(g:Int->Option (Nat×List En)) (h:Int->Option Value) (d:Nat),a=.int .i64 (i:Int)/\i<=c.length/\GX tm e b/\eh b tm encI h d/\
  (∀j a d,g j=some (a,d)->h j=some (.pointer (some ⟨a,0,none⟩))/\ve e.heap.size b a d/\∃b∈c,d=f b.file)/\
  (∀b∈c.take i,∃a,g b.file=some (a,f b.file))
theorem ve.mono{l:List En}(c:ve A W tb l)(a:A'<=A):ve A' W tb l:=by
 obtain⟨v,d,e,f,g,h,i,b⟩:=c;refine⟨v,d,e,f,g,aJ a h,i,⟨b.1.1,?_⟩,λd e=>?_⟩
 .rcases b.1.2 with c|⟨g',cap,cur,c,hB,lY⟩
  .exact .inl c
  .exact .inr ⟨g',cap,cur,c,aJ a hB,lY⟩
 .obtain⟨c,f⟩:=b.2 d e;exact⟨c,f.imp id (λb c d=>(b c d).imp id (λb=>⟨aJ a b.1,b.2⟩))⟩
theorem Told.table{size:Nat}{f:Lk}{s:di}(a:Told size A C i f K s){x:Tb}(b:x∈s.V.tabs):(s.aB x.file).length<=A/\costs (s.aB x.file)<=C:=by have c:(s.aB x.file).length<=(s.V.tabs.map λx=>(s.aB x.file).length).sum:=Kh (aV.2 ⟨x,b,rfl⟩);have c:costs (s.aB x.file)<=(s.V.tabs.map λx=>costs (s.aB x.file)).sum:=Kh (aV.2 ⟨x,b,rfl⟩);have b:=a.lim.pB;have b:=a.lim.cost;omega
def aoY(db sb p r lb mb tm hm ha:Nat)(o:Od)(cv:Value)(ds:List Int)(tv dv:Value)(V:bM)(sq m:Nat)(b F:Nat->Prop)(g:Int->Option Value)(c:Nat)(d:Int->Option (Nat×List En)):Tr:=
 ⟨db,sb,p,r,lb,mb,tm,hm,ha,o,cv,ds,tv,dv,V,sq,m,λa=>b a\/cv.ownBlock=some a\/dv.ownBlock=some a,F,[],g,c,d,λ_=>none,0⟩
theorem Bl.tree{o:Od}{V:bM}{f:Lk}(c:Bl Z B Nn W db sb p r mb ha tm hm sq o cv dv tv ds V f T K F){m:Nat}(s:eA W lb p cy (m:Int)){g:Int->Option Value}{d:Nat}(t:eh W tm encI g d){e:Int->Option (Nat×List En)}{n:Nat->Prop}(y:∀k b l,e k=some (b,l)->g k=some (.pointer (some ⟨b,0,none⟩))/\rp n W b l)(z:∀b,n b->b<W.heap.size/\¬F b/\¬FM mb ha [] b/\b≠db/\b≠sb/\b≠lb/\b≠tm/\b≠hm)(a:B<=db/\B<=sb/\B<=lb/\B<=mb/\B<=ha/\B<=tm/\B<=hm)(h1:¬F tm)(u:¬F hm)(C:tm≠hm)(D:ds.length<=1000000000):
  cR Z B Nn (W.setCell ⟨db,7,none⟩ (.pointer (some ⟨lb,0,none⟩))) (aoY db sb p r lb mb tm hm ha o cv ds tv dv V sq m n F g d e) f T K:=by
 have i:W.heap[db]?=some (.cells (rh sb o cv (.pointer none) mb tm sq hm) 93 (0,0)):=c.cell;have A:W.heap[sb]?=some (.cells (setCells p tv V ((0:Nat):Int)) 154 (0,0)):=c.set;have f:∀b,b≠db->(W.setCell ⟨db,7,none⟩ (.pointer (some ⟨lb,0,none⟩))).heap[b]?=W.heap[b]?:=λb d=>aN _ _ _ _ d
 have e:∀{b:Nat}{p:Array Value}{e:TypeId}{d:Nat×Nat},W.heap[b]?=some (.cells p e d)->e≠93->b≠db:=λa h d=>by rw[d,i]at a;exact h (cp (bh a)).2.1.symm
 have E:∀b,FM mb ha [] b->b≠db:=λb a=>by obtain⟨p,t',r,w⟩:=c.mem.kind a;refine e r ?_;rcases w with rfl|rfl|rfl<;>decide
 have G:tm≠db:=λd=>t.map (by rw[d];exact i)
 have H:hm≠db:=λd=>c.held.map (by rw[d];exact i)
 have o:∀{v:Value},Go.Gl.Row1 3 0 W v (ds.map (λj=>.int .i64 j))->∀b,v.ownBlock=some b->b<W.heap.size/\b≠db/\b≠sb/\b≠lb/\b≠tm/\b≠hm/\¬FM mb ha [] b/\¬F b:=λm b a=>by
  obtain⟨I,h⟩:=m.block a;have x:∀{J:Array Value}{B:TypeId}{K:Nat×Nat},W.heap[b]?=some (.cells J B K)->(3:TypeId)=B:=λu=>(cp (bh (h.symm.trans u))).2.1
  refine⟨(m.lt a).2,e h (by decide),λd=>?_,λd=>?_,λd=>t.map (by rw[<-d];exact h),λd=>c.held.map (by rw[<-d];exact h),λB=>?_,c.aS.apart h (by decide) (by decide) (by decide)⟩
  .have:=x (by rw[d];exact A);revert this;decide
  .have:=x (by rw[d];exact s.self);revert this;decide
  .obtain⟨p,t',r,w⟩:=c.mem.kind B;have:=x r;rcases w with rfl|rfl|rfl<;>revert this<;>decide
 have p:∀{v:Value},Go.Gl.Row1 3 0 W v (ds.map (λj=>.int .i64 j))->Go.Gl.Row1 3 0 (W.setCell ⟨db,7,none⟩ (.pointer (some ⟨lb,0,none⟩))) v (ds.map (λj=>.int .i64 j)):=λm=>m.keep (λb a=>f b (o m b a).2.1)
 have j:=c.aS.apart i (by decide) (by decide) (by decide);have m:Kp n W (W.setCell ⟨db,7,none⟩ (.pointer (some ⟨lb,0,none⟩))):=⟨by simp,λb a _=>f b (z b a).2.2.2.1⟩
 refine⟨Go.Gl.aK i 7 _,c.set.same (f _ (e A (by decide))),Db c.own (λb I h=>f b (e h (by decide))),s.same (f _ (e s.self (by decide))),⟨0,(c.mem.keep (λb a=>f b (E b a)) ⟨by simp,λb a _=>f b (o c.Pv b a).2.1⟩).mono (λb a=>.inr (.inr a))⟩,
  t.keep (f _ G),λk b l e=>⟨(y k b l e).1,((y k b l e).2.kp m).mono (λb a=>.inl a)⟩,c.held.keep (f _ H),Nc (p c.UR) D (λg e=>.inr (.inl e)),?_,c.dK.keep (λb e=>f b (by omega)),λb e=>?_,λb e=>?_,h1,u,C⟩
 .obtain⟨g,h,i⟩:=c.aS;exact⟨g,h.keep (by simp) (λb e=>f b (λd=>j (by rw[<-d];exact e))),i⟩
 .have d:b<W.heap.size/\b≠db/\b≠sb/\b≠lb/\b≠tm/\b≠hm/\¬FM mb ha [] b/\¬F b:=by
   rcases e with e|e|e
   .have:=z b e;exact⟨this.1,this.2.2.2.1,this.2.2.2.2.1,this.2.2.2.2.2.1,this.2.2.2.2.2.2.1,this.2.2.2.2.2.2.2,this.2.2.1,this.2.1⟩
   .exact o c.UR b e
   .exact o c.Pv b e
  obtain⟨k1,b,f,g,h,i,j,k⟩:=d;refine⟨by simpa using k1,?_⟩;rintro(q|q|q|q|q|q|q)
  .exact k q
  .exact j q
  .exact b q
  .exact f q
  .exact g q
  .exact h q
  .exact i q
 .rcases e with q|q|q|q|q|q|q
  .exact(c.aS.foot q).1
  .rcases q with q|q|⟨_,q,_⟩
   .rw[q];exact a.2.2.2.1
   .rw[q];exact a.2.2.2.2.1
   .cases q
  .rw[q];exact a.1
  .rw[q];exact a.2.1
  .rw[q];exact a.2.2.1
  .rw[q];exact a.2.2.2.2.2.1
  .rw[q];exact a.2.2.2.2.2.2
def aoZ(Z B Nn A C i:Nat)(w:World)(p r:Nat)(o:Od)(ds:List Int)(s:di)(Tb:Nat)(e:Ending)(w':World):Prop:=
 ∃(t':Tr)(f':Lk)(T' K':Nat)(a:di),e=.returned (.tuple #[.pointer (some ⟨t'.db,0,none⟩),.nilIface])/\cY Z B Nn A C (i+1) w' t' f' T' K' a/\t'.p=p/\t'.r=r/\t'.o=o/\t'.ds=ds/\
  a.V=s.V/\(∀b,b∈cJ a↔b∈cJ s)/\t'.seq=pD s/\t'.hh=(λ_=>none)/\t'.hn=0/\w.heap.size<=t'.tm/\w.heap.size<=t'.hm/\(∀a,t'.N a->w.heap.size<=a)/\Rl B r w w'/\T'<=Tb
theorem Rl.apa(a:Rl B r w W)(c:Sep G W W' G')(g:∀b,G b->w.heap.size<=b)(d:B<=w.heap.size):Rl B r w W':=by
 refine⟨⟨c.os.trans a.hold.os,c.tape.trans a.hold.tape,c.output.trans a.hold.output,aJ a.hold.size c.size,λb f h i d j=>?_,λb k d l m=>?_⟩,⟨c.os.trans a.below.os,c.tape.trans a.below.tape,c.output.trans a.below.output,aJ a.below.size c.size,λb d=>?_⟩⟩
 .have e:=a.hold.keep b f h i d j;exact(c.out b (af e) (λf=>by have:=g b f;have:=af d;omega)).trans e
 .have e:=a.hold.maps b k d l m;exact(c.out b (af e) (λf=>by have:=g b f;have:=af d;omega)).trans e
 .have e:=a.below.block b d;have d:=a.hold.size;exact(c.out b (by omega) (λf=>by have:=g b f;omega)).trans e
theorem Rl.stp{t t':Tr}{f:Lk}(b:Rl B t.r w W)(h:cR Z B Nn W t f T K)(a:fJ W t W' t')(d:t.ns=[])(h1:w.heap.size<=t.db)(c:w.heap.size<=t.mb)(c:w.heap.size<=t.ha)(c:w.heap.size<=t.lb)(c:w.heap.size<=t.tm)(c:w.heap.size<=t.hm)(c:B<=w.heap.size):Rl B t.r w W':=by
 have c:=a.sep;have j:W.heap[t.sb]?=some (.cells (setCells t.p t.tv t.V ((0:Nat):Int)) 154 (0,0)):=h.set;have k:∀a,FM t.mb t.ha t.ns a->w.heap.size<=a:=λa e=>by
  rcases e with q|q|⟨n,q,_⟩
  .omega
  .omega
  .rw[d]at q;cases q
 refine⟨⟨c.os.trans b.hold.os,c.tape.trans b.hold.tape,c.output.trans b.hold.output,aJ b.hold.size c.size,λa g m n e f=>?_,λa o e i l=>?_⟩,⟨c.os.trans b.below.os,c.tape.trans b.below.tape,c.output.trans b.below.output,aJ b.below.size c.size,λa e=>?_⟩⟩
 .have d:=b.hold.keep a g m n e f
  have lb:=af e;refine(c.out a (af d) ?_).trans d;rintro(q|q|q|q|q|q|q)
  .exact h.aS.apart d (λg=>f (.inl g)) (λg=>f (.inr (.inl g))) (λg=>f (.inr (.inr (.inl g)))) q
  .have:=k a q;omega
  .omega
  .rw[q,j]at d;exact f (.inr (.inr (.inr (cp (bh d)).2.1.symm)))
  .omega
  .omega
  .omega
 .have d:=b.hold.maps a o e i l
  have lb:=af e;refine(c.out a (af d) ?_).trans d;rintro(q|q|q|q|q|q|q)
  .exact h.aS.Xx d i l q
  .have:=k a q;omega
  .omega
  .rw[q,j]at d;exact i _ _ _ (bh d).symm
  .omega
  .omega
  .omega
 .exact(c.out a (by have:=b.hold.size;omega) (λc=>by have:=h.base a c;omega)).trans (b.below.block a e)
def jJ(a:List (List (Nat×List Wr))):List (List (Nat×List Wr)):=if a=[]then[[]]else a
theorem apb(a:List (List (Nat×List Wr))):(jJ a).flatten=a.flatten:=by
 unfold jJ;by_cases b:a=[]
 .rw[if_pos b,b];rfl
 .rw[if_neg b]
theorem apc(b:List (List (Nat×List Wr))):jJ b≠[]:=by
 unfold jJ;by_cases a:b=[]
 .rw[if_pos a];exact List.cons_ne_nil _ _
 .rw[if_neg a];exact a
theorem apd(a:List (List (Nat×List Wr))):(jJ a).length<=a.length+1/\0<(jJ a).length:=by
 refine⟨?_,List.length_pos_iff.2 (apc a)⟩;unfold jJ;by_cases b:a=[]
 .rw[if_pos b];simp
 .rw[if_neg b];omega
theorem acf(b:List (List (Nat×List Wr))):pg (gO (jy b))=gO (jy (jJ b)):=by
 unfold pg jJ;by_cases a:b=[]
 .rw[if_pos a,a];simp[cg]
 .rw[if_neg a,if_neg (λb=>a (by simpa using b))]
theorem Told.opened{t:Tr}{f:Lk}{a:Nat}{s:di}(e:Told t.o.block.toNat A C i f K s)(ha:s.V.wal=(a:Int))(d:cR Z B Nn w t (qP cy a f (gO (jy s.LL))) T K')(m:t.V=s.V)(o:t.ns.map (λn=>n.x.e)=s.LL.flatten.foldl (λl b=>fO b.1 b.2 l) [])(hm:t.m=a+((jJ s.LL).length-1))(p:∀x∈s.V.tabs,∃b,t.ld x.file=some (b,s.aB x.file))(q:sw t.o)(j:t.seq=(s.LL.flatten.map (·.1)).foldl max s.V.seq.toNat)(c:K'<=K+10):cY Z B Nn A C (i+1) w t (qP cy a f (gO (jy s.LL))) T K' {s with LL:=jJ s.LL}:=by
 have c:=e.lim;have g:=apb s.LL;obtain⟨h,h⟩:=apd s.LL;have i:s.V.wal.toNat=a:=by omega
 have h:aH (jJ s.LL)=aH s.LL:=by unfold aH;rw[g]
 have k:cJ {s with LL:=jJ s.LL}=cJ s:=by unfold cJ;dsimp only;rw[h]
 have r:pD {s with LL:=jJ s.LL}=pD s:=by unfold pD;dsimp only;rw[g]
 have l:=e.log;rw[i]at l;refine⟨d,m,?_,?_,?_,?_,by rw[o,h];rfl,by rw[hm];dsimp only;rw[ha];omega,apc _,p,q,by rw[j,r];rfl,by rw[j];have:=e.rr;unfold pD at this;omega,by rw[k];exact e.vu,λo m=>?_,by have:=e.K;omega⟩
 .have d:=e.gX.abB (f':=qP cy a f (gO (jy s.LL))) (λn a=>by
   unfold qP;split
   .exact iC _ (tN a _) _
   .rfl)
  exact⟨d.cur,d.Kk,d.tmp,d.one,d.all,d.good,d.Kl,d.tabs,d.only,d.aB,d.files⟩
 .dsimp only;rw[i,<-acf];exact Yn l
 .unfold qP
  split
  .exact sA.set e.sync _ []
  .exact e.sync
 .exact⟨by dsimp only;rw[h];exact c.pB,by dsimp only;rw[h];exact c.cost,c.yX,by have:=c.wal;dsimp only;omega,c.Gk,by have:=c.next;dsimp only;omega,by have:=c.el;dsimp only;omega,by have:=c.adds;dsimp only;omega,λb a=>c.Gm b (by rw[<-g];exact a),by have:=c.Kn;dsimp only;rw[g];omega,by dsimp only;rw[g];exact c.OV,by dsimp only;rw[g];exact c.OW⟩
 .rw[k]at m;rw[j];exact e.top o m
section
def OpJ(Z B Nn:Nat)(d:World)(a:Tr)(f:Lk)(T K:Nat)(b:List (Nat×List Wr))(e:Value)(c:World):Prop:=
 ∃(i:Nat)(t:Tr),e=.int .i64 (i:Int)/\i<=b.length/\cR Z B Nn c t f T K/\fJ d a c t/\t.ns.map (λc=>c.x.e)=(b.take i).foldl (λd c=>fO c.1 c.2 d) []/\t.seq=((b.take i).map (·.1)).foldl max a.seq/\t.V=a.V/\t.ld=a.ld/\t.hh=a.hh/\t.hn=a.hn/\t.m=a.m
variable{Z B Nn A C i:Nat}{w:World}{f:Lk}{T K:Nat}{s:di}
theorem ach(hd:Dl Z B w p r f T K F)(hN:df Nn B w){o:Od}{drv:Value}{N0:Nat->Prop}(hdr:∀W,Rl B r w W->Iw N0 W drv ds)(tP:sw o){Tb:Nat}(Bb:∀W,Grow w W->Calls Tryz.prog 48 #[.pointer (some ⟨p,0,none⟩)] W (acd Z B o.block.toNat A C i W p r s Tb))(hA:A<=100000)(hC:C<=1000000)(hi:i+4<=Nn)(xe:i<=800000)(dG:s.V.tabs.length<=100000):
  Calls Tryz.prog 23 #[.pointer (some ⟨p,0,none⟩),vr o drv] w (aoZ Z B Nn A C i w p r o ds s Tb):=by
 have ai:=ar w (.cells #[.int .i64 o.mem,.int .i64 o.block,.int .i64 o.zero,.int .i64 o.base,.int .i64 o.table,drv] 26);have iE:=ax w (.cells #[.int .i64 o.mem,.int .i64 o.block,.int .i64 o.zero,.int .i64 o.base,.int .i64 o.table,drv] 26);have aci:=λW=>amZ o drv W
 rw[if_pos tP]at aci;have Hd0:=ae hd.base;have apf:ds.length<=1000000000:=by obtain⟨_,_,_,h,_⟩:=hdr w (Rl.refl B r w);exact h
 have apg:=ae aci;have Hd:=ae hd;have HN:=ae hN;have qL:=ae hdr;have aHr:=ae tP;have GA:=ae Bb;have Hb:=ae (ag hA (ag hC (ag hi (ag xe (ag dG apf)))));clear hd hN hdr tP Bb hA hC hi xe dG aci apf;go_enter Tryz.func23,Tryz.ntmps23
 go_upto_region 1 with fail
 generalize w.alloc (.cells #[.int .i64 o.mem,.int .i64 o.block,.int .i64 o.zero,.int .i64 o.base,.int .i64 o.table,drv] 26)=w1 at*;obtain⟨xb,Bc⟩:∃xb,xb=w.heap.size:=⟨_,rfl⟩
 rw[<-Bc]at iE ⊢;have aph:=ae Bc;obtain⟨⟨x0,x1,x2,x3,x4,x5⟩,lx⟩:=Ge iE;have wN:=ae iE;have eV:=ae ai;clear Bc iE ai
 go_wp2_with fail
 (with_reducible refine(apg.out w1).mono ?_);rintro e w2 ⟨rfl,hg2⟩;have eG:=ae (eV.out.trans hg2);have Tm:=ae hg2;clear hg2 x0 x1 x2 x3 x4 x5 lx
 go_wp2_with fail
 (with_reducible refine(GA.out w2 eG.out).mono ?_);rintro e w3 ⟨sb,rfl,Px,tv,f3,T3,K3,F3,wY,nH,gA,hr3,xn,tM⟩;have Py:=ae (hr3.hold.keep _ _ _ _ (Tm.out.heap wN.out) (by unfold BP;decide));have UT:=ae ((Rl.grow (r:=r) eG.out Hd.out.base).trans hr3);obtain⟨⟨x0,x1,x2,x3,x4,x5⟩,lx⟩:=Ge Py.out;have Gj:=ae wY;have Ho3:=ae nH;have Dg:=ae gA;have mJ:=ae (ag xn (ag tM Px));have Et:=ae hr3;clear wY nH gA hr3 xn tM Px;have aU:=ajh (qL.out w3 UT.out);have gC:=ae aU;clear aU
 go_wp2_with fail
 (with_reducible refine gC.out.mono ?_);rintro e w4 ⟨cv,rfl,hcv,hg4⟩;clear x0 x1 x2 x3 x4 x5 lx gC;have qV:=hg4.heap Py.out;have fx:=bG qV;obtain⟨⟨x0,x1,x2,x3,x4,x5⟩,lx⟩:=Ge qV;have zM:=Go.Gl.aK qV 5 cv;have apj:∀b,cv.ownBlock=some b->b≠xb:=λb hb e=>by obtain⟨cur,hc⟩:=hcv.block hb;rw[e,qV]at hc;exact absurd (cp (bh hc)).2.1 (by decide)
 have UU:Go.Gl.Row1 3 w3.heap.size (w4.setCell ⟨xb,5,none⟩ cv) cv (ds.map (λx=>.int .i64 x)):=hcv.keep (λb hb=>aN _ _ _ _ (λe=>apj b hb e));have hiw:Iw (λb=>w3.heap.size<=b) (w4.setCell ⟨xb,5,none⟩ cv) cv ds:=Nc UU Hb.out.2.2.2.2.2 (λg hg=>(UU.lt hg).1);have dC:w.heap.size<=xb:=Nat.le_of_eq aph.out.symm;have cG:eH (w4.setCell ⟨xb,5,none⟩ cv) sb p tv s.V ((0:Nat):Int):=by have h1:w4.heap[sb]?=some (.cells (setCells p tv s.V ((0:Nat):Int)) 154 (0,0)):=Gj.out.grow hg4;refine eH.same h1 (aN _ _ _ _ (λe=>?_));have e':sb=xb:=e;rw[e',qV]at h1;exact absurd (cp (bh h1)).2.1 (by decide)
 have hown:Mn.Own 0 (w4.setCell ⟨xb,5,none⟩ cv) tv s.V.tabs:=Db (fB Ho3.out hg4) (λb cur hc=>aN _ _ _ _ (λe=>by have e':b=xb:=e;rw[e',qV]at hc;exact absurd (cp (bh hc)).2.1 (by decide)))
 have hdk:Dl Z B (w4.setCell ⟨xb,5,none⟩ cv) p r f3 T3 K3 F3:=by have kD:=Dg.out.grow hg4;have tE:=kD.apart qV (by decide) (by decide) (by decide);obtain⟨V,d1,d2,d3,d4⟩:=kD;exact⟨V,d1.keep (by simp) (λb hb=>aN _ _ _ _ (λe=>tE (by have e':b=xb:=e;rw[<-e'];exact hb))),d2,d3,d4⟩
 have hBx:B<=xb:=aJ Hd.out.base dC;have uY:Rl B r w (w4.setCell ⟨xb,5,none⟩ cv):=by
  have h1:=UT.out.trans (Rl.grow (r:=r) hg4 Dg.out.base);refine⟨⟨h1.hold.os,h1.hold.tape,h1.hold.output,by simpa using h1.hold.size,λb arr ty fz h ht=>?_,λb ob h hc hn=>?_⟩,h1.below.setCell (p:=⟨xb,5,none⟩) hBx cv⟩
  .rw[aN _ _ _ _ (λe=>by have e':b=xb:=e;have:=af h;omega)];exact h1.hold.keep b arr ty fz h ht
  .rw[aN _ _ _ _ (λe=>by have e':b=xb:=e;have:=af h;omega)];exact h1.hold.maps b ob h hc hn
 have ki:df Nn B (w4.setCell ⟨xb,5,none⟩ cv):=HN.out.keep (λb hb=>uY.below.block b hb);have apm:w.heap.size<=w3.heap.size:=UT.out.hold.size;have apn:w3.heap.size<=(w4.setCell ⟨xb,5,none⟩ cv).heap.size:=by simpa using hg4.size
 have HX:=ae zM;have HIw:=ae hiw;have HCr:=ae UU;have tj:=ae cG;have HO5:=ae hown;have sV:=ae hdk;have HR5:=ae uY;have HN5:=ae ki;have Dr:=ae (ag apm (ag apn hBx));obtain⟨ca,cc,aps⟩:=hcv.slice;rw[bA]at aps;subst aps;clear hcv hg4 qV zM apj UU hiw dC cG hown hdk hBx uY ki apm apn Gj Ho3 Dg Et UT Py Hd HN qL apg GA eV eG Tm wN
 go_upto_region 8 with fail
 generalize w4.setCell ⟨xb,5,none⟩ (.slice ca ds.length cc)=w5 at*;have fL:=@run_makeMap Tryz.prog;have hgd:=ay w5;refine xA (λa0 ha0=>?_);have F3:a0.tmps[3]?=some (.pointer (some ⟨xb,0,none⟩)):=by rw[ha0];rfl
 have F7:a0.tmps[7]?=some (.pointer (some ⟨sb,0,none⟩)):=by rw[ha0];rfl
 have hsz:a0.tmps.size=113:=by rw[ha0];rfl
 have pd:=ae ha0;have xp:=ae hgd;clear ha0 hgd fx x0 x1 x2 x3 x4 x5 lx;refine xC (S8 w5 sb xb o (.slice ca ds.length cc) ds) (T8 w5) Grow [39,40,41,42,43,44,45,46,47,9] (by kernel_rfl) (by kernel_rfl) (by rw[hsz];rfl) S8.keep ⟨xp.out,λh=>by cases h⟩ ?_ (λa1 W1 hf=>?_);rotate_left
 .obtain⟨v9,s9,db,mb,ha,tm,hm,dv,q9,sY,hC,hop⟩:=hf.slot 9 9 rfl (by rfl)
  subst q9;have UW:Grow w5 W1:=hf.world.1;have e:=hf.alike.fill;rw[pd.out]at e;simp only[List.foldl_cons,List.foldl_nil,Act.put,nZ,List.set_cons_zero,lU]at e;have h9:a1.tmps.getD 9 undef=.pointer (some ⟨db,0,none⟩):=by rw[gZ,s9];rfl
  obtain⟨Rz,Ms⟩:∃u,a1.tmps.getD 39 undef=u:=⟨_,rfl⟩
  obtain⟨RA,Mt⟩:∃u,a1.tmps.getD 40 undef=u:=⟨_,rfl⟩
  obtain⟨RB,Mu⟩:∃u,a1.tmps.getD 41 undef=u:=⟨_,rfl⟩
  obtain⟨RD,Mv⟩:∃u,a1.tmps.getD 42 undef=u:=⟨_,rfl⟩
  obtain⟨RG,Mw⟩:∃u,a1.tmps.getD 43 undef=u:=⟨_,rfl⟩
  obtain⟨u44,h44⟩:∃u,a1.tmps.getD 44 undef=u:=⟨_,rfl⟩
  obtain⟨u45,h45⟩:∃u,a1.tmps.getD 45 undef=u:=⟨_,rfl⟩
  obtain⟨u46,h46⟩:∃u,a1.tmps.getD 46 undef=u:=⟨_,rfl⟩
  obtain⟨u47,h47⟩:∃u,a1.tmps.getD 47 undef=u:=⟨_,rfl⟩
  rw[h9,Ms,Mt,Mu,Mv,Mw,h44,h45,h46,h47]at e;clear hf h9 Ms Mt Mu Mv Mw h44 h45 h46 h47 s9;rw[e];have MD:=tj.out.grow UW;have vo:=Yb MD (fB HO5.out UW) (by have:=Hb.out;omega);have CW:=ae vo;have FW:=ae hC;have GC:=ae hop;have Nf:=ae UW;have zS:=ae sY;obtain⟨c0,_,_,_,_,c10,_,bN⟩:=hC.cells;clear e pd F3 F7 hsz MD vo hC hop UW sY fL
  go_wp2_with fail
  (with_reducible refine CW.out.mono ?_);rintro e w7 ⟨v7,rfl,kA,dF⟩;obtain⟨ta,tc,rfl⟩:=km kA;have hgb:=ar w7 (.cells (bS (.slice ta s.V.tabs.length tc) s.V.seq s.V.next s.V.wal) 85);have kf:=ax w7 (.cells (bS (.slice ta s.V.tabs.length tc) s.V.seq s.V.next s.V.wal) 85);have rR:=fB kA hgb;have UX:=dF.trans hgb;clear c0 c10 bN CW
  go_upto_region 10 with fail
  generalize w7.alloc (.cells (bS (.slice ta s.V.tabs.length tc) s.V.seq s.V.next s.V.wal) 85)=w8 at*;obtain⟨vb,apx⟩:∃vb,vb=w7.heap.size:=⟨_,rfl⟩
  rw[<-apx]at kf ⊢;have GD:w8.heap[db]?=some (.cells (rh sb o (.slice ca ds.length cc) (.pointer none) mb tm 0 hm) 93 (0,0)):=FW.out.grow UX;obtain⟨zf,vx⟩:∃q:Nat,s.V.seq=(q:Int):=⟨s.V.seq.toNat,by have:=mJ.out.1.gX.good.seq.1;omega⟩
  have Gs:=Go.Gl.aK GD 10 (.int .u64 s.V.seq);have kq:Sep (λb=>b=db) w8 (w8.setCell ⟨db,10,none⟩ (.int .u64 s.V.seq)) (λb=>b=db):=⟨rfl,rfl,rfl,by simp,λb _ hn=>aN _ _ _ _ hn,λb hb=>.inl hb⟩
  have Bd:∀{b:Nat}{arr:Array Value}{ty:TypeId}{fz:Nat×Nat},w8.heap[b]?=some (.cells arr ty fz)->ty≠93->(w8.setCell ⟨db,10,none⟩ (.int .u64 s.V.seq)).heap[b]?=w8.heap[b]?:=λhb se=>aN _ _ _ _ (λe=>by rw[e,GD]at hb;exact se (cp (bh hb)).2.1.symm)
  have zg:=Nf.out.trans UX;have apy:eH (w8.setCell ⟨db,10,none⟩ (.int .u64 s.V.seq)) sb p tv s.V ((0:Nat):Int):=by have h1:w8.heap[sb]?=some (.cells (setCells p tv s.V ((0:Nat):Int)) 154 (0,0)):=tj.out.grow zg;exact eH.same h1 (Bd h1 (by decide))
  have apz:Mn.Own 0 (w8.setCell ⟨db,10,none⟩ (.int .u64 s.V.seq)) tv s.V.tabs:=Db (fB HO5.out zg) (λb cur hc=>Bd hc (by decide));have Oq:Mn.Own w8.heap.size (w8.setCell ⟨db,10,none⟩ (.int .u64 s.V.seq)) (.slice none 0 0) []:=⟨rfl,.inl ⟨rfl,rfl⟩⟩
  have apB:Mn.Own W1.heap.size (w8.setCell ⟨db,10,none⟩ (.int .u64 s.V.seq)) (.slice ta s.V.tabs.length tc) s.V.tabs:=Db rR (λb cur hc=>Bd hc (by decide));have apC:=(Bd kf (by decide)).trans kf;have gS:Dl Z B (w8.setCell ⟨db,10,none⟩ (.int .u64 s.V.seq)) p r f3 T3 K3 F3:=by have IP:=sV.out.grow zg;have tE:=IP.apart GD (by decide) (by decide) (by decide);obtain⟨V,d1,d2,d3,d4⟩:=IP;exact⟨V,d1.keep (by simp) (λb hb=>aN _ _ _ _ (λe=>tE (by have e':b=db:=e;rw[<-e'];exact hb))),d2,d3,d4⟩
  have Be:=GC.out.grow UX;obtain⟨Nm,uL⟩:=Be.mem;have apD:Go.Gl.Row1 3 w5.heap.size (w8.setCell ⟨db,10,none⟩ (.int .u64 s.V.seq)) dv (ds.map (λx=>.int .i64 x)):=Be.row.keep (λb hb=>by obtain⟨cur,hc⟩:=Be.row.block hb;exact Bd hc (by decide))
  have apE:ed (λb=>dv.ownBlock=some b) (w8.setCell ⟨db,10,none⟩ (.int .u64 s.V.seq)) mb ha [] 0 dv ds:=by
   have k:∀b,FM mb ha [] b->(w8.setCell ⟨db,10,none⟩ (.int .u64 s.V.seq)).heap[b]?=w8.heap[b]?:=λb hb=>by obtain⟨arr,ty,h1,h2⟩:=uL.kind hb;refine Bd h1 ?_;rcases h2 with rfl|rfl|rfl<;>decide
   have Jv:ed (λb=>dv.ownBlock=some b) w8 mb ha [] 0 dv ds:=⟨uL.self,⟨λn hn=>(by cases hn),uL.skip.ju,λn hn=>(by cases hn),List.nodup_nil,uL.skip.EX,λn hn=>(by cases hn),cx.nil⟩,aY _,Nc Be.row Hb.out.2.2.2.2.2 (λg hg=>hg)⟩
   exact Jv.keep k ⟨by simp,λb hb _=>by obtain⟨cur,hc⟩:=Be.row.block hb;exact Bd hc (by decide)⟩
  have ndm:∀{m:Nat}{enc:Int->Value}{g:Int->Option Value}{n:Nat},eh w8 m enc g n->eh (w8.setCell ⟨db,10,none⟩ (.int .u64 s.V.seq)) m enc g n:=λjW=>jW.keep (aN _ _ _ _ (λe=>by have:=jW.map (arr:=_) (ty:=_) (fz:=_) (by rw[e];exact GD);exact this))
  have apF:=ndm Be.tab;have acr:=(HCr.out.mono (aY _)).grow zg;have apG:Go.Gl.Row1 3 0 (w8.setCell ⟨db,10,none⟩ (.int .u64 s.V.seq)) (.slice ca ds.length cc) (ds.map (λx=>.int .i64 x)):=acr.keep (λb hb=>by obtain⟨cur,hc⟩:=acr.block hb;exact Bd hc (by decide))
  have apH:B<=db:=aJ sV.out.base zS.out;have apI:fA (w8.setCell ⟨db,10,none⟩ (.int .u64 s.V.seq)) db sb o (.slice ca ds.length cc) (.pointer none) mb tm zf hm:=by rw[vx]at Gs ⊢;exact Gs
  have hbl:Bl Z B Nn (w8.setCell ⟨db,10,none⟩ (.int .u64 s.V.seq)) db sb p r mb ha tm hm zf o (.slice ca ds.length cc) dv tv ds s.V f3 T3 K3 F3:=⟨apI,apy,apz,apE,apD.mono (aY _),apG,ndm Be.held,gS,HN5.out.keep (λb hb=>by rw[aN _ _ _ _ (λe=>by have e':b=db:=e;omega)];exact zg.block b (bF hb sV.out.base))⟩
  have hr9:Rl B r w (w8.setCell ⟨db,10,none⟩ (.int .u64 s.V.seq)):=by
   have h1:=HR5.out.trans (Rl.grow (r:=r) zg sV.out.base);have hdw:w.heap.size<=db:=aJ (aJ Dr.out.1 Dr.out.2.1) zS.out;refine⟨⟨h1.hold.os,h1.hold.tape,h1.hold.output,by simpa using h1.hold.size,λb arr ty fz h ht=>?_,λb ob h hc hn=>?_⟩,h1.below.setCell (p:=⟨db,10,none⟩) apH _⟩
   .rw[aN _ _ _ _ (λe=>by have e':b=db:=e;have:=af h;omega)];exact h1.hold.keep b arr ty fz h ht
   .rw[aN _ _ _ _ (λe=>by have e':b=db:=e;have:=af h;omega)];exact h1.hold.maps b ob h hc hn
  have apK:w.heap.size<=w5.heap.size/\w5.heap.size<=tm/\w5.heap.size<=hm/\w5.heap.size<=mb/\w5.heap.size<=ha/\tm≠hm/\B<=w5.heap.size/\w5.heap.size<=db:=⟨aJ Dr.out.1 Dr.out.2.1,GC.out.Kz,GC.out.KA,GC.out.UO,GC.out.UQ,GC.out.ne,sV.out.base,zS.out⟩
  have vy:∀b,F3 b->b<w5.heap.size:=λb hb=>(sV.out.foot hb).2
  have yP:=bG GD;obtain⟨c0,_,_,_,_,c10,_,bN⟩:=(show fA w8 db sb o (.slice ca ds.length cc) (.pointer none) mb tm 0 hm from GD).cells;obtain⟨v0,v1,v2,v3⟩:=dJ kf;have OO:=af kf;have HBl:=ae hbl;have HCw:=ae (λb (hb:(Value.slice ca ds.length cc).ownBlock=some b)=>(show w.heap.size<=b from aJ Dr.out.1 (HCr.out.lt hb).1));have HDw:=ae (λb (hb:dv.ownBlock=some b)=>(show w.heap.size<=b from aJ (aJ Dr.out.1 Dr.out.2.1) (Be.row.lt hb).1));have HR9:=ae hr9;have Pz:=ae apF;have Hnu:=ae (ag apK (ag vy vx));have aHv:=ae (rK apB (aY _));have PA:=ae apC;clear apx GD Gs kq Bd zg apy apz Oq apB apC gS Be uL apD apE ndm apF acr apG apH apI hbl hr9 apK vy vx kf rR UX hgb kA dF tj HO5 sV HR5 HN5 Dr HIw HCr HX FW GC Nf zS aph
  go_upto_region 11 with fail
  generalize w8.setCell ⟨db,10,none⟩ (.int .u64 s.V.seq)=w9 at*;have apN:LdI w9 tm s.V.tabs s.aB (.int .i64 0) w9:=⟨0,λ_=>none,λ_=>none,0,rfl,aY _,GX.refl _ _,Pz.out,(λk b l h=>by cases h),(λx hx=>by simp at hx)⟩
  have apO:=ae apN;clear apN;obtain⟨v0,v1,v2,v3⟩:=dJ PA.out;have OO:=af PA.out
  go_wp2_with fail
  clear v0 v1 v2 v3 OO
  go_loopw [61] (λiv wr=>LdI w9 tm s.V.tabs s.aB iv wr) (λiv _=>s.V.tabs.length-(intOf iv).toNat)
  case atStart=>exact apO.out
  case round=>
   clear apO;obtain⟨i,ld,g,gm,rfl,hi,hgx,jW,lj,hall⟩:=hrel;obtain⟨⟨n1,n2,n3,n4,n5,n6,n7,n8⟩,vy,vx⟩:=Hnu.out;have acs:¬F3 tm:=λhf=>by have:=vy _ hf;omega
   have zh:=HBl.out.gx Pz.out hgx n6 acs (by omega);have GG:=Sep.AX hgx;by_cases hlt:i<s.V.tabs.length
   .obtain⟨x,hx⟩:∃x,s.V.tabs[i]?=some x:=⟨s.V.tabs[i],by simp[hlt]⟩
    have nP:=dm hx;have acu:Mn.Own 0 wr (.slice ta s.V.tabs.length tc) s.V.tabs:=Db aHv.out (λb cur hc=>GG.out b (af hc) (λe=>Pz.out.map (by rw[<-e];exact hc)));obtain⟨gT,aEX,aEY,jV,Ot,lY⟩:∃(g cap:Nat)(cur:Array Value),(Value.slice ta s.V.tabs.length tc)=.slice (some ⟨g,0,none⟩) s.V.tabs.length cap/\wr.heap[g]?=some (.cells cur 101 (0,0))/\Rd wr g 0 jF 5 s.V.tabs:=by
     rcases id acu.2 with⟨h1,h0⟩|⟨g,cap,cur,h1,h2,h3,h4⟩
     .omega
     .exact⟨g,cap,cur,h1,h3,xS rL (h1 ▸ acu)⟩
    cases jV;have js:=lY i x hx;obtain⟨n,hn⟩:∃n:Nat,x.file=(n:Int):=⟨x.file.toNat,by have:=(mJ.out.1.gX.good.tabs x nP).file.1;omega⟩
    have Jo:x.file.toNat=n:=by omega
    have Uy:n<i+n+1:=by omega
    have hb:=Hb.out;have dB:n+4<=Nn/\n<1000000:=by have h1:=mJ.out.1.gX.files x nP;have h2:=mJ.out.1.lim.next;omega
    obtain⟨t1,t2⟩:=mJ.out.1.table nP;have t3:=OX (s.aB x.file);obtain⟨e1,e2⟩:=mJ.out.1.gX.aB x nP;have aX:=λo'=>ar wr o'
    have Kt:=mJ.out.1.gX.tabs x nP;rw[Jo]at Kt;have apP:=λ(W:World)(hg:Grow wr W)=>amu (zh.cell.grow hg) (zh.set.grow hg) (zh.aS.grow hg) (zh.dK.grow hg zh.aS.base) (n:=n) (by omega) dB.2 Kt e1 e2.ord e2.gone e2.ok (by omega) (by omega) (jW.grow hg)
    have fQ:∀(W w2:World)(tb:Nat),Grow wr W->TZ W tm g gm n (s.aB x.file) w2 tb->LdI w9 tm s.V.tabs s.aB (.int .i64 ((i:Int)+1)) w2:=λW w2 tb hg hl=>by
     have lD:=(GX.of (g:=tm) hg).trans hl.gx;refine⟨i+1,λk=>if k=(n:Int)then some (tb,s.aB x.file)else ld k,_,gm+1,by simp,hlt,hgx.trans lD,hl.map,λk b l hk=>?_,λy hy=>?_⟩
     .dsimp only at hk
      split at hk
      .rename_i he
       cases hk;exact⟨by unfold tJ;rw[if_pos he],hl.sst.mono (aJ GG.size hg.size),x,nP,rfl⟩
      .rename_i he
       obtain⟨h1,h2,h3⟩:=lj k b l hk;exact⟨by unfold tJ;rw[if_neg he];exact h1,h2.gx lD jW.aaM,h3⟩
     .rw[take_one hx]at hy
      dsimp only;by_cases he:y.file=(n:Int)
      .refine⟨tb,?_⟩;rw[if_pos he,he,hn]
      .rw[if_neg he]
       rcases dn.1 hy with hy|hy
       .exact hall y hy
       .rw[cZ.1 hy]at he;exact absurd hn he
    obtain⟨f0,f1,f2,f3',f4⟩:=x;dsimp only at hn;subst hn;have a0:=js 0 _ rfl;have a1:=js 1 _ rfl;have a2:=js 2 _ rfl;have a3:=js 3 _ rfl;have a4:=js 4 _ rfl;simp only[Nat.add_zero,Nat.zero_add]at a0 a1 a2 a3 a4;have lT:gT<wr.heap.size:=af Ot;have eN:(i:Int)<(s.V.tabs.length:Int):=by omega
    have bU:(0:Int)<=(i:Int):=by omega
    have fT:IntKind.i64.wrap ((i:Int)+1)=(i:Int)+1:=aQ _ (by omega);have ai:=ar wr (.cells #[.int .i64 (n:Int),.int .i64 f1,.string f2,.string f3',.int .i64 f4] 101);have acv:=ax wr (.cells #[.int .i64 (n:Int),.int .i64 f1,.string f2,.string f3',.int .i64 f4] 101);obtain⟨b0,b1,b2,b3,b4⟩:=dI acv;have lb:=af acv;have apQ:=ae (apP _ ai);have kX:=ae (λw2 tb=>fQ _ w2 tb ai);have iy:=ae hlt;clear apP fQ js lY Ot acu hx nP Jo Uy hb dB t1 t2 t3 e1 e2 aX Kt zh GG hgx jW lj hall acs n1 n2 n3 n4 n5 n6 n7 n8 vy vx ai acv hlt
    go_wp2_with fail
    (with_reducible refine apQ.out.mono ?_);rintro e w2 ⟨rfl,tb,Pj⟩;have aR:=ae (kX.out w2 tb Pj);clear Pj apQ kX a0 a1 a2 a3 a4 b0 b1 b2 b3 b4 lb lT;go_wp2;go_roundw
    case rel=>exact aR.out
    case measure=>simp[intOf];have:=iy.out;omega
   .obtain rfl:i=s.V.tabs.length:=by omega
    rw[iA]at hall;have HLd:=ae (ag jW (ag lj (ag hall hgx)));have PB:=ae zh;have UY:=ae ((GG.out vb (af PA.out) (λe=>Pz.out.map (by rw[<-e];exact PA.out))).trans PA.out);obtain⟨a,ha⟩:∃a:Nat,s.V.wal=(a:Int):=⟨s.V.wal.toNat,by have:=mJ.out.1.lim.yX;omega⟩
    have hat:s.V.wal.toNat=a:=by omega
    have nu:=mJ.out.1.log;rw[hat]at nu;have hb:=Hb.out;have UZ:=mJ.out.1.lim;have Pg:=mJ.out.1.K;have fH:∀ps∈jy s.LL,∀q∈ps,q.length<=67108864:=λps fH q hq=>by obtain⟨bs,tK,rfl⟩:=aV.1 fH;obtain⟨b,wF,rfl⟩:=aV.1 hq;have fw:=UZ.Gm b (List.mem_flatten.2 ⟨bs,tK,wF⟩);have h1:=ZY b.1 b.2;have h2:=fw.len;have h3:=fw.bytes;show(jw b.1 b.2).length<=_;omega
    have KB:=amN (jy s.LL) fH;have PC:(jy s.LL).flatten.length=s.LL.flatten.length:=by rw[<-List.map_flatten,bA]
    have Va:=UZ.wal;have pj:=UZ.Kn;have hop:=aAi (a:=a) (nm:=cy) rfl (λw=>azQ w) nu (aFo fH) zh.aS zh.dK (by omega) (by rw[AY];omega) (by rw[AY];omega) (by rw[KB,PC];omega);have Hop:=ae hop;have zW:=ae (ag KB (ag PC (ag ha (ag nu (ag Va pj)))));have Vb:=UY.out;rw[ha]at Vb;obtain⟨v0,v1,v2,v3⟩:=dJ Vb;have OO:=af Vb;clear jW lj hall hgx zh GG hop KB PC fH ha hat nu hb UZ Pg Va pj Vb n1 n2 n3 n4 n5 n6 n7 n8 vy vx acs
    go_wp2_with fail
    (with_reducible refine Hop.out.mono ?_);rintro e wa ⟨lb,rv,Fa,rfl,aHx,Ji,mz,Nb,zY⟩;obtain⟨⟨n1,n2,n3,n4,n5,n6,n7,n8⟩,vy,vx⟩:=Hnu.out;have GH:=HBl.out;have hF9:∀b,F3 b->b<w9.heap.size:=λb hb=>(GH.aS.foot hb).2
    obtain⟨jW,lj,hall,hgx⟩:=HLd.out;have GG:=(Sep.AX hgx).size;have Vc:=PB.out.sep Ji mz (λhf=>by have:=vy _ hf;omega);have hta:eh wa tm encI g gm:=jW.keep (mz.out tm jW.lt (λhf=>by have:=vy _ hf;omega));have aHy:=Pz.out.lt;have aHz:=GH.held.lt;have aHA:=GH.cell.cells.2.2.2.2.2.2.2;have aHB:=GH.set.cells.2.2.2.2.2.2;have apU:∀k b l,ld k=some (b,l)->g k=some (.pointer (some ⟨b,0,none⟩))/\rp (λb=>w9.heap.size<=b/\b<wr.heap.size) wa b l:=λk b l hk=>by obtain⟨h1,h2,x,hx,rfl⟩:=lj k b l hk;have he:=(mJ.out.1.gX.aB x hx).2;have ht:=mJ.out.1.table hx;have hb:=Hb.out;exact⟨h1,(h2.inN (λb a c=>⟨a,c⟩) he.ord (by omega) (λy hy=>(he.ok y hy).val)).kp ⟨mz.size,λb hb _=>mz.out b hb.2 (λhf=>by have:=hF9 b hf;have:=hb.1;omega)⟩⟩
    have Pw:∀b,(w9.heap.size<=b/\b<wr.heap.size)->b<wa.heap.size/\¬Fa b/\¬FM mb ha [] b/\b≠db/\b≠sb/\b≠lb/\b≠tm/\b≠hm:=λb hb=>by
     refine⟨bF hb.2 mz.size,λhf=>?_,λhf=>?_,by omega,by omega,by omega,by omega,by omega⟩
     .rcases mz.foot b hf with h1|h1
      .have:=hF9 b h1;omega
      .omega
     .have:=GH.mem.lt hf;omega
    have Px:=mJ.out.2.2;have apV:¬Fa tm:=λhf=>(mz.foot tm hf).elim (λh1=>by have:=vy _ h1;omega) (λh1=>by have:=jW.lt;omega)
    have apW:¬Fa hm:=λhf=>(mz.foot hm hf).elim (λh1=>by have:=vy _ h1;omega) (λh1=>by have:=PB.out.held.lt;omega)
    have tU:=Vc.tree (sq:=zf) Nb hta apU Pw ⟨by omega,Px,by have:=PB.out.aS.base;omega,by omega,by omega,by omega,by omega⟩ apV apW n6 Hb.out.2.2.2.2.2;have PD:wa.heap[db]?=some (.cells (rh sb o (.slice ca ds.length cc) (.pointer none) mb tm zf hm) 93 (0,0)):=Vc.cell;have Ct:wa.heap[vb]?=some (.cells (bS (.slice ta s.V.tabs.length tc) s.V.seq s.V.next s.V.wal) 85 (0,0)):=(mz.out vb (af UY.out) (PB.out.aS.apart UY.out (by decide) (by decide) (by decide))).trans UY.out;have acx:(wa.setCell ⟨db,7,none⟩ (.pointer (some ⟨lb,0,none⟩))).heap[vb]?=some (.cells (bS (.slice ta s.V.tabs.length tc) s.V.seq s.V.next s.V.wal) 85 (0,0)):=(aN _ _ _ _ (λe=>by have e':vb=db:=e;rw[e',PD]at Ct;exact absurd (cp (bh Ct)).2.1 (by decide))).trans Ct
    have yP:=bG PD;obtain⟨c0,_,c7,_,_,_,_,bN⟩:=Vc.cell.cells;obtain⟨KB,PC,PE,nu,Va,pj⟩:=zW.out;obtain⟨Js,hLp⟩:=apd s.LL;have Vd:=Yn nu;rw[acf]at Vd;obtain⟨fo,gh⟩:∃fo,fo=qP cy a f3 (gO (jy s.LL)):=⟨_,rfl⟩
    have mC:(gO (jy (jJ s.LL))).length=(jJ s.LL).length:=AY _;rw[acf,mC]at tU;rw[<-gh]at tU Vd;obtain⟨t0,qE⟩:∃t0,t0=aoY db sb p r lb mb tm hm ha o (.slice ca ds.length cc) ds tv dv s.V zf (a+((jJ s.LL).length-1)) (λb=>w9.heap.size<=b/\b<wr.heap.size) Fa g gm ld:=⟨_,rfl⟩
    rw[<-qE]at tU;have hb:=Hb.out;have Pg:=mJ.out.1.K;have Ku:eA (wa.setCell ⟨db,7,none⟩ (.pointer (some ⟨lb,0,none⟩))) lb p cy ((a+((jJ s.LL).length-1):Nat):Int):=by have:=tU.log;rw[qE]at this;exact this
    have JX:Dl Z B (wa.setCell ⟨db,7,none⟩ (.pointer (some ⟨lb,0,none⟩))) p r fo T3 (K3+1) Fa:=by have:=tU.aS;rw[qE]at this;exact this
    have Gt:=λ(W:World)(hg:Grow (wa.setCell ⟨db,7,none⟩ (.pointer (some ⟨lb,0,none⟩))) W)=>ais (b:=0) (m:=a+((jJ s.LL).length-1)) rfl Vd (JX.grow hg) (Ku.grow hg) (tU.dK.grow hg JX.base) (by omega) (by rw[mC];omega) (by rw[mC];omega) (by rw[mC];omega) (by rw[mC];omega) (by rw[mC];omega)
    rw[Nat.add_zero]at Gt;obtain⟨vals,hrow,rk,yI⟩:=zY;have ep:∀b,((rv.ownBlock=some b)\/∃u∈vals,u.ownBlock=some b)->b<wa.heap.size/\b≠db/\¬FT t0 b:=λb hb=>by
     rcases hb with hb|⟨u,hu,hb⟩
     .obtain⟨cur,hc⟩:=hrow.block hb
      have iV:b≠db:=λe=>by rw[e,PD]at hc;exact absurd (cp (bh hc)).2.1 (by decide)
      exact⟨(hrow.lt hb).2,iV,tU.off (ty:=49) ((aN _ _ _ _ iV).trans hc) (by decide)⟩
     .obtain⟨k,hk⟩:=List.mem_iff_getElem?.1 hu
      have gi:=(dW.1 hk).1;obtain⟨q,hq⟩:∃q,(nT (gO (jy s.LL)))[k]?=some q:=⟨_,ek (by rw[<-rk];exact gi)⟩
      obtain⟨fS,tH⟩:=yI k u q hk hq;obtain⟨cur,hc⟩:=fS.block hb;have hlt:=fS.lt hb;have iV:b≠db:=λe=>by rw[e,PD]at hc;exact absurd (cp (bh hc)).2.1 (by decide)
      have inj:∀{a2:Array Value}{t2:TypeId}{f2:Nat×Nat},wa.heap[b]?=some (.cells a2 t2 f2)->(5:TypeId)=t2:=λh2=>(cp (bh (hc.symm.trans h2))).2.1
      refine⟨hlt.2,iV,?_⟩;rw[qE];rintro(q1|q1|q1|q1|q1|q1|q1)
      .exact tH b hb q1
      .have h6:=GH.mem.lt q1;omega
      .exact iV q1
      .have CD:b=sb:=q1;omega
      .have CD:b=lb:=q1;have:=inj (by rw[CD];exact Nb.self);revert this;decide
      .have CD:b=tm:=q1;omega
      .have CD:b=hm:=q1;omega
    have mS:=Hd0.out;have hra:Rl B r w (wa.setCell ⟨db,7,none⟩ (.pointer (some ⟨lb,0,none⟩))):=by have h2:Rl B r w wr:=HR9.out.apa (Sep.AX hgx) (λb hb=>by omega) mS;have h3:=h2.trans (Rl.sep PB.out.aS mz);exact h3.apa (G:=λb=>b=db) (G':=λb=>b=db) ⟨rfl,rfl,rfl,by simp,λb _ hn=>aN _ _ _ _ hn,λb hb=>.inl hb⟩ (λb hb=>by omega) mS
    have acy:∀b,((rv.ownBlock=some b)\/∃u∈vals,u.ownBlock=some b)->(wa.setCell ⟨db,7,none⟩ (.pointer (some ⟨lb,0,none⟩))).heap[b]?=wa.heap[b]?:=λb hb=>aN _ _ _ _ (ep b hb).2.1
    have apY:Go.Gl.Row1 49 0 (wa.setCell ⟨db,7,none⟩ (.pointer (some ⟨lb,0,none⟩))) rv vals:=(hrow.mono (aY _)).keep (λb hb=>acy b (.inl hb));rw[KB]at rk yI;have OZ:(jy s.LL).flatten=s.LL.flatten.map kZ:=by rw[List.map_flatten]
    rw[OZ]at rk yI;have apZ:∀(k:Nat)(u:Value)(b:Nat×List Wr),vals[k]?=some u->s.LL.flatten[k]?=some b->aI 0 (wa.setCell ⟨db,7,none⟩ (.pointer (some ⟨lb,0,none⟩))) u (kZ b):=λk u b hk hb=>by have h1:=(yI k u (kZ b) hk (by rw[gQ,hb];rfl)).1;exact(h1.mono (aY _)).keep (λc hc=>acy c (.inr ⟨u,dm hk,hc⟩))
    have aqa:∀b,((rv.ownBlock=some b)\/∃u∈vals,u.ownBlock=some b)->b<(wa.setCell ⟨db,7,none⟩ (.pointer (some ⟨lb,0,none⟩))).heap.size/\¬FT t0 b:=λb hb=>⟨by simpa using(ep b hb).1,(ep b hb).2.2⟩
    have hf0:t0.db=db/\t0.p=p/\t0.r=r/\t0.lb=lb/\t0.mb=mb/\t0.ha=ha/\t0.tm=tm/\t0.hm=hm/\t0.o=o/\t0.ds=ds/\t0.V=s.V/\t0.seq=zf/\t0.m=a+((jJ s.LL).length-1)/\t0.ld=ld/\t0.hh=(λ_=>none)/\t0.hn=0/\t0.ns=[]/\t0.F=Fa:=by rw[qE];exact⟨rfl,rfl,rfl,rfl,rfl,rfl,rfl,rfl,rfl,rfl,rfl,rfl,rfl,rfl,rfl,rfl,rfl,rfl⟩
    have zE:∀b,t0.N b->w.heap.size<=b:=λb hb=>by
     rw[qE]at hb;rcases hb with hb|hb|hb
     .have:=hb.1;omega
     .have:=HCw.out b hb;omega
     .have:=HDw.out b hb;omega
    rw[PE]at acx;have PF:=ae Gt;have Ve:=ae (ag apY (ag apZ aqa));have Dp:=ae tU;have Vf:=ae acx;have Hf0:=ae hf0;have HN0:=ae zE;have Hra:=ae hra;have mO:=ae gh;have hCb:fA (wa.setCell ⟨db,7,none⟩ (.pointer (some ⟨lb,0,none⟩))) db sb o (.slice ca ds.length cc) (.pointer (some ⟨lb,0,none⟩)) mb tm zf hm:=by have:=tU.cell;rw[qE]at this;exact this
    have HCb:=ae hCb;have aHD:=ae (ag hall (ag JX.total (ag (show w.heap.size<=db/\w.heap.size<=mb/\w.heap.size<=ha/\w.heap.size<=lb/\w.heap.size<=tm/\w.heap.size<=hm from⟨by omega,by omega,by omega,by omega,by omega,by omega⟩) (ag vx PE))));obtain⟨bs,tK⟩:∃bs,bs=s.LL.flatten:=⟨_,rfl⟩
    have acB:vals.length=bs.length:=by rw[rk,bA,tK]
    obtain⟨ra,rc,rfl⟩:=hrow.slice;rw[acB];have PG:=ae tK;rw[<-tK]at Ve;have acC:=ae acB;clear hrow rk yI ep acy apY apZ aqa hf0 zE acx tU hra gh hCb Gt Ku JX Vd mC Js hLp KB PC nu Va pj OZ mS hb Pg qE n1 n2 n3 n4 n5 n6 n7 n8 vy vx GH hF9 jW lj hall hgx GG Vc hta aHy aHz aHA aHB apU Pw Px apV apW Ct PD aHx Ji mz Nb v0 v1 v2 v3 OO acB PE tK
    go_upto_region 22 with fail
    generalize wa.setCell ⟨db,7,none⟩ (.pointer (some ⟨lb,0,none⟩))=wb at*;have hgd:=ay wb;have S22:∀W,Grow wb W->W.cell? ⟨db,7,none⟩=some (.pointer (some ⟨lb,0,none⟩))/\db<W.heap.size/\W.cell? ⟨vb,3,none⟩=some (.int .i64 (a:Int))/\vb<W.heap.size:=λW hg=>by obtain⟨_,_,c7,_,_,_,_,bN⟩:=(HCb.out.grow hg).cells;have hv:=hg.heap Vf.out;obtain⟨_,_,_,v3⟩:=dJ hv;exact⟨c7,bN,v3,af hv⟩
    refine cN (λW=>W.cell? ⟨db,7,none⟩=some (.pointer (some ⟨lb,0,none⟩))/\db<W.heap.size/\W.cell? ⟨vb,3,none⟩=some (.int .i64 (a:Int))/\vb<W.heap.size) [6] (by kernel_rfl) (bB λ_ _ _ _ _ h=>h) (S22 _ hgd) ?_;simp only[ct];clear S22 c0 c7 bN yP
    repeat ((first|(apply az;rfl;rintro W ⟨hW0,hW1,hW2,hW3⟩;go_simp;with_reducible rfl)|(apply aA;rfl));simp only[ah,List.set])
    refine bw (by rfl) (by go_simp) (PF.out _ hgd) ?_;rintro e wc ⟨rfl,Fc,BX,hlc,hsc⟩;obtain⟨f1,f2,f3',f4,f5,f6,f7,f8,f9,f10,f11,f12,f13,f14,f15,f16,f17,f18⟩:=Hf0.out;have aqf:Dl Z B wc t0.p t0.r fo (T3-yw ((gO (jy (jJ s.LL))).take 0)) (K3+1) Fc:=by rw[f2,f3'];exact BX
    have Vg:Sep t0.F wb.drew wc Fc:=by rw[f18];exact hsc
    obtain⟨nW,aqg⟩:=(Dp.out.grow hgd).Gg aqf Vg;have KC:fJ wb t0 wc {t0 with F:=Fc}:=(fJ.bO t0 hgd).trans aqg;have hCc:fA wc db sb o (.slice ca ds.length cc) (.pointer (some ⟨lb,0,none⟩)) mb tm zf hm:=by have h1:wb.heap[db]?=some (.cells (rh sb o (.slice ca ds.length cc) (.pointer (some ⟨lb,0,none⟩)) mb tm zf hm) 93 (0,0)):=HCb.out;exact(Vg.out db (af (hgd.heap h1)) ((Dp.out.grow hgd).aS.apart (hgd.heap h1) (by decide) (by decide) (by decide))).trans (hgd.heap h1)
    have KD:=(Vg.out vb (af (hgd.heap Vf.out)) ((Dp.out.grow hgd).aS.apart (hgd.heap Vf.out) (by decide) (by decide) (by decide))).trans (hgd.heap Vf.out);obtain⟨_,_,c7,_,_,_,_,bN⟩:=hCc.cells;obtain⟨_,_,_,v3⟩:=dJ KD;refine⟨_,rfl,⟨c7,bN,v3,af KD⟩,?_⟩;have MV:∀b,(((Value.slice ra vals.length rc).ownBlock=some b)\/∃u∈vals,u.ownBlock=some b)->wc.heap[b]?=wb.heap[b]?/\b<wc.heap.size/\¬FT {t0 with F:=Fc} b:=λb hb=>by
     obtain⟨h1,h2⟩:=Ve.out.2.2 b hb;refine⟨KC.sep.out b h1 h2,bF h1 KC.sep.size,λhf=>?_⟩;rcases KC.sep.foot b hf with h3|h3
     .exact h2 h3
     .omega
    have hT4:T3-yw ((gO (jy (jJ s.LL))).take 0)<=T3:=Nat.sub_le _ _;generalize T3-yw ((gO (jy (jJ s.LL))).take 0)=T4 at*;obtain⟨tc,acD⟩:∃tc,tc={t0 with F:=Fc}:=⟨_,rfl⟩
    rw[<-acD]at nW KC MV;have acE:tc.ns=[]/\tc.seq=zf/\tc.V=s.V/\tc.ld=ld/\tc.hh=(λ_=>none)/\tc.hn=0/\tc.m=a+((jJ s.LL).length-1):=by rw[acD];exact⟨f17,f12,f11,f14,f15,f16,f13⟩
    have rM:OpJ Z B Nn wc tc fo T4 (K3+1) bs (.int .i64 0) wc:=⟨0,tc,rfl,aY _,nW,fJ.refl _ _,by rw[acE.1];rfl,rfl,rfl,rfl,rfl,rfl,rfl⟩
    have PH:=ae rM;have Htc:=ae nW;have aqj:=ae KC;have Hkc:=ae MV;have aHF:=ae acE;have HT4:=ae hT4;clear rM nW KC MV acE hT4 BX hlc hsc aqf Vg aqg hCc KD c7 bN v3 hgd acD f1 f2 f3' f4 f5 f6 f7 f8 f9 f10 f11 f12 f13 f14 f15 f16 f17 f18
    try simp only[ah,List.set,aC]
    refine bg ?_
    go_wp2_with fail
    go_loopw [98] (λiv wr=>OpJ Z B Nn wc tc fo T4 (K3+1) bs iv wr) (λiv _=>bs.length-(intOf iv).toNat)
    case atStart=>exact PH.out
    case round=>
     clear PH;obtain⟨k,t,rfl,hk,dN,hst,ru,dR,hV,Vh,KE,KF,Vi⟩:=hrel;have Vj:t.db=db:=(hst.db.trans aqj.out.db).trans Hf0.out.1;by_cases hlt:k<bs.length
     .obtain⟨b,hb⟩:∃b,bs[k]?=some b:=⟨bs[k],by simp[hlt]⟩
      obtain⟨u,hu⟩:∃u,vals[k]?=some u:=⟨vals[k]'(by rw[acC.out];exact hlt),by simp[acC.out,hlt]⟩
      have MW:∀c,(((Value.slice ra vals.length rc).ownBlock=some c)\/∃u∈vals,u.ownBlock=some c)->wr.heap[c]?=wb.heap[c]?:=λc hc=>by obtain⟨h1,h2,h3⟩:=Hkc.out c hc;exact(hst.sep.out c h2 h3).trans h1
      have hrow':=Ve.out.1.keep (λc hc=>MW c (.inl hc));have hu':=(Ve.out.2.1 k u b hu hb).keep (λc hc=>MW c (.inr ⟨u,dm hu,hc⟩));obtain⟨gs,cap,jV,fk⟩:∃gs cap,Value.slice ra vals.length rc=.slice (some ⟨gs,0,none⟩) vals.length cap/\gs<wr.heap.size:=by
       rcases id hrow' with⟨_,h0⟩|⟨gs,cap,cur,h1,_,h2,_⟩
       .rw[h0]at hu;cases hu
       .exact⟨gs,cap,h1,af h2⟩
      cases jV;have Da:wr.cell? ⟨gs,k,none⟩=some u:=by have:=Go.Gl.Row1.cells hrow' rfl hu;simpa using this
      obtain⟨ua,uc,hue⟩:=hu'.slice;have hpl:(dT (kZ b)).length=(kZ b).length:=jX _;rw[hpl]at hue;subst hue;have fw:=mJ.out.1.lim.Gm b (by rw[<-PG.out];exact dm hb);have Pq:=aDO (cE hu') fw.seq (by have:=fw.len;omega) (by have:=fw.bytes;omega);have eN:(k:Int)<(bs.length:Int):=by omega
      have bU:(0:Int)<=(k:Int):=by omega
      have eD:=Hb.out;have aql:=mJ.out.1.lim.Kn;rw[<-PG.out]at aql;have fT:IntKind.i64.wrap ((k:Int)+1)=(k:Int)+1:=aQ _ (by omega);obtain⟨dE,hl2⟩:=anU (bs.take k) [];rw[<-ru]at dE hl2;have bT:((bs.take k).map λb=>b.2.length).sum<=A:=by rw[List.map_take];exact aJ (abC _ _) (by rw[PG.out];exact mJ.out.1.lim.OV)
      have hw2:((bs.take k).map λb=>bj b.2).sum<=C:=by rw[List.map_take];exact aJ (abC _ _) (by rw[PG.out];exact mJ.out.1.lim.OW)
      have aqm:t.ns.length<=100000000:=by rw[bA]at hl2;simp only[iJ]at hl2;omega
      have aqn:costs (t.ns.map (λn=>n.x.e))<=100000000000:=by have h0:costs ([]:List En)=0:=rfl;rw[h0]at dE;generalize costs (t.ns.map (λn=>n.x.e))=cc at*;omega
      have aHH:=acC.out;have aHI:=ae Pq;have Az:=ae fw;have Hw:=ae (ag aqm aqn);have oW:=ae dN;have bz:=ae hst;have acG:=ae (ag ru (ag dR (ag hV (ag Vh (ag KE (ag KF Vi))))));have Nl:=ae hb;have iy:=ae hlt;have Vk:=ae Vj;clear MW hrow' hu' hpl fw Pq eD aql dE hl2 bT hw2 aqm aqn dN hst ru dR hV Vh KE KF Vi hb hu hlt Vj aHH
      go_wp2_with fail
      (with_reducible refine aHI.out.mono ?_);rintro e w2 ⟨yv,ys,rfl,bQ,AQ,hg2⟩;have lG:=oW.out.grow hg2;obtain⟨alN,fR⟩:=lG.mem;have PI:=(AQ.ws (M:=λc=>wr.heap.size<=c) (λc hc=>hc.elim (λx=>x.elim) id)).lt;have dM:ys.length=b.2.length:=by rw[<-bQ,bA]
      have hbl:=Az.out.len;have yR:=alI lG.cell fR (λhf=>(oW.out.ne.fm _ hf).2.1 rfl) (λc hc=>⟨(lG.apart c hc).1,λhf=>(lG.apart c hc).2 (.inr (.inl hf)),λe=>(lG.apart c hc).2 (.inr (.inr (.inl e)))⟩) (λc hc=>⟨hc.2,λhf=>by have:=oW.out.lt (.inr (.inl hf));have:=hc.1;omega,λe=>by have:=oW.out.lt (.inr (.inr (.inl e)));have:=hc.1;omega⟩) PI (s:=b.1) Az.out.seq (by omega) (by rw[bQ];have:=Az.out.bytes;omega) Hw.out.1 Hw.out.2;rw[bQ]at yR;obtain⟨ya,yc,rfl⟩:=pA.slice AQ;have CQ:=ae yR;have eG:=ae hg2;have hdq:=Vk.out;rw[hdq]at CQ;clear yR lG fR PI dM hbl AQ bQ hg2 hdq Da fk
      go_wp2_with fail
      (with_reducible refine CQ.out.mono ?_);rintro e w3 ⟨rfl,N',bR,Dn⟩;rw[<-Vk.out]at Dn;have ru:=Dn.pB;obtain⟨xn,hs3⟩:=(oW.out.grow eG.out).laid Dn;obtain⟨i1,i2,i3,i4,i5,i6,i7⟩:=acG.out;have hrel:OpJ Z B Nn wc tc fo T4 (K3+1) bs (.int .i64 ((k:Int)+1)) w3:=by
       refine⟨k+1,_,by simp,iy.out,xn,(bz.out.grow eG.out).trans hs3,?_,?_,i3,i4,i5,i6,i7⟩
       .rw[take_one Nl.out,List.foldl_append,<-i1];exact ru
       .rw[take_one Nl.out,dS,List.foldl_append,<-i2];rfl
      have aR:=ae hrel;clear hrel xn hs3 ru Dn CQ i1 i2 i3 i4 i5 i6 i7;go_wp2;go_roundw
      case rel=>exact aR.out
      case measure=>simp[intOf];have:=iy.out;omega
     .obtain rfl:k=bs.length:=by omega
      rw[iA]at ru dR;have oW:=ae dN;have bz:=ae hst;have acG:=ae (ag ru (ag dR (ag hV (ag Vh (ag KE (ag KF Vi))))));have Vk:=ae Vj;clear dN hst ru dR hV Vh KE KF Vi Vj;go_wp2;go_ret2;obtain⟨i1,i2,i3,i4,i5,i6,i7⟩:=acG.out;rw[PG.out]at i1 i2;obtain⟨q1,q2,q3,q4,q5,q6,q7⟩:=aHF.out;obtain⟨f1,f2,f3',f4,f5,f6,f7,f8,f9,f10,f11,f12,f13,f14,f15,f16,f17,f18⟩:=Hf0.out;obtain⟨hall,aOU,⟨l1,l2,l3,l4,l5,l6⟩,vx,PE⟩:=aHD.out;have hs:=aqj.out.trans bz.out;have uh:t.o=o:=hs.o.trans f9;have PK:Told t.o.block.toNat A C i f3 K3 s:=by rw[uh];exact mJ.out.1
      have dN:=oW.out;rw[mO.out]at dN;have ke:=PK.opened PE dN (i3.trans q3) i1 (by rw[i7,q7]) (λx hx=>by rw[i4,q4];exact hall x hx) (by rw[uh];exact aHr.out) (by rw[i2,q2,vx];simp) (by omega);have qG:Rl B t0.r w wr:=Rl.stp (by rw[f3'];exact Hra.out) Dp.out hs f17 (by rw[f1];exact l1) (by rw[f5];exact l2) (by rw[f6];exact l3) (by rw[f4];exact l4) (by rw[f7];exact l5) (by rw[f8];exact l6) Hd0.out;refine⟨t,_,T4,_,{s with LL:=jJ s.LL},by rw[Vk.out];rfl,ke,hs.p.trans f2,hs.r.trans f3',uh,hs.ds.trans f10,rfl,λx=>?_,?_,by rw[i5,q5],by rw[i6,q6],by rw[hs.tm,f7];exact l5,by rw[hs.hm,f8];exact l6,λb hb=>?_,by rw[f3']at qG;exact qG,aJ HT4.out mJ.out.2.1⟩
      .have ku:aH (jJ s.LL)=aH s.LL:=by unfold aH;rw[apb]
       unfold cJ;dsimp only;rw[ku]
      .rw[i2,q2];unfold pD;rw[vx];simp
      .rcases hs.new b hb with h1|h1
       .exact HN0.out b h1
       .have:=Hra.out.hold.size;omega
 have hx:∀W,Grow w5 W->(W.cell? ⟨xb,0,none⟩=some (.int .i64 o.mem)/\W.cell? ⟨xb,1,none⟩=some (.int .i64 o.block)/\W.cell? ⟨xb,2,none⟩=some (.int .i64 o.zero)/\W.cell? ⟨xb,3,none⟩=some (.int .i64 o.base)/\W.cell? ⟨xb,4,none⟩=some (.int .i64 o.table)/\W.cell? ⟨xb,5,none⟩=some (.slice ca ds.length cc))/\xb<W.heap.size:=λW hg=>Ge (hg.heap HX.out)
 refine⟨?_,?_,?_,?_,?_,?_,?_,?_,?_,?_,True.intro⟩
 .intro listed a V hf ak aj;have hs1:=hf.sz hsz;have hT:=hf.world;have G7:=hf.got (by decide) F7 (by rw[hs1];decide);refine br rfl (by rfl) (λK' hK'=>?_);go_simp;exact hK' _ _ ⟨_,rfl,(λ_ _=>rfl),aW _,hT.next (by decide) (by decide) (aW _)⟩
 .intro listed a V hf ak aj;have hs1:=hf.sz hsz;have hT:=hf.world;have G3:=hf.got (by decide) F3 (by rw[hs1];decide);obtain⟨⟨x0,x1,x2,x3,x4,x5⟩,lx⟩:=hx V hT.1;refine br rfl (by rfl) (λK' hK'=>?_);go_simp;exact hK' _ _ ⟨_,rfl,(λ_ _=>rfl),aW _,hT.next (by decide) (by decide) (aW _)⟩
 .intro listed a V hf ak aj;have hs1:=hf.sz hsz;have hT:=hf.world;have G3:=hf.got (by decide) F3 (by rw[hs1];decide);obtain⟨_,lx⟩:=hx V hT.1;refine br rfl (by rfl) (λK' hK'=>?_);go_simp;exact hK' _ _ ⟨_,rfl,(λ_ _=>rfl),aW _,hT.next (by decide) (by decide) (aW _)⟩
 .intro listed a V hf ak aj;have hs1:=hf.sz hsz;have hT:=hf.world;have G41:=aP (hf.sv 2 41 rfl (aO aj 2 (by kernel_rfl)) λ_ _ h=>h) (by rw[hs1];decide);obtain⟨⟨x0,x1,x2,x3,x4,x5⟩,lx⟩:=hx V hT.1;refine br rfl (by rfl) (λK' hK'=>?_);go_simp;exact hK' _ _ ⟨_,rfl,(λ_ _=>rfl),aW _,hT.next (by decide) (by decide) (aW _)⟩
 .intro listed a V hf ak aj;have hs1:=hf.sz hsz;have hT:=hf.world;have G42:=aP (hf.sv 3 42 rfl (aO aj 3 (by kernel_rfl)) λ_ _ h=>h) (by rw[hs1];decide);refine ky rfl (by rfl) (by go_simp) (akh (HIw.out.kp (.bO hT.1))) ?_;rintro e V2 ⟨mb,ha,dv,rfl,hM,hg,oG,Kg,AQ⟩;have Bf:=hT.1.size;exact⟨_,rfl,_,rfl,(λ_ _=>⟨mb,ha,dv,rfl,⟨_,hM⟩,AQ.mono Bf,aJ Bf oG,aJ Bf Kg⟩),hg,hT.next (by decide) (by decide) hg⟩
 .intro listed a V hf ak aj;have hs1:=hf.sz hsz;have hT:=hf.world;have Bf:=hT.1.size;refine br rfl (by rfl) (λK' hK'=>?_);go_simp;refine hK' _ _ ⟨_,rfl,(λ_ _=>⟨V.heap.size,rfl,alQ V encI,Bf⟩),ar _ _,hT.1.trans (ar _ _),λh5 h6=>?_⟩;rw[getD_set_ne false (by decide)]at h6;obtain⟨v6,s6,hm,q6,m6,l6⟩:=hf.slot 6 45 rfl h6;exact⟨V.heap.size,hm,xB (by rw[hs1];decide),jN (by decide) (by rw[s6,q6]),by have:=m6.lt;omega⟩
 .intro listed a V hf ak aj;have hs1:=hf.sz hsz;have hT:=hf.world;have Bf:=hT.1.size;refine br rfl (by rfl) (λK' hK'=>?_);go_simp;refine hK' _ _ ⟨_,rfl,(λ_ _=>⟨V.heap.size,rfl,alQ V Ov,Bf⟩),ar _ _,hT.1.trans (ar _ _),λh5 h6=>?_⟩;rw[getD_set_ne false (by decide)]at h5;obtain⟨v6,s6,hm,q6,m6,l6⟩:=hf.slot 5 44 rfl h5;exact⟨hm,V.heap.size,jN (by decide) (by rw[s6,q6]),xB (by rw[hs1];decide),by have:=m6.lt;omega⟩
 .intro listed a V hf ak aj
  have hs1:=hf.sz hsz;have hT:=hf.world;obtain⟨v0,s0,q0⟩:=hf.slot 0 39 rfl (aO aj 0 (by kernel_rfl));have YU:v0=_:=q0;subst YU;obtain⟨v1,s1,q1⟩:=hf.slot 1 40 rfl (aO aj 1 (by kernel_rfl));have CD:v1=_:=q1;subst CD;obtain⟨v4,s4,mb,ha,dv,q4,m4,mr,UO,UQ⟩:=hf.slot 4 43 rfl (aO aj 4 (by kernel_rfl));subst q4;obtain⟨v5,s5,tm,q5,m5,Kz⟩:=hf.slot 5 44 rfl (aO aj 5 (by kernel_rfl));subst q5;obtain⟨v6,s6,hm,q6,m6,KA⟩:=hf.slot 6 45 rfl (aO aj 6 (by kernel_rfl));subst q6;obtain⟨tm',Uw,e1,e2,hne⟩:=hT.2 (aO aj 5 (by kernel_rfl)) (aO aj 6 (by kernel_rfl));rw[s5]at e1;cases e1;rw[s6]at e2;cases e2;have G39:=aP s0 (by rw[hs1];decide);have G40:=aP s1 (by rw[hs1];decide);have G43:=aP s4 (by rw[hs1];decide);have G44:=aP s5 (by rw[hs1];decide);have G45:=aP s6 (by rw[hs1];decide);have hop:Gz w5 V ds mb ha tm hm dv:=⟨m4,mr,UO,UQ,m5,Kz,m6,KA,hne⟩
  clear m4 m5 m6 mr;refine br rfl (by rfl) (λK' hK'=>?_);go_simp;exact hK' _ _ ⟨_,rfl,(λ_ _=>⟨mb,ha,tm,hm,dv,rfl,hop⟩),aW _,hT.next (by decide) (by decide) (aW _)⟩
 .intro listed a V hf ak aj;have hs1:=hf.sz hsz;have hT:=hf.world;obtain⟨v7,s7,mb,ha,tm,hm,dv,q7,hop⟩:=hf.slot 7 46 rfl (aO aj 7 (by kernel_rfl));subst q7;have G46:=aP s7 (by rw[hs1];decide);have Bf:=hT.1.size;have ai:=ar V (.cells (rh sb o (.slice ca ds.length cc) (.pointer none) mb tm 0 hm) 93);have dB:=ax V (.cells (rh sb o (.slice ca ds.length cc) (.pointer none) mb tm 0 hm) 93);refine br rfl (by rfl) (λK' hK'=>?_);go_simp;exact hK' _ _ ⟨_,rfl,(λ_ _=>⟨V.heap.size,mb,ha,tm,hm,dv,rfl,Bf,dB,hop.grow ai⟩),ai,hT.next (by decide) (by decide) ai⟩
 .intro listed a V hf ak aj;have hs1:=hf.sz hsz;have hT:=hf.world;obtain⟨v8,s8,db,mb,ha,tm,hm,dv,q8,h1,h2,h3⟩:=hf.slot 8 47 rfl (aO aj 8 (by kernel_rfl));subst q8;have G47:=aP s8 (by rw[hs1];decide);refine br rfl (by rfl) (λK' hK'=>?_);go_simp;exact hK' _ _ ⟨_,rfl,(λ_ _=>⟨db,mb,ha,tm,hm,dv,rfl,h1,h2,h3⟩),aW _,hT.next (by decide) (by decide) (aW _)⟩
end
section
theorem aHJ(a b:Option En):AU a b=uP a b:=by
 cases b with
 |none=>cases a<;>rfl
 |some b=>cases a<;>rfl
theorem aHK(key:ByteArray)(up:Nat)(ls:List (List En)):Gd key up ls=eP key up ls.flatten:=by
 induction ls using YW with
 |h0=>rfl
 |h1 ls a a=>rw[amT,a,aHJ,List.flatten_append,aAJ];simp
variable{Z B Nn A C i:Nat}{w:World}{t:Tr}{f:Lk}{T K:Nat}{s:di}
theorem aHL(b:cY Z B Nn A C i w t f T K s)(a:A<=100000)(key:ByteArray){up:Nat}(m:up<18446744073709551616):Calls Tryz.prog 16 #[.pointer (some ⟨t.db,0,none⟩),.string key,.int .u64 (up:Int)] w (Ke w (eP key up (cJ s))):=by
 obtain⟨a,hm⟩:=b.tree.mem;have h:=b.V;have a:=λa (d:a∈s.V.tabs)=>b.told.table d
 have l:s.V.tabs.length<=100000:=by
  have j:s.V.tabs.length<=(s.V.tabs.map λa=>(s.aB a.file).length).sum:=by
   have c:∀e:List Tb,(∀a∈e,s.aB a.file≠[])->e.length<=(e.map λa=>(s.aB a.file).length).sum:=by
    intro e
    induction e with
    |nil=>intro _;exact aw _
    |cons a e g=>intro f;have k:=List.length_pos_iff.2 (f a (ej ..));have k:=g (λg k=>f g (fE _ k));simp only[dD,cr,List.sum_cons];omega
   exact c _ (λa d=>(b.gX.aB a d).1)
  have:=b.lim.pB;omega
 have c:=b.tree.own;have g:=b.tree.set;rw[h]at c g;have k:=aFC b.tree.cell g c l b.tree.tabs (tbs:=s.V.tabs.map λa=>((t.ld a.file).map Prod.fst).getD 0) (by rw[bA]) (λi a h d c=>by
   rw[gQ,d]at c;obtain⟨n,g⟩:=b.ld a (dm d);rw[Option.map_some,g]at c;cases c;exact(b.tree.load _ _ _ g).1) hm (λh c=>(b.tree.apart h c).1) (λl o=>by
   have j:l.x.e∈aH s.LL:=by rw[<-b.mem];exact aV.2 ⟨l,o,rfl⟩
   have:=(b.yY.ok _ j).val;omega) (lss:=s.V.tabs.map λa=>s.aB a.file) (by rw[bA,bA]) (λi h e c f=>by
   rw[gQ]at c f;cases d:s.V.tabs[i]? with
   |none=>rw[d]at c;cases c
   |some a=>rw[d]at c f;obtain⟨n,g⟩:=b.ld a (dm d);rw[Option.map_some,g]at c;cases c;cases f;exact(b.tree.load _ _ _ g).2) key m
 rw[aHK,List.flatten_cons,b.mem]at k;exact k
theorem Vl(a:cY Z B Nn A C i w t f T K s)(b:A<=100000)(key:ByteArray):Calls Tryz.prog 15 #[.pointer (some ⟨t.db,0,none⟩),.string key] w (Ke w (eP key 18446744073709551615 (cJ s))):=
 aFF (aHL a b key (by decide))
theorem aqp(a:cY Z B Nn A C i w t f T K s):Calls Tryz.prog 27 #[.pointer (some ⟨t.db,0,none⟩)] w λe w'=>e=.returned (.int .u64 (t.seq:Int))/\w'=w:=aDY a.tree.cell
theorem aqq{size:Nat}{l:List En}(b:l≠[])(_hlen:l.length<=1000000)(_htot:(bu l).length+30*l.length<=50000000):(gW size l).length<=3*(bu l).length+100*l.length+1000:=by
 have c:=JE (eX size [] l);have a:=NL size l [];have a:=MS size l [] b;have b:=aaU (eX size [] l) 0 (MT size l []);rw[iK]at a;rw[a]at c b;have a:=Nk l;have a:=Ju l l.length;have a:ik l<=8+(10*l.length+7)/8:=by unfold ik;omega
 have a:=nG aq (kh 0 (eX size [] l));have a:=nG aq (eC l);have a:=cF (kh 0 (eX size [] l)).length;have a:=cF (eC l).length;unfold gW ig eJ;simp only[aM,Sv,nD];omega
theorem aHM{D:Nat}(a:s.V=dw)(b:(Op.bytesLess k0.toList k1.toList||k0.toList==k1.toList)=true)(c:D<=300000000)(hm:m<=1000000):(bH s.V (cf s seq D k0 k1 m)).1=0:=by
 rw[a];have c:(cf s seq D k0 k1 m)=⟨[⟨0,0,k0,k1,(D:Int)⟩],[],(seq:Int),1,(m:Int)⟩:=by unfold cf;rw[a];rfl
 rw[c];have c:sQ [] ⟨0,0,k0,k1,(D:Int)⟩=false:=by
  unfold sQ;rw[b];have a:decide ((D:Int)<0)=false:=by simp
  have b:decide (1099511627776<(D:Int))=false:=by simp;omega
  rw[a,b];rfl
 unfold bH;have d:kK [(⟨0,0,k0,k1,(D:Int)⟩:Tb)]=[⟨0,0,k0,k1,(D:Int)⟩]:=by have e:=BH [(⟨0,0,k0,k1,(D:Int)⟩:Tb)];exact List.perm_singleton.1 e
 have e:sR dw ⟨[⟨0,0,k0,k1,(D:Int)⟩],[],(seq:Int),1,(m:Int)⟩=false:=by
  unfold sR dw;have a:decide ((seq:Int)<0)=false:=by simp
  have b:decide ((m:Int)<0)=false:=by simp
  have f:decide (1099511627776<(m:Int))=false:=by simp;omega
  simp only[a,b,f];simp
 rw[if_neg (show¬sP dw.tabs [] []=true by decide)];have ha:mV (dw.tabs.filter (iY [])) [⟨0,0,k0,k1,(D:Int)⟩]=some [⟨0,0,k0,k1,(D:Int)⟩]:=by show mV [] _=_;unfold mV;rw[c];rfl
 simp only[ha,d];rw[if_neg (by simp),if_neg (by simp[mU]),if_neg (by rw[e];exact Bool.false_ne_true)]
theorem aHN{l:List En}(e:cx l)(h0:l[0]?.map En.key=some k0)(h1:l[l.length-1]?.map En.key=some k1):(Op.bytesLess k0.toList k1.toList||k0.toList==k1.toList)=true:=by
 cases l with
 |nil=>simp at h0
 |cons b l=>
  simp only[List.getElem?_cons_zero,Option.map_some,Option.some.injEq]at h0;subst h0;by_cases d:l=[]
  .subst d;simp at h1;subst h1;simp
  .obtain⟨a,c⟩:∃a,(b::l)[(b::l).length-1]?=some a:=⟨_,ek (by simp)⟩
   rw[c]at h1;simp only[Option.map_some,Option.some.injEq]at h1;subst h1;have f:a∈l:=by
    have g:=List.length_pos_iff.2 d;rw[dD,Nat.add_sub_cancel]at c;obtain⟨d,g⟩:∃d,l.length=d+1:=⟨l.length-1,by omega⟩
    rw[g,List.getElem?_cons_succ]at c;exact dm c
   have c:=(uN.1 e).1 a f;rcases c with c|⟨c,_⟩
   .have d:kJ b.key a.key<0:=(QS _ _).2 (by rw[jz,jz];exact c)
    have e:Op.bytesLess b.key.toList a.key.toList=true:=by
     unfold kJ at d
     split at d
     .assumption
     .split at d<;>omega
    rw[e];rfl
   .rw[c];simp
end
end Go.Proofs.YtoolkdapflaeeaaGreatDoor
