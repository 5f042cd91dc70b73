/- Helpers. -/
import Derived.Test.YtoolkdapflaeeaaGreatDoorW0B
import Derived.Test.YtoolkdapflaeeaaGreatDoorW0A
import Derived.Test.YtoolkdapflaeeaaGreatDoorW09
import Derived.Test.YtoolkdapflaeeaaGreatDoorW06
import Derived.Deep.CutRange
import Derived.Deep.DeepCutAuto
import Derived.Test.YtoolkdapflaeeaaGreatDoorW05
set_option maxRecDepth 100000
set_option maxHeartbeats 16000000
set_option linter.unusedSimpArgs false
open Go
variable{B B' K T Z a db g ha aX hm i m mb n p q r rb sb seq tb tm xb:Nat}{F M N:Nat→Prop}{W W' w w' w0 wr:World}{bv dv lv pv tv u v:Value}{cs:Array Value}{ds:List Int}{fz:Nat × Nat}{l:List UInt8}{xs:List Value}
namespace Go.Proofs.YtoolkdapflaeeaaGreatDoor
open Go.RowKit Go.Gl Go.aF Mn
structure CR(x:En):Prop where
 key:x.key.size<=65535
 seq:x.seq<18446744073709551616
 val:x.val.length<=33554432
def NF:Nat->Prop:=λ_=>False
theorem cQ.gx{b:List Ev}(a:cQ B NF W v b)(c:GX g W W')(f:∀d t e,W.heap[g]?=some (.cells d t e)->t≠5/\t≠60):cQ B NF W' v b:=
 a.keep c.size (λ_ b=>b.elim) (λb d t e b d b=>c.heap b (λc=>by
  subst c;have:=f _ _ _ b;rcases d with a|a
  .exact this.1 a
  .exact this.2 a))
theorem jx.row(a:jx w0 W rb l){o:Option Nat}(d:W.grownBy W' o)(e:∀g,o=some g->w0.heap.size<=g/\∃f,W.heap[g]?=some (.cells f 60 (0,0))):jx w0 W' rb l:=by obtain⟨bv,b,h⟩:=a.cell;refine⟨⟨bv,(d.block rb (af b) (λc=>?_)).trans b,h⟩,Below.grown a.grow d a.grow.size (λg c=>(e g c).1),a.new⟩;obtain⟨_,f,a⟩:=e rb c.symm;rw[b]at a;exact absurd (cp (bh a)).2.1 (by decide)
def EsI(w:World)(rb:Nat)(l:List En)(b:Value)(wr:World):Prop:=
 ∃(i:Nat)(a:List Ev),i<=l.length/\a.map Ev.e=l.take i/\cQ w.heap.size NF wr b a/\jx w wr rb (bu (l.drop i))
def alR(v:Value):Nat:=match v with| .slice _ n _=>n|_=>0
theorem aEi{l:List En}(h:Bv w bv (bu l))(hne:l≠[])(ke:∀x∈l,CR x)(hlen:l.length<=1000000)(og:(bu l).length<=500000000000):
  Calls Tryz.prog 148 #[bv] w λe w'=>∃v ys,e=.returned (.tuple #[v,.bool true])/\ys.map Ev.e=l/\cQ w.heap.size NF w' v ys/\Grow w w':=by
 obtain⟨ba,bc,rfl⟩:=h.slice;have ai:=ar w (.cells #[.slice ba (bu l).length bc,.bool false] 308);have hbr:=ax w (.cells #[.slice ba (bu l).length bc,.bool false] 308);have hst:EsI w w.heap.size l (.slice none 0 0) (w.alloc (.cells #[.slice ba (bu l).length bc,.bool false] 308)):=⟨0,[],aY _,by simp,⟨jh _ _ _ _,(λy h=>by cases h)⟩,⟨⟨_,hbr,by rw[List.drop_zero];exact h⟩,ai,aw _⟩⟩
 have bz:=ae hst;have Oi:=ae ke;have oZ:=ae hne;clear h ai hbr hst ke hne;go_enter Tryz.func148,Tryz.ntmps148
 go_wp2_with fail
 generalize w.alloc (.cells #[.slice ba (bu l).length bc,.bool false] 308)=w1 at*;obtain⟨rb,eW⟩:∃rb,rb=w.heap.size:=⟨_,rfl⟩
 rw[<-eW]at bz ⊢;have mW:=ae eW;clear eW
 go_loopw [5] (λov wr=>EsI w rb l ov wr) (λov _=>l.length-alR ov)
 case atStart=>exact bz.out
 case round=>
  obtain⟨i,ys,hi,bQ,hrow,bq⟩:=hrel;obtain⟨bv,h1,h2⟩:=bq.cell;obtain⟨xa,xc,rfl⟩:=h2.slice;have c0:wr.cell? ⟨rb,0,none⟩=some (.slice xa (bu (l.drop i)).length xc):=by simp[World.cell?,h1]
  have c1:wr.cell? ⟨rb,1,none⟩=some (.bool false):=by simp[World.cell?,h1]
  have lr:=af h1;have dM:ys.length=i:=by have:=congrArg List.length bQ;rw[bA,List.length_take]at this;omega
  by_cases hlt:i<l.length
  .obtain⟨x,hx⟩:∃x,l[i]?=some x:=⟨_,ek hlt⟩
   have hdr:bu (l.drop i)=qh x++bu (l.drop (i+1)):=by rw[nA hlt];rw[ek hlt]at hx;rw[bh hx];simp[bu]
   have vZ:(0:Int)<((bu (l.drop i)).length:Int):=by have:=aiK x;rw[hdr,aM];omega
   have qY:=Oi.out x (dm hx);have FR:=bq;rw[hdr]at FR;have hle:(bu (l.drop (i+1))).length<=(bu l).length:=by have e:=tz (l.take (i+1)) (l.drop (i+1));rw[List.take_append_drop]at e;rw[e,aM];omega
   have gj:=aDF FR qY.key qY.seq qY.val (by omega);have kL:=ae gj;have pK:=ae hrow;have Hx:=ae (ag hx bQ);have Hh1:=ae h1;have qL:=ae hdr;have gu:=ae bq.grow;have JY:=ae dM;clear hrow bq FR h1 h2 hdr gj hx bQ hle dM;generalize (bu (l.drop i)).length=PL at*;obtain⟨oa,oc,rfl⟩:=pK.out.slice
   go_wp2_with fail
   (with_reducible refine kL.out.mono ?_);rintro e w2 ⟨sv,rfl,fS,hr2,hgx⟩;obtain⟨sa,sc,rfl⟩:=fS.slice;have hrow2:=pK.out.gx hgx (λcur t f hc=>by rw[Hh1.out]at hc;have:=(cp (bh hc)).2.1;subst this;exact⟨by decide,by decide⟩)
   have tK:w.heap.size<=wr.heap.size:=gu.out.size;have Oj:nU NF w.heap.size w2 ⟨x,.slice sa x.val.length sc⟩:=⟨cE fS,.inr (λb hb=>.inr ⟨aJ tK (fS.lt hb).1,by obtain⟨cur,hc⟩:=fS.block hb;exact⟨cur,_,hc,rfl⟩⟩)⟩
   obtain⟨g,cap,w3,hrun,hrow3,hg3⟩:=NG hrow2 Oj (λ_ h=>h.elim) hr2.grow.size (by rw[JY.out];omega);have hr3:=hr2.row hg3 (λg hg=>sg hrow2 hg);have hrel:EsI w rb l (.slice (some ⟨g,0,none⟩) (ys.length+1) cap) w3:=⟨i+1,ys++[⟨x,.slice sa x.val.length sc⟩],hlt,by rw[dS,Hx.out.2,List.take_add_one,Hx.out.1];rfl,hrow3,hr3⟩
   have cU:=ae hrun;have aR:=ae hrel;clear hrun hrow3 hg3 hr3 hrel hrow2 Oj fS hr2 hgx
   go_wp2_with (at_builtin;refine fP rfl rfl rfl rfl cU.out ?_)
   go_roundw
   case rel=>exact aR.out
   case measure=>have:=JY.out;simp only[alR];omega
  .obtain rfl:i=l.length:=by omega
   have hd:bu (l.drop l.length)=[]:=by rw[List.drop_length];rfl
   have hrow':=hrow;have gB:=ae (ag hrow (ag bq.grow (show ys.map Ev.e=l by rw[bQ,iA])));have hyp:(0:Int)<(ys.length:Int):=by have:0<l.length:=List.length_pos_iff.2 oZ.out;omega
   have sj:0<ys.length:=by omega
   rw[hd]at c0;obtain⟨oa,oc,rfl⟩:=hrow.slice;clear hrow hrow' bq h1 h2 bQ hd dM;go_wp2;go_ret2;exact⟨_,ys,rfl,gB.out.2.2,gB.out.1,gB.out.2.1⟩
theorem aEj(b:Bv w bv l)(h:iP aq l=(p,q,0))(i:p<=q)(j:q<=l.length)(c:l.length<=900000000000):
  Calls Tryz.prog 147 #[bv] w λe w'=>∃v,e=.returned (.tuple #[v,.int .i64 q,.int .i64 0])/\aI w.heap.size w' v ((l.drop p).take (q-p))/\Grow w w':=by
 have d:=aeK b (by omega);rw[h]at d;obtain⟨c,f,rfl⟩:=b.slice;have g:=ug b i j;have i:l.length<=f:=by obtain⟨i,i,i,j,_⟩:=b;cases i;exact j
 obtain⟨i,j⟩:∃i,(if f=p then c else c.map (λc=>c.add p))=i:=⟨_,rfl⟩
 rw[j]at g;have i:∀w',Grow w w'->_:=λw' c=>xG (g.grow c) (by simp;omega)
 have m:((l.drop p).take (q-p)).length=q-p:=by simp;omega
 have j:=ae i;have k:=ae d;have l:(0:Int)<=(p:Int):=by omega
 have l:(p:Int)<=(q:Int):=by omega
 have l:(q:Int)<=(f:Int):=by omega
 clear b d g i h m;go_enter Tryz.func147,Tryz.ntmps147
 go_wp2_with fail
 (with_reducible refine k.out.mono ?_);rintro e f ⟨rfl,d⟩;have g:=ae (j.out f d);have f:=ae d;clear d k j
 go_wp2_with fail
 (with_reducible refine g.out.mono ?_);rintro e d ⟨g,rfl,d,c⟩;obtain⟨e,e,e,rfl⟩:∃a h e,g=.slice a h e:=by obtain⟨a,e,b⟩:=d.slice;exact⟨_,_,_,b⟩
 have a:=ae (ag (d.mono f.out.size) (f.out.trans c));clear d c;go_wp2;go_ret3;exact⟨_,rfl,a.out⟩
theorem TJ(xs:List Ev):(xs.flatMap fZ).length=xs.length*4:=by
 induction xs with
 |nil=>rfl
 |cons a xs a=>rw[List.flatMap_cons,aM,a,EU,dD];omega
theorem Es.src{xs:List Ev}(g:Es N w v xs):Src Tryz.prog 4 57 v xs.length (xs.flatMap fZ) w:=by
 have h:∀u∈xs.flatMap fZ,u.oneCell'=true:=λu c=>by obtain⟨e,d,f⟩:=List.mem_flatMap.1 c;exact aAD (g.2 e d) u f
 obtain⟨⟨a,e,rfl,f,hm,f,f⟩,i⟩:=g;by_cases d:xs=[]
 .subst d
  cases a with
  |none=>exact Src.ofNil w Tryz.underlying57 e
  |some a=>exact Src.ofSlice w Tryz.underlying57 a 0 e [] rfl (λa u c=>by simp at c) (λu c=>by cases c)
 .rcases f with f|⟨b,o,rfl,hb,hlt,hr⟩
  .exact absurd f d
  .refine Src.ofSlice w Tryz.underlying57 ⟨b,o,none⟩ xs.length e _ (TJ xs) (λa u c=>?_) h
   have d:a<xs.length*4:=by have:=(dW.1 c).1;rw[TJ]at this;exact this
   have e:a/4<xs.length:=by omega
   have d:=ek e;have e:=Ef (enc:=fZ) EU d (a%4) (Nat.mod_lt _ (by decide));rw[show a/4*4+a%4=a by omega,c]at e;have c:=hr (a/4) _ d (a%4) u e.symm;rw[show o+a/4*4+a%4=o+a by omega]at c;have d:w.cell? ⟨b,o+a,none⟩=some u:=c;show w.cell? (Addr.add ⟨b,o,none⟩ a)=some u;rw[show(Addr.add ⟨b,o,none⟩ a)=⟨b,o+a,none⟩by simp[Addr.add]];exact d
def NT:Nat->Prop:=λ_=>True
theorem cQ.any{a:List Ev}(b:cQ B N W v a):Es NT W v a:=b.es (λ_ _=>True.intro)
theorem aEl{a:Option Addr}{xs b:List Ev}(g:Es NT w (.slice a xs.length xs.length) xs)(h:Es NT w pv b)(c:0<b.length)(c:xs.length+b.length<=1000000000):
  ∃v' w',(Builtin.append_ #[57,57] 57 #[.slice a xs.length xs.length,pv]).run Tryz.prog w=.ok v' w'/\Es NT w' v' (xs++b)/\Grow w w':=by
 obtain⟨i,d,e,c,f⟩:=info_parts Tryz.YE;have j:Src Tryz.prog i.size 57 pv b.length (b.flatMap fZ) w:=by rw[c];exact h.src
 have k:(Builtin.firstCells i.size xs.length (.slice a xs.length xs.length)).run Tryz.prog w.drew=.ok (xs.flatMap fZ).toArray w.drew:=by rw[c];exact g.src.cellsD
 have l:=run_append_grow_src w 57 57 57 60 i _ Tryz.underlying57 d e a xs.length xs.length (xs.flatMap fZ) k pv b.length (b.flatMap fZ) j (by omega) (by omega) (by rw[f];exact growslice_fits (by omega) (by omega));have a:=grownCap_ge w (xs.length+b.length) xs.length 60;have d:grownCap w (xs.length+b.length) xs.length 60<=maxLen:=grownCap_le_maxLen w (xs.length+b.length) xs.length 60 (by unfold maxLen;omega);have c:Grow w (w.drew.alloc (.cells (((xs.flatMap fZ++b.flatMap fZ)).toArray++Builtin.zeroCells (Value.agg #[.string ByteArray.empty,.int .u64 0,.bool false,.slice none 0 0]).cells (grownCap w (xs.length+b.length) xs.length 60-(xs.length+b.length))) 60)):=⟨rfl,rfl,rfl,by simp,λe e=>heap_alloc_old w.drew _ e⟩
 refine⟨_,_,l,⟨⟨_,_,by rw[aM],by rw[aM];exact a,d,(λa=>by cases a),.inr ⟨w.heap.size,0,rfl,True.intro,by simp,?_⟩⟩,λd a=>?_⟩,c⟩
 .intro i d a e u j
  have k:=ax w.drew (.cells (((xs.flatMap fZ++b.flatMap fZ)).toArray++Builtin.zeroCells (Value.agg #[.string ByteArray.empty,.int .u64 0,.bool false,.slice none 0 0]).cells (grownCap w (xs.length+b.length) xs.length 60-(xs.length+b.length))) 60);have l:e<4:=by have:=(dW.1 j).1;rwa[EU]at this
  have f:i<(xs++b).length:=(dW.1 a).1;have f:=Ef (enc:=fZ) EU a e l;rw[j,List.flatMap_append]at f;have j:i*4+e<(xs.flatMap fZ++b.flatMap fZ).length:=(dW.1 f).1;have b:w.drew.heap.size=w.heap.size:=rfl;rw[b]at k;simp only[World.cell?,k,Nat.zero_add];rw[Array.getElem?_append_left (by simpa using j)];simpa using f
 .rcases dn.1 a with a|a
  .exact(g.2 d a).grow c
  .exact(h.2 d a).grow c
theorem aEm{ys zs:List Ev}(h:cQ B NF w tv ys)(hp:cQ B NF w lv zs)(vZ:0<zs.length)(hB:B<=w.heap.size)(hlen:ys.length+zs.length<=1000000000):
  ∃g cap w',(Builtin.append_ #[57,57] 57 #[tv,lv]).run Tryz.prog w=.ok (.slice (some ⟨g,0,none⟩) (ys.length+zs.length) cap) w'/\cQ B NF w' (.slice (some ⟨g,0,none⟩) (ys.length+zs.length) cap) (ys++zs)/\w.grownBy w' tv.ownBlock:=by
 obtain⟨i0,bU,hz0,hz1,hz2⟩:=info_parts Tryz.YE;have nK:∀y∈ys++zs,nU NF B w y:=λy hy=>by
  rcases dn.1 hy with h1|h1
  .exact h.2 y h1
  .exact hp.2 y h1
 obtain⟨g2,Jp,rfl,hr2⟩:∃g2 Jp,lv=.slice (some ⟨g2,0,none⟩) zs.length Jp/\Rd w g2 0 fZ 4 zs:=by
  rcases id hp.1.2 with⟨h1,h0⟩|⟨g,cap,cur,h1,hB,h3,h4,h5,h6⟩
  .omega
  .exact⟨g,cap,h1,xS EU (h1 ▸ hp.1)⟩
 have mQ:∀u∈zs.flatMap fZ,u.oneCell'=true:=λu hu=>by
  obtain⟨x,hx,TK⟩:=List.mem_flatMap.1 hu;obtain⟨a,c,hv⟩:=(hp.2 x hx).slice;simp only[fZ,bI,List.not_mem_nil,or_false]at TK;rcases TK with rfl|rfl|rfl|rfl
  .rfl
  .rfl
  .rfl
  .rw[hv];rfl
 obtain⟨g,cap,w',hrun,hown,hgr,_,_⟩:=run_append_lies (P:=Tryz.prog) w 57 57 B 60 i0 _ 4 56 Tryz.underlying57 bU hz0 hz1 hz2 rfl (by decide) _ _ _ h.1
  ⟨g2,0,none⟩ zs.length Jp (zs.flatMap fZ) (TJ zs) (λj u hu=>by
   have hj:j<zs.length*4:=by have:=(dW.1 hu).1;rw[TJ]at this;exact this
   have hi:j/4<zs.length:=by omega
   have hx1:=ek hi;have h5:=Ef (enc:=fZ) EU hx1 (j%4) (Nat.mod_lt _ (by decide));rw[show j/4*4+j%4=j by omega,hu]at h5;have h6:=hr2 (j/4) _ hx1 (j%4) u h5.symm;rw[show 0+j/4*4+j%4=0+j by omega]at h6;have h7:w.cell? ⟨g2,0+j,none⟩=some u:=h6;rw[show(Addr.add ⟨g2,0,none⟩ j)=⟨g2,0+j,none⟩by by_cases rM:j=0<;>simp[Addr.add,rM]];exact h7) mQ vZ (by unfold maxLen;omega) (by omega) hB _ rfl
 refine⟨g,cap,w',hrun,⟨?_,λy hy=>(nK y hy).keep hgr.size (λb hb=>hb.elim) (λb cur f hb hc=>?_)⟩,hgr⟩
 .rw[aM,List.flatMap_append];exact hown
 .rw[hgr.block b (af hc) (λe=>?_)]
  .exact hc
  .obtain⟨_,cur',h2⟩:=sg h e.symm;rw[hc]at h2;exact absurd (cp (bh h2)).2.1 (by decide)
theorem AB{D P Q R:List UInt8}(a:D=P++(Q++R))(hi:P.length=i)(hm:Q.length=m):(D.drop i).take m=Q:=by subst a hi hm;rw[List.drop_left,List.take_left]
structure SsP(gs:List (List En))(n:Nat)(fl D:List UInt8)(a th en:Nat):Prop where
 at':a=(bZ gs).length
 th':th=a+(bC aq (kh 0 gs)).length
 en':en=th+(bC aq fl).length
 len:D.length=en+28
 ending:(D.drop en).take (en+24-en)=jI a th n
 sum:(D.drop (en+24)).take (D.length-(en+24))=cK 4 (eQ aq (jI a th n))
 n1:(D.drop en).take (en+8-en)=cK 8 a
 n2:(D.drop (en+8)).take (en+16-(en+8))=cK 8 th
 n3:(D.drop (en+16)).take (en+24-(en+16))=cK 8 n
 idx:(D.drop a).take (th-a)=bC aq (kh 0 gs)
 fil:(D.drop th).take (en-th)=bC aq fl
 blk:∀g1 g2,gs=g1++g2->(D.drop (bZ g1).length).take (a-(bZ g1).length)=bZ g2
theorem aEq(a:List (List En))(n:Nat)(b:List UInt8):SsP a n b (ig a n b) (bZ a).length (eJ a).length ((eJ a).length+(bC aq b).length):=by
 have h:(eJ a).length=(bZ a).length+(bC aq (kh 0 a)).length:=by unfold eJ;rw[aM]
 have d:∀v,(cK 8 v).length=8:=λv=>nD 8 v
 have f:=Sv (bZ a).length (eJ a).length n;have i:∀v,(cK 4 v).length=4:=λv=>nD 4 v
 refine⟨rfl,h,rfl,?_,?_,?_,?_,?_,?_,?_,?_,λc e j=>?_⟩
 .unfold ig;simp only[aM,f,i];omega
 .exact AB (P:=eJ a++bC aq b) (R:=cK 4 (eQ aq (jI (bZ a).length (eJ a).length n))) (by simp[ig]) (by simp) (by rw[f];omega)
 .have g:ig a n b=(eJ a++bC aq b++jI (bZ a).length (eJ a).length n)++(cK 4 (eQ aq (jI (bZ a).length (eJ a).length n))++[]):=by simp[ig]
  refine AB g (by simp[f];omega) ?_;rw[g];simp[f];omega
 .exact AB (P:=eJ a++bC aq b) (R:=cK 8 (eJ a).length++(cK 8 n++cK 4 (eQ aq (jI (bZ a).length (eJ a).length n)))) (by simp[ig,jI]) (by simp) (by rw[d];omega)
 .exact AB (P:=eJ a++bC aq b++cK 8 (bZ a).length) (R:=cK 8 n++cK 4 (eQ aq (jI (bZ a).length (eJ a).length n))) (by simp[ig,jI]) (by simp[d];omega) (by rw[d];omega)
 .exact AB (P:=eJ a++bC aq b++cK 8 (bZ a).length++cK 8 (eJ a).length) (R:=cK 4 (eQ aq (jI (bZ a).length (eJ a).length n))) (by simp[ig,jI]) (by simp[d];omega) (by rw[d];omega)
 .exact AB (P:=bZ a) (R:=bC aq b++(jI (bZ a).length (eJ a).length n++cK 4 (eQ aq (jI (bZ a).length (eJ a).length n)))) (by simp[ig,eJ]) rfl (by omega)
 .exact AB (P:=eJ a) (R:=jI (bZ a).length (eJ a).length n++cK 4 (eQ aq (jI (bZ a).length (eJ a).length n))) (by simp[ig]) rfl (by omega)
 .subst j
  refine AB (P:=bZ c) (R:=bC aq (kh 0 (c++e))++(bC aq b++(jI (bZ (c++e)).length (eJ (c++e)).length n++cK 4 (eQ aq (jI (bZ (c++e)).length (eJ (c++e)).length n))))) ?_ rfl ?_
  .simp[ig,eJ,MU]
  .rw[MU,aM];omega
theorem aEr(g:List En)(a:List (List En))(b:(bu g).length<=67108864):iP aq (bZ (g::a))=((aG (bu g).length).length+4,(gG g).length,0):=by
 have:bZ (g::a)=gG g++bZ a:=by simp[bZ]
 rw[this];exact aeu aq b _
theorem aEs(g:List En)(a:List (List En)):((bZ (g::a)).drop ((aG (bu g).length).length+4)).take ((gG g).length-((aG (bu g).length).length+4))=bu g:=by
 have b:=nG aq (bu g);have b:bZ (g::a)=(aG (bu g).length++cK 4 (eQ aq (bu g)))++(bu g++bZ a):=by simp[bZ,gG,bC]
 refine AB b (by simp[nD]) ?_;unfold gG;omega
end Go.Proofs.YtoolkdapflaeeaaGreatDoor
namespace Go.Proofs.YtoolkdapflaeeaaGreatDoor
open Go.RowKit Go.Gl Mn
theorem alS{a b:List En}:cx (a++b)↔cx a/\cx b/\∀x∈a,∀y∈b,fY x y:=List.pairwise_append
def aaz(a b:En):Prop:=a.key.data.toList<b.key.data.toList
end Go.Proofs.YtoolkdapflaeeaaGreatDoor
namespace Go.Proofs.YtoolkdapflaeeaaGreatDoor
open Go.RowKit Go.Gl Go.aF Mn
def ve(B:Nat)(W:World)(tb:Nat)(l:List En):Prop:=
 ∃(v b:Value)(c:Int)(a:List Ev),W.heap[tb]?=some (.cells #[v,.int .i64 c,b] 251 (0,0))/\B<=tb/\a.map Ev.e=l/\cQ B NF W v a
theorem cQ.FE{b:List Ev}{xs:List Bk}(a:cQ B NF W v b)(d:iw B' W u xs)(c:W.grownBy W' u.ownBlock):cQ B NF W' v b:=
 a.keep c.size (λ_ b=>b.elim) (λe b b b b f b=>(c.block e (af b) (λe=>by
  obtain⟨_,_,c,c⟩:=d.lt e.symm;rw[b]at c;have:=(cp (bh c)).2.1;rcases f with a|a
  .rw[a]at this;exact absurd this (by decide)
  .rw[a]at this;exact absurd this (by decide))).trans b)
theorem iw.aEt{xs:List Bk}{b:List Ev}(a:iw B w v xs)(c:cQ B' NF w u b)(b:w.grownBy w' u.ownBlock):iw B w' v xs:=
 a.keep λg d=>by obtain⟨_,e,f,f⟩:=a.lt d;refine b.block g e (λb=>?_);obtain⟨_,a,a⟩:=sg c b.symm;rw[f]at a;exact absurd (cp (bh a)).2.1 (by decide)
def aaA(w:World)(c:List (List En))(tb:Nat)(d e:Value)(wr:World):Prop:=
 ∃(a f:List (List En)) (tv:Value) (b:List Ev),c=a++f/\e=.int .i64 ((bZ a).length:Nat)/\iw w.heap.size wr d (nk 0 a)/\wr.heap[tb]?=some (.cells #[tv,.int .i64 0,.slice none 0 0] 251 (0,0))/\
  b.map Ev.e=a.flatten/\cQ w.heap.size NF wr tv b/\Below w.heap.size w wr
theorem aEu{a b c:List En}(d:cx (a++(b++c)))(m:Nat):cx (a.drop m++b):=by
 have e:cx ((a++b)++c):=by rw[jL];exact d
 have a:=(alS.1 e).1;rw[alS]at a ⊢;exact⟨List.Pairwise.sublist (List.drop_sublist _ _) a.1,a.2.1,λb c d e=>a.2.2 b (List.mem_of_mem_drop c) d e⟩
set_option maxRecDepth 1000000 in
theorem aEv{l:List En}{size:Nat}(h:Bv w bv (ig (eX size [] l) l.length (eC l)))(hne:l≠[])(ho:cx l)(jE:Ai l)(ke:∀x∈l,CR x)(hlen:l.length<=1000000)(og:(bu l).length+30*l.length<=50000000):
  Calls Tryz.prog 94 #[bv] w λe w'=>∃tb,e=.returned (.tuple #[.pointer (some ⟨tb,0,none⟩),.nilIface])/\ve w.heap.size w' tb l/\Grow w w':=by
 have hP:=aEq (eX size [] l) l.length (eC l);have gK:=MS size l [] hne;have aaB:=MT size l [];have lX:=NL size l [];generalize eX size [] l=gs at*;rw[iK]at gK;generalize hD:ig gs l.length (eC l)=D at*;generalize ha:(bZ gs).length=a at*;generalize uJ:(eJ gs).length=th at*;generalize hen:th+(bC aq (eC l)).length=en at*;have hbl:=JE gs;rw[gK]at hbl;have fw:=Tg gs 0 aaB;rw[gK,Fb]at fw;have jT:=nG aq (kh 0 gs);have hfn:=cF (kh 0 gs).length;have Lf:=nG aq (eC l);have aEw:=cF (eC l).length;have eF:=Nk l;have hfN:ik l<=2000000:=by have:=Ju l l.length;unfold ik;omega
 have hpl:=hP.len;have TL:=hP.th';have hDl:D.length<=300000000:=by omega
 have aOb:a<th:=by omega
 have aOc:th<en:=by omega
 have aOd:en+28<=D.length:=by omega
 obtain⟨ba,bc,rfl⟩:=h.slice;have hle:D.length<=bc:=by obtain⟨a',c',e',hc',_⟩:=h;cases e';exact hc'
 have HP:=ae hP;have HB:=ae h;have TN:=ae gK;have TP:=ae aaB;have Ha:=ae ha;have w1:IntKind.i64.wrap ((D.length:Int)-28)=(en:Int):=by rw[aQ _ (by omega)];omega
 have TQ:IntKind.i64.wrap ((en:Int)+24)=((en+24:Nat):Int):=by rw[aQ _ (by omega)];omega
 have kY:IntKind.i64.wrap ((en:Int)+16)=((en+16:Nat):Int):=by rw[aQ _ (by omega)];omega
 have w8:IntKind.i64.wrap ((en:Int)+8)=((en+8:Nat):Int):=by rw[aQ _ (by omega)];omega
 obtain⟨ad1,aaC⟩:∃ad,(if bc=en then ba else ba.map (λx=>x.add en))=ad:=⟨_,rfl⟩
 obtain⟨qw,AD⟩:∃qw,qw=en+24:=⟨_,rfl⟩
 obtain⟨wU,AE⟩:∃wU,wU=en+16:=⟨_,rfl⟩
 obtain⟨e8,CS⟩:∃e8,e8=en+8:=⟨_,rfl⟩
 rw[<-AD]at TQ;rw[<-AE]at kY;rw[<-CS]at w8;obtain⟨ad2,alU⟩:∃ad,(if bc=qw then ba else ba.map (λx=>x.add qw))=ad:=⟨_,rfl⟩
 have hs1:=ug h (i:=en) (j:=qw) (by omega) (by omega);have hs2:=ug h (i:=qw) (j:=D.length) (by omega) (aw _);rw[aaC]at hs1;rw[alU]at hs2;have p1:=hP.ending;have p2:=hP.sum;rw[<-AD]at p1 p2;rw[p1]at hs1;rw[p2]at hs2;have BQ:=ae hs1;have rE:=ae hs2;have He:=ae (ag AD (ag AE CS));have i1:(0:Int)<=(en:Int):=by omega
 have i2:(en:Int)<=(qw:Int):=by omega
 have i3:(qw:Int)<=(bc:Int):=by omega
 have i4:(0:Int)<=(qw:Int):=by omega
 have i5:(qw:Int)<=(D.length:Int):=by omega
 have Hf:=ae (ag jT (ag Lf (ag eF (ag hpl (ag TL (ag hD (ag uJ (ag hen lX))))))));clear h hP gK aaB ha jT Lf eF hpl TL hs1 hs2 p1 p2 AD AE CS hD uJ hen hbl fw hfn aEw hfN lX;go_enter Tryz.func94,Tryz.ntmps94
 go_upto_region 4 with fail
 refine oK (λV=>Below w.heap.size w V) [(0,false),(1,false),(2,false),(3,false),(4,false),(8,false),(9,false),(10,false),(11,false),(5,true),(6,true),(7,false),(12,true),(13,false)] (by kernel_rfl) (by kernel_rfl) (bB λ_ _ _ _ _ h=>h) (by((repeat (first|exact bW _ _|assumption|refine cC ?_|refine cD ?_|refine cw ?_ ?_ _|refine cB ?_ ?_ _))<;>try (first|omega|(simp<;>omega)))) ?_;simp only[cm,nth]
 repeat ((first|(apply az;rfl;rintro W hW;go_simp;with_reducible rfl)|(apply aA;rfl));simp only[ah,List.set])
 have hgd:=ay w;have jO:=ax w.drew (.cells #[.slice ad1 (qw-en) (bc-en)] 49);have hg1:=hgd.trans (ar w.drew (.cells #[.slice ad1 (qw-en) (bc-en)] 49));refine fK (by rfl) (λK hK=>?_);go_simp;refine hK _ _ ⟨hg1,?_⟩;clear hK K
 try simp only[ah,List.set,aC]
 refine bw (by rfl) (by go_simp) (QF jO (BQ.out.grow hg1)) ?_;rintro e w2 ⟨rfl,hg2⟩;have nO:=hg1.trans hg2;refine⟨_,rfl,nO,?_⟩
 try simp only[ah,List.set,aC]
 have oV:=Bq (jI a th l.length);generalize NR:eQ aq (jI a th l.length)=SM at*;have HSM:=ae NR;have wS:=wK (n:=SM) (by omega);clear NR
 repeat ((first|(apply az;rfl;rintro W hW;go_simp;with_reducible rfl)|(apply aA;rfl));simp only[ah,List.set])
 have jC:=Sx (rE.out.grow nO) (by rw[nD];decide);rw[Sw 4 _ (by omega)]at jC;refine bw (by rfl) (by go_simp) jC ?_;rintro e w3 ⟨rfl,hw3⟩;have Ol:=hw3.symm;subst Ol;clear hw3;refine⟨_,rfl,nO,?_⟩
 try simp only[ah,List.set,aC]
 repeat ((first|(apply az;rfl;rintro W hW;go_simp;with_reducible rfl)|(apply aA;rfl));simp only[ah,List.set])
 refine bg ?_;have mj:=ae nO;clear nO hg2 hg1 hgd jO jC oV wS alU BQ rE i2 i3 i4 i5 w1 TQ;obtain⟨ad3,alV⟩:∃ad,(if bc=e8 then ba else ba.map (λx=>x.add e8))=ad:=⟨_,rfl⟩
 obtain⟨AD,AE,CS⟩:=He.out;have jk:=ug HB.out (i:=en) (j:=e8) (by omega) (by omega);have jD:=ug HB.out (i:=e8) (j:=wU) (by omega) (by omega);rw[aaC]at jk;rw[alV]at jD;have p1:=HP.out.n1;have p2:=HP.out.n2;rw[<-CS]at p1 p2;rw[<-AE]at p2;rw[p1]at jk;rw[p2]at jD;have j1:(en:Int)<=(e8:Int):=by omega
 have j2:(e8:Int)<=(bc:Int):=by omega
 have j3:(0:Int)<=(e8:Int):=by omega
 have j4:(e8:Int)<=(wU:Int):=by omega
 have j5:(wU:Int)<=(bc:Int):=by omega
 have hc1:=λW (hg:Grow w W)=>Sx (jk.grow hg) (by rw[nD];decide)
 have hc2:=λW (hg:Grow w W)=>Sx (jD.grow hg) (by rw[nD];decide)
 rw[Sw 8 _ (by omega)]at hc1 hc2;have rI:=ae hc1;have Ee:=ae hc2;clear hc1 hc2 jk jD p1 p2 AD AE CS
 go_upto_region 6 with fail
 refine oK (λV=>Below w.heap.size w V) [(0,false),(1,false),(2,false),(3,false),(4,false),(6,false),(7,false),(8,false),(9,false),(10,false),(11,false),(5,true),(12,true),(13,false),(14,false)] (by kernel_rfl) (by kernel_rfl) (bB λ_ _ _ _ _ h=>h) (mj.out.trans (ay w2)) ?_;simp only[cm,nth]
 repeat ((first|(apply az;rfl;rintro W hW;go_simp;with_reducible rfl)|(apply aA;rfl));simp only[ah,List.set])
 refine bw (by rfl) (by go_simp) (rI.out w2.drew (mj.out.trans (ay w2))) ?_;rintro e w3 ⟨rfl,hw3⟩;have Ol:=hw3.symm;subst Ol;clear hw3;refine⟨_,rfl,(mj.out.trans (ay w2)),?_⟩
 try simp only[ah,List.set,aC]
 refine bw (by rfl) (by go_simp) (Ee.out w2.drew (mj.out.trans (ay w2))) ?_;rintro e w3 ⟨rfl,hw3⟩;have Ol:=hw3.symm;subst Ol;clear hw3;refine⟨_,rfl,(mj.out.trans (ay w2)),?_⟩
 try simp only[ah,List.set,aC]
 repeat ((first|(apply az;rfl;rintro W hW;go_simp;with_reducible rfl)|(apply aA;rfl));simp only[ah,List.set])
 refine bg ?_;have CN:=ae (mj.out.trans (ay w2));generalize w2.drew=w3 at*;have k1:decide (th<=a)=false:=by simp;omega
 have k2:decide (en<=th)=false:=by simp;omega
 have wen:=wK (n:=en) (by omega);have wia:IntKind.i64.wrap (a:Int)=(a:Int):=aQ _ (by omega);clear mj aaC alV j1 j2 j3 j4 j5 rI Ee w8 kY i1;have ai:=ar w3 (.cells #[.slice none 0 0,.int .i64 0,.slice none 0 0] 251);have fw:=ax w3 (.cells #[.slice none 0 0,.int .i64 0,.slice none 0 0] 251);have JI:=ae (CN.out.trans ai);have Az:=ae fw;have hb3:=CN.out.size;clear ai fw
 go_wp2_with fail
 have hst:aaA w gs w3.heap.size (.slice none 0 0) (.int .i64 0) (w3.alloc (.cells #[.slice none 0 0,.int .i64 0,.slice none 0 0] 251)):=⟨[],gs,.slice none 0 0,[],rfl,rfl,ajn _ _,Az.out,rfl,⟨jh _ _ _ _,λy h=>by cases h⟩,JI.out⟩
 have bz:=ae hst;obtain⟨tb,eE⟩:∃tb,tb=w3.heap.size:=⟨_,rfl⟩
 rw[<-eE]at bz ⊢;have TR:w.heap.size<=tb:=by rw[eE];exact hb3
 clear hst eE hb3 Az JI CN
 go_loopw [8,9] (λkv iv wr=>aaA w gs tb kv iv wr) (λ_ iv _=>a-(intOf iv).toNat)
 case atStart=>exact bz.out
 case round=>
  obtain⟨g1,g2,tv,ys,fk,rfl,jr,nW,bQ,hrow,dX⟩:=hrel;obtain⟨ka,kc,rfl⟩:=jr.slice;rw[tB]at jr ⊢;have bE:a=(bZ g1).length+(bZ g2).length:=by rw[<-Ha.out,fk,MU,aM]
  have hblk:=HP.out.blk g1 g2 fk;have gK:=TN.out;rw[fk,List.flatten_append]at gK;generalize dV:(bZ g1).length=fr at*;cases g2 with
  |nil=>
   have aEy:fr=a:=by rw[bE];simp[bZ]
   subst aEy;rw[List.append_nil]at fk;subst fk;rw[List.flatten_nil,List.append_nil]at gK;rw[gK]at bQ;clear hblk bE dV;have dM:ys.length=l.length:=by have:=congrArg List.length bQ;rwa[bA]at this
   obtain⟨ta,tc,rfl⟩:=hrow.slice;have JH:=ajG hrow.any (by omega) (λy hy=>by have:=ke y.e (by rw[<-bQ];exact aV.2 ⟨y,hy,rfl⟩);have:=this.key;omega)
   rw[bQ]at JH;have NP:=ae JH;have t0:wr.cell? ⟨tb,0,none⟩=some (.slice ta ys.length tc):=by simp[World.cell?,nW]
   have lt0:=af nW;have HS:=ae (ag jr (ag nW (ag bQ (ag hrow (ag dX dM)))));clear JH jr nW bQ hrow dX dM gK;have mm:decide ((fr:Int)<(fr:Int))=false:=by simp
   go_wp2_with fail
   (with_reducible refine NP.out.mono ?_);rintro e w4 ⟨fv,rfl,tH,hg4⟩;obtain⟨jr,nW,bQ,hrow,dX,dM⟩:=HS.out;obtain⟨AG,AH,rfl⟩:=tH.slice;have AJ:=hg4.heap nW;have cG:=Go.Gl.aK (Go.Gl.aK AJ 1 (.int .i64 (gs.length:Int))) 2 (.slice AG (eC l).length AH);have CT:GX tb w4 ((w4.setCell ⟨tb,1,none⟩ (.int .i64 (gs.length:Int))).setCell ⟨tb,2,none⟩ (.slice AG (eC l).length AH)):=(Go.Gl.jB _ _ _ _).trans (Go.Gl.jB _ _ _ _);have AK:Below w.heap.size w ((w4.setCell ⟨tb,1,none⟩ (.int .i64 (gs.length:Int))).setCell ⟨tb,2,none⟩ (.slice AG (eC l).length AH)):=((dX.trans (hg4.mono dX.size)).setCell (p:=⟨tb,1,none⟩) TR _).setCell (p:=⟨tb,2,none⟩) TR _;have ri:cQ w.heap.size NF ((w4.setCell ⟨tb,1,none⟩ (.int .i64 (gs.length:Int))).setCell ⟨tb,2,none⟩ (.slice AG (eC l).length AH)) (.slice ta ys.length tc) ys:=(cQ.grow hrow hg4 (λb h=>h.elim)).gx CT (λcur t f hc=>by rw[AJ]at hc;have:=(cp (bh hc)).2.1;subst this;exact⟨by decide,by decide⟩)
   have FU:iw w.heap.size ((w4.setCell ⟨tb,1,none⟩ (.int .i64 (gs.length:Int))).setCell ⟨tb,2,none⟩ (.slice AG (eC l).length AH)) (.slice ka gs.length kc) (nk 0 gs):=by have hk4:=jr.grow hg4;exact hk4.keep (λg hg=>CT.block g (hk4.lt hg).2.1 (λe=>by obtain⟨_,_,cur,h3⟩:=hk4.lt hg;cases e;rw[AJ]at h3;exact absurd (cp (bh h3)).2.1 (by decide)))
   have FV:aI w.heap.size ((w4.setCell ⟨tb,1,none⟩ (.int .i64 (gs.length:Int))).setCell ⟨tb,2,none⟩ (.slice AG (eC l).length AH)) (.slice AG (eC l).length AH) (eC l):=by have h1:=tH.mono dX.size;exact h1.keep (λg hg=>CT.block g (h1.lt hg).2 (λe=>by obtain⟨cur,h3⟩:=h1.block hg;cases e;rw[AJ]at h3;exact absurd (cp (bh h3)).2.1 (by decide)))
   have t1:w4.cell? ⟨tb,1,none⟩=some (.int .i64 0):=by simp[World.cell?,AJ]
   have t2:w4.cell? ⟨tb,2,none⟩=some (.slice none 0 0):=by simp[World.cell?,AJ]
   have lt4:=af AJ;have ft4:=bG AJ;have H5:=ae (ag cG (ag AK (ag ri (ag FU (ag FV (ag bQ dM))))));clear cG CT AK ri FU FV AJ jr nW bQ hrow dX dM tH hg4 HS NP t0 lt0
   go_upto_region 21 with fail
   obtain⟨w5,oQ⟩:∃W,(w4.setCell ⟨tb,1,none⟩ (.int .i64 (gs.length:Int))).setCell ⟨tb,2,none⟩ (.slice AG (eC l).length AH)=W:=⟨_,rfl⟩
   rw[oQ]at H5 ⊢;clear oQ t1 t2 lt4 ft4;obtain⟨cG,AK,ri,FU,FV,bQ,dM⟩:=H5.out;obtain⟨ad6,alX⟩:∃ad,Option.map (λx=>Addr.add x fr) ba=ad:=⟨_,rfl⟩
   have hc6:=Tv (HB.out.grow (w':=w5) AK) (i:=fr) (j:=th) (k:=th) (by omega) (by omega) (aw _) (by omega);rw[if_neg (show¬th=fr by omega),alX,HP.out.idx]at hc6;have aEB:(if th=fr then ba else ad6)=ad6:=if_neg (by omega);have hbl:=JE gs;rw[TN.out]at hbl;obtain⟨jT,Lf,eF,hpl,TL,hD,uJ,hen,lX⟩:=Hf.out;have fw:=Tg gs 0 TP.out;rw[TN.out,Fb]at fw;have JF:∀g∈gs,(bu g).length<=(bu l).length:=λg hg=>by rw[<-TN.out,<-akD];exact ZH (aV.2 ⟨g,hg,rfl⟩)
   have mo:=ZF gs 0 (λg hg=>⟨TP.out g hg,by have:=JF g hg;omega⟩) (by rw[Ha.out];omega);have qA:=λW (hg:Grow w5 W)=>ajr (FU.grow hg) mo (by rw[tB];omega) (by rw[Fb];omega)
   rw[Fb]at qA;have CE:=ae qA;have FW:=ae hc6;have c1:(0:Int)<=(fr:Int):=by omega
   have c2:(fr:Int)<=(th:Int):=by omega
   have c3:(th:Int)<=(bc:Int):=by omega
   have lz:(kh 0 gs).length<=67108864:=by omega
   clear qA hc6 hbl jT Lf eF hpl TL hD uJ hen lX fw JF mo cG AK ri FU FV bQ dM;refine cN (λV=>Below w5.heap.size w5 V) [6,0,0] (by kernel_rfl) (bB λ_ _ _ _ _ h=>h) (by((repeat (first|exact bW _ _|assumption|refine cC ?_|refine cD ?_|refine cw ?_ ?_ _|refine cB ?_ ?_ _))<;>try (first|omega|(simp<;>omega)))) ?_;simp only[ct]
   repeat ((first|(apply az;rfl;rintro W hW;go_simp;with_reducible rfl)|(apply aA;rfl));simp only[ah,List.set])
   clear c1 c2 c3 alX aEB;have hgd:=ay w5;refine bw (by rfl) (by go_simp) (CE.out w5.drew hgd) ?_;rintro e w6 ⟨xv,rfl,qY,dh⟩;have FY:=hgd.trans dh;refine⟨_,rfl,FY,?_⟩
   try simp only[ah,List.set,aC]
   refine bw (by rfl) (by go_simp) (DL (cE qY) lz) ?_;rintro e w7 ⟨fv2,rfl,FZ,dF⟩;have CU:=FY.trans dF;refine⟨_,rfl,CU,?_⟩
   try simp only[ah,List.set,aC]
   refine bw (by rfl) (by go_simp) (Wj (FW.out.grow CU) (cE FZ)) ?_;rintro e w8 ⟨rfl,cW⟩;have aaG:=CU.trans cW;refine⟨_,rfl,aaG,?_⟩
   try simp only[ah,List.set,aC]
   try rw[decide_eq_true (rfl:bC aq (kh 0 gs)=bC aq (kh 0 gs))]
   obtain⟨Ff,xL,Fg,rfl⟩:∃a L c,xv=.slice a L c:=by obtain⟨a,c,h⟩:=qY.slice;exact⟨_,_,_,h⟩
   obtain⟨yya,yL,yyc,rfl⟩:∃a L c,fv2=.slice a L c:=by obtain⟨a,c,h⟩:=FZ.slice;exact⟨_,_,_,h⟩
   repeat ((first|(apply az;rfl;rintro W hW;go_simp;with_reducible rfl)|(apply aA;rfl));simp only[ah,List.set])
   refine bg ?_;have TS:=ae aaG;clear aaG cW CU dF FY dh hgd qY FZ CE FW lz
   go_upto_region 23 with fail
   obtain⟨cG,AK,ri,FU,FV,bQ,dM⟩:=H5.out;have rj:=TS.out.heap cG;have vg:=AK.trans (TS.out.mono AK.size);have mG:=cQ.grow ri TS.out (λb h=>h.elim);have alY:=FV.grow TS.out;obtain⟨ad7,ama⟩:∃ad,Option.map (λx=>Addr.add x th) ba=ad:=⟨_,rfl⟩
   have aEE:(if en=th then ba else ad7)=ad7:=if_neg (by omega);have Jg:=Tv (HB.out.grow (w':=w8) vg) (i:=th) (j:=en) (k:=en) (by omega) (by omega) (aw _) (by omega);rw[if_neg (show¬en=th by omega),ama,HP.out.fil]at Jg;have eF:=Hf.out.2.2.1;have amb:(eC l).length<=67108864:=by rw[eF];have:=Ju l l.length;unfold ik;omega
   have s0:w8.cell? ⟨tb,0,none⟩=some (.slice ta ys.length tc):=by simp[World.cell?,rj]
   have s2:w8.cell? ⟨tb,2,none⟩=some (.slice AG (eC l).length AH):=by simp[World.cell?,rj]
   have lt8:=af rj;have HC7:=ae Jg;have ame:=ae alY;have H8:=ae (ag rj (ag vg (ag mG (ag bQ dM))));have c1:(0:Int)<=(th:Int):=by omega
   have c2:(th:Int)<=(en:Int):=by omega
   have c3:(en:Int)<=(bc:Int):=by omega
   have aEF:=Grow.cells (w:=w8);clear cG AK ri FU FV rj vg mG alY Jg eF bQ dM s0;refine cN (λV=>Below w8.heap.size w8 V) [9,0] (by kernel_rfl) (bB λ_ _ _ _ _ h=>h) (by((repeat (first|exact bW _ _|assumption|refine cC ?_|refine cD ?_|refine cw ?_ ?_ _|refine cB ?_ ?_ _))<;>try (first|omega|(simp<;>omega)))) ?_;simp only[ct]
   repeat ((first|(apply az;rfl;rintro W hW;go_simp;with_reducible rfl)|(apply aA;rfl));simp only[ah,List.set])
   clear c1 c2 c3 ama aEE s2 lt8 aEF;have hgd:=ay w8;refine bw (by rfl) (by go_simp) (DL (cE (ame.out.grow hgd)) amb) ?_;rintro e w9 ⟨fv2,rfl,FZ,py⟩;have qx:=hgd.trans py;refine⟨_,rfl,qx,?_⟩
   try simp only[ah,List.set,aC]
   refine bw (by rfl) (by go_simp) (Wj (HC7.out.grow qx) (cE FZ)) ?_;rintro e ix ⟨rfl,qZ⟩;have aaH:=qx.trans qZ;refine⟨_,rfl,aaH,?_⟩
   try simp only[ah,List.set,aC]
   try rw[decide_eq_true (rfl:bC aq (eC l)=bC aq (eC l))]
   obtain⟨yya,yL,yyc,rfl⟩:∃a L c,fv2=.slice a L c:=by obtain⟨a,c,h⟩:=FZ.slice;exact⟨_,_,_,h⟩
   repeat ((first|(apply az;rfl;rintro W hW;go_simp;with_reducible rfl)|(apply aA;rfl));simp only[ah,List.set])
   refine bg ?_;have aaI:=ae aaH;clear aaH qZ qx py hgd FZ HC7 ame amb
   go_upto_region 25 with fail
   obtain⟨rj,vg,mG,bQ,dM⟩:=H8.out;obtain⟨AD,AE,CS⟩:=He.out;have JZ:=vg.trans (aaI.out.mono vg.size);obtain⟨ad8,amf⟩:∃ad,(if bc=wU then ba else ba.map (λx=>x.add wU))=ad:=⟨_,rfl⟩
   have qj:=ug (HB.out.grow (w':=ix) JZ) (i:=wU) (j:=qw) (by omega) (by omega);have p3:=HP.out.n3;rw[<-AE,<-AD]at p3;rw[amf,p3]at qj;have jC:=λW (hg:Grow ix W)=>Sx (qj.grow hg) (by rw[nD];decide)
   rw[Sw 8 _ (by omega)]at jC;have od:=ae jC;have Ka:=aaI.out.heap rj;have s0:ix.cell? ⟨tb,0,none⟩=some (.slice ta ys.length tc):=by simp[World.cell?,Ka]
   have aiw:=af Ka;have TT:=cQ.grow mG aaI.out (λb h=>h.elim);have H10:=ae (ag Ka (ag JZ (ag TT bQ)));rw[dM]at s0;have kY:IntKind.i64.wrap ((en:Int)+16)=(wU:Int):=by rw[aQ _ (by omega)];omega
   have TQ:IntKind.i64.wrap ((en:Int)+24)=(qw:Int):=by rw[aQ _ (by omega)];omega
   have wul:=wK (n:=l.length) (by omega);have c1:(0:Int)<=(wU:Int):=by omega
   have c2:(wU:Int)<=(qw:Int):=by omega
   have c3:(qw:Int)<=(bc:Int):=by omega
   have aEI:=Grow.cells (w:=ix);clear rj vg mG bQ dM AD AE CS JZ qj p3 jC Ka TT;refine oK (λV=>Below ix.heap.size ix V) [(0,false),(1,false),(2,false),(3,false),(4,false),(5,false),(7,false),(8,false),(9,false),(10,false),(11,false),(12,false),(6,true),(13,false),(14,false)] (by kernel_rfl) (by kernel_rfl) (bB λ_ _ _ _ _ h=>h) (by((repeat (first|exact bW _ _|assumption|refine cC ?_|refine cD ?_|refine cw ?_ ?_ _|refine cB ?_ ?_ _))<;>try (first|omega|(simp<;>omega)))) ?_;simp only[cm,nth]
   repeat ((first|(apply az;rfl;rintro W hW;go_simp;with_reducible rfl)|(apply aA;rfl));simp only[ah,List.set])
   clear c1 c2 c3 amf s0 aiw aEI kY TQ wul;refine bw (by rfl) (by go_simp) (od.out ix.drew (ay ix)) ?_;rintro e nV ⟨rfl,amg⟩;have aEJ:=amg.symm;subst aEJ;clear amg;refine⟨_,rfl,ay ix,?_⟩
   try simp only[ah,List.set,aC]
   repeat ((first|(apply az;rfl;rintro W hW;go_simp;with_reducible rfl)|(apply aA;rfl));simp only[ah,List.set])
   refine bg ?_;go_wp2;go_ret2;obtain⟨Ka,JZ,TT,bQ⟩:=H10.out;exact⟨tb,rfl,⟨_,_,_,ys,(ay ix).heap Ka,TR,bQ,cQ.grow TT (ay ix) (λb h=>h.elim)⟩,JZ.trans ((ay ix).mono JZ.size)⟩
  |cons g g2=>
   have lX:g≠[]:=TP.out g (by rw[fk];simp);have JF:(bu g).length<=(bu l).length:=by rw[<-gK,List.flatten_cons,tz,tz,aM,aM];omega
   have aOj:g.length<=l.length:=by rw[<-gK];simp;omega
   have sj:ys.length<=l.length:=by have h1:=congrArg List.length bQ;rw[bA]at h1;rw[h1,<-gK];simp
   have hyg:ys.length+g.length<=l.length:=by have h1:=congrArg List.length bQ;rw[bA]at h1;rw[h1,<-gK];simp
   have aOl:fr<a:=by have:=Lb aq (bu g);rw[bE];simp only[bZ,List.flatMap_cons,aM,gG];omega
   obtain⟨ad4,aEK⟩:∃ad,Option.map (λx=>Addr.add x fr) ba=ad:=⟨_,rfl⟩
   have hcb:=Tv (HB.out.grow (w':=wr) dX) (i:=fr) (j:=a) (k:=a) (by omega) (by omega) (aw _) (by omega);rw[if_neg (show¬a=fr by omega),aEK,hblk]at hcb;have pj:(bZ (g::g2)).length=a-fr:=by omega
   have qD:=aEj (by rw[<-pj]at hcb;exact hcb) (aEr g g2 (by omega)) (by have:=nG aq (bu g);unfold gG;omega) (by simp[bZ]) (by omega);rw[aEs,pj]at qD;have nJ:=ae qD;have m1:(fr:Int)<=(a:Int):=by omega
   have m2:(a:Int)<=(bc:Int):=by omega
   have m0:(0:Int)<=(fr:Int):=by omega
   have m3:(fr:Int)<(a:Int):=by omega
   have HS:=ae (ag fk (ag jr (ag nW (ag bQ (ag hrow (ag dX (ag gK dV)))))));clear hcb qD hblk bE fk jr nW bQ hrow dX gK dV pj
   go_wp2_with fail
   (with_reducible refine nJ.out.mono ?_);rintro e w4 ⟨pv,rfl,hop,hg4⟩;have yK:=aEi (cE hop) lX (λx hx=>ke x (by rw[<-HS.out.2.2.2.2.2.2.1];simp[hx])) (by omega) (by omega);have FI:=ae yK;obtain⟨pa,pc,rfl⟩:=hop.slice;have AL:=ae hg4;clear hop yK hg4 nJ
   go_wp2_with fail
   (with_reducible refine FI.out.mono ?_);rintro e w5 ⟨ev,zs,rfl,hzs,hrz,bm⟩;obtain⟨fk,jr,nW,bQ,hrow,dX,gK,dV⟩:=HS.out;have CV:=AL.out.trans bm;have hzl:zs.length=g.length:=by have:=congrArg List.length hzs;rwa[bA]at this
   have hgp:0<g.length:=List.length_pos_iff.2 lX;have ri:cQ w.heap.size NF w5 tv ys:=cQ.grow hrow CV (λb h=>h.elim);have Kb:cQ w.heap.size NF w5 ev zs:=hrz.mono (aJ dX.size AL.out.size);have Ga:=CV.heap nW;obtain⟨ta,tc,rfl⟩:=hrow.slice;obtain⟨za,zc,rfl⟩:=hrz.slice;have t0:w5.cell? ⟨tb,0,none⟩=some (.slice ta ys.length tc):=by simp[World.cell?,Ga]
   have mY:=af Ga;obtain⟨m,hm⟩:∃m,m=ys.length-1:=⟨_,rfl⟩
   have hmx:max (IntKind.i64.wrap ((ys.length:Int)-1)) 0=(m:Int):=by rw[aQ _ (by omega)];omega
   have pC:IntKind.i64.wrap ((ys.length:Int)-1)=(ys.length:Int)-1:=aQ _ (by omega);have amh:max ((ys.length:Int)-1) 0=(m:Int):=by omega
   have hyc:ys.length<=tc:=by obtain⟨⟨_,_,he,hl,_⟩,_⟩:=ri.any;cases he;exact hl
   obtain⟨ad5,ami⟩:∃ad,(if ys.length=m then ta else ta.map (λx=>x.add (m*4)))=ad:=⟨_,rfl⟩
   have hcut:=YD ri.any (i:=m) (j:=ys.length) (k:=ys.length) (by omega) (aw _) (aw _) hyc;rw[ami]at hcut;have aU:((ys.drop m).take (ys.length-m))=ys.drop m:=List.take_of_length_le (by simp);rw[aU]at hcut;have ir:(ys.drop m).length=ys.length-m:=by simp
   rw[<-ir]at hcut;have amj:cx ((ys.drop m++zs).map Ev.e):=by rw[dS,List.map_drop,bQ,hzs];rw[<-gK,List.flatten_cons]at ho;exact aEu ho m
   have amk:Ai ((ys.drop m++zs).map Ev.e):=by
    rw[dS,List.map_drop,bQ,hzs];intro x hx;refine jE x ?_;rw[<-gK,List.flatten_cons];rcases dn.1 hx with h1|h1
    .exact jg _ (List.mem_of_mem_drop h1)
    .exact nz _ (jg _ h1)
   have bq:∀W,Grow w5 W->∃v' w',(Builtin.append_ #[57,57] 57 #[.slice ad5 (ys.length-m) (ys.length-m),.slice za g.length zc]).run Tryz.prog W=.ok v' w'/\Es NT w' v' (ys.drop m++zs)/\Grow W w':=λW hg=>by have:=aEl (hcut.grow hg) (Kb.any.grow hg) (by omega) (by simp;omega);rw[ir]at this;rw[<-hzl];exact this
   have HRd:=ae bq;have Hop:=ae (ag amj amk);have HW5:=ae (ag ri (ag Kb (ag Ga (ag CV (ag hzs hzl)))));have n0:(0:Int)<=(m:Int):=by omega
   have n1:(m:Int)<=(ys.length:Int):=by omega
   have n2:(ys.length:Int)<=(tc:Int):=by omega
   have Hm:=ae hm;clear fk jr nW bQ hrow dX gK dV ri Kb Ga hcut aU ir amj amk bq hrz CV bm hzs FI hm;have aEN:=Grow.cells (w:=w5)
   go_upto_region 15 with fail
   refine cN (λV=>Below w5.heap.size w5 V) [30,0] (by kernel_rfl) (bB λ_ _ _ _ _ h=>h) (by((repeat (first|exact bW _ _|assumption|refine cC ?_|refine cD ?_|refine cw ?_ ?_ _|refine cB ?_ ?_ _))<;>try (first|omega|(simp<;>omega)))) ?_;simp only[ct]
   repeat ((first|(apply az;rfl;rintro W hW;go_simp;with_reducible rfl)|(apply aA;rfl));simp only[ah,List.set])
   clear t0 mY aEN;have hgd:=ay w5;obtain⟨av,w6,r1,Om,dh⟩:=HRd.out w5.drew hgd;have FY:=hgd.trans dh;refine ud (by rfl) (KU rfl rfl rfl r1) FY ?_
   try simp only[ah,List.set,aC]
   refine bw (by rfl) (by go_simp) (ZB Om (by simp;have:=HW5.out.2.2.2.2.2;omega) Hop.out.1 Hop.out.2) ?_;rintro e w7 ⟨rfl,dF⟩;have CU:=FY.trans dF;refine⟨_,rfl,CU,?_⟩
   try simp only[ah,List.set,aC]
   obtain⟨aa,aL,ac,rfl⟩:∃a L c,av=.slice a L c:=by obtain⟨a,c,h⟩:=Om.slice;exact⟨_,_,_,h⟩
   repeat ((first|(apply az;rfl;rintro W hW;go_simp;with_reducible rfl)|(apply aA;rfl));simp only[ah,List.set])
   refine bg ?_;have Oo:=ae CU;clear CU FY hgd dh dF Om r1 HRd Hop n0 n1 n2 ami hmx pC amh;obtain⟨fk,jr,nW,bQ,hrow,dX,gK,dV⟩:=HS.out;obtain⟨ri,Kb,Ga,CV,hzs,aaK⟩:=HW5.out;have Gb:=cQ.grow ri Oo.out (λb h=>h.elim);have TU:=cQ.grow Kb Oo.out (λb h=>h.elim);have TV:=Oo.out.heap Ga;have Kc:iw w.heap.size w7 (.slice ka g1.length kc) (nk 0 g1):=jr.grow (CV.trans Oo.out);have TW:Below w.heap.size w w7:=dX.trans ((CV.trans Oo.out).mono dX.size);have amn:=TU.any;rw[aaK]at amn;have amo:=TU.any;obtain⟨x,xb,xo,xc',xa,xcc,hx0,cI,iE,_,_,q0,_,_,_⟩:=amo.read (aW w7) (i:=0) (by omega);cases cI;rw[show xo+0*4=xo by omega]at q0;have hfk:x.e.key=mD g:=by
    rw[<-hzs];cases zs with
    |nil=>simp at hx0
    |cons z zs=>simp at hx0;subst hx0;rfl
   rw[hfk]at q0;have aOq:g1.length<=1000000:=by
    have h1:=tB g1 0;have h2:∀(gg:List (List En)),(∀u∈gg,u≠[])->gg.length<=gg.flatten.length:=by
     intro gg
     induction gg with
     |nil=>intro _;simp
     |cons u gg ih=>intro hu;have h3:=ih (λv hv=>hu v (fE _ hv));have h4:0<u.length:=List.length_pos_iff.2 (hu u (ej ..));rw[List.flatten_cons,aM,dD];omega
    have h3:=h2 g1 (λu hu=>TP.out u (by rw[fk];exact jg _ hu));have h4:g1.flatten.length<=l.length:=by rw[<-gK];simp
    omega
   obtain⟨kg,ZM,w8,r8,BW,tL⟩:=ajo Kc ⟨mD g,fr,(gG g).length⟩ TW.size (by rw[tB];omega);rw[tB]at r8 BW;dsimp only[Jr,gG]at r8;have mG:=Gb.FE Kc tL;have amq:=TU.FE Kc tL;have vg:Below w.heap.size w w8:=Below.grown TW tL TW.size (λg hg=>(Kc.lt hg).1);have rj:w8.heap[tb]?=some (.cells #[.slice ta ys.length tc,.int .i64 0,.slice none 0 0] 251 (0,0)):=(tL.block tb (af TV) (λe=>by obtain⟨_,_,cur,h3⟩:=Kc.lt e.symm;rw[TV]at h3;exact absurd (cp (bh h3)).2.1 (by decide))).trans TV
   obtain⟨eg,aaL,w9,r9,Oq,TX⟩:=aEm mG amq (by omega) vg.size (by omega);rw[aaK]at r9 Oq;have TY:=BW.aEt mG TX;have amr:Below w.heap.size w w9:=Below.grown vg TX vg.size (λg hg=>(sg mG hg).1);have Gc:w9.heap[tb]?=some (.cells #[.slice ta ys.length tc,.int .i64 0,.slice none 0 0] 251 (0,0)):=(TX.block tb (af rj) (λe=>by obtain⟨_,cur,h3⟩:=sg mG e.symm;rw[rj]at h3;exact absurd (cp (bh h3)).2.1 (by decide))).trans rj
   have ams:=Go.Gl.aK Gc 0 (.slice (some ⟨eg,0,none⟩) (ys.length+g.length) aaL);have CT:GX tb w9 (w9.setCell ⟨tb,0,none⟩ (.slice (some ⟨eg,0,none⟩) (ys.length+g.length) aaL)):=Go.Gl.jB _ _ _ _;have hrel:aaA w gs tb (.slice (some ⟨kg,0,none⟩) (g1.length+1) ZM) (.int .i64 ((fr:Int)+((gG g).length:Int))) (w9.setCell ⟨tb,0,none⟩ (.slice (some ⟨eg,0,none⟩) (ys.length+g.length) aaL)):=by
    refine⟨g1++[g],g2,_,ys++zs,by rw[fk];simp,?_,?_,ams,?_,?_,amr.setCell (p:=⟨tb,0,none⟩) TR _⟩
    .rw[MU,aM,dV];simp[bZ,gG]
    .rw[YP,dV,Nat.zero_add];exact TY.keep (λg hg=>CT.block g (TY.lt hg).2.1 (λe=>by obtain⟨_,_,cur,h3⟩:=TY.lt hg;cases e;rw[Gc]at h3;exact absurd (cp (bh h3)).2.1 (by decide)))
    .rw[dS,bQ,hzs];simp
    .exact Oq.gx CT (λcur t f hc=>by rw[Gc]at hc;have:=(cp (bh hc)).2.1;subst this;exact⟨by decide,by decide⟩)
   have R8:=ae r8;have R9:=ae r9;have aR:=ae hrel;have sW:w8.cell? ⟨tb,0,none⟩=some (.slice ta ys.length tc):=by simp[World.cell?,rj]
   have lt8:=af rj;have yS:w9.cell? ⟨tb,0,none⟩=some (.slice ta ys.length tc):=by simp[World.cell?,Gc]
   have XB:=af Gc;have XC:=bG Gc;have aOr:(gG g).length<=60000000:=by have h1:=ZC g;omega
   have aOs:0<(gG g).length:=Lb aq (bu g);have wfr:IntKind.i64.wrap ((fr:Int)+((gG g).length:Int))=(fr:Int)+((gG g).length:Int):=aQ _ (by omega);have hg0:(0:Int)<(g.length:Int):=by omega
   clear fk jr nW bQ hrow dX gK dV ri Kb Ga CV hzs aaK Gb TU TV Kc TW amn amo hx0 hfk r8 BW tL mG amq vg rj r9 Oq TX TY amr Gc ams CT hrel hzl
   go_upto_region 18 with(at_builtin;refine fP rfl rfl rfl rfl R8.out ?_)
   go_wp2_with (at_builtin;refine fP rfl rfl rfl rfl R9.out ?_)
   go_roundw
   case rel=>exact aR.out
   case measure=>simp[intOf];omega
abbrev encI:Int->Value:=Value.int .i64
structure TZ(w:World)(tm:Nat)(g:Int->Option Value)(m n:Nat)(l:List En)(w':World)(tb:Nat):Prop where
 map:eh w' tm encI (tJ g (n:Int) (.pointer (some ⟨tb,0,none⟩))) (m+1)
 sst:ve w.heap.size w' tb l
 gx:GX tm w w'
theorem ve.gx{l:List En}(b:ve B W tb l)(a:GX r W W')(c:∀d t e,W.heap[r]?≠some (.cells d t e)):ve B W' tb l:=by obtain⟨v,g,h,i,f,j,k,l⟩:=b;refine⟨v,g,h,i,a.heap f (λb=>c _ _ _ (b ▸ f)),j,k,l.keep a.size (λ_ f=>f.elim) (λf d t e _ _ d=>a.heap d (λb=>c _ _ _ (b ▸ d)))⟩
theorem eh.aaM{enc:Int->Value}{g:Int->Option Value}(d:eh w r enc g m):∀a t b,w.heap[r]?≠some (.cells a t b):=by obtain⟨l,c,c,_⟩:=d;intro a t b a;unfold Go.Gl.MapAt at c;rw[c]at a;cases a
theorem amu{N:Nat}{b:Lk}{o:Od}{drv:Value}{V:bM}{k:Int}(h:fA w db sb o drv lv mb tm seq hm)(i:eH w sb p tv V k)(j:Dl Z B w p r b T K F)(q:df N B w){n:Nat}(C:n<N)(D:n<1000000){l:List En}{size:Nat}(r:b (eR n)=some (ig (eX size [] l) l.length (eC l),(ig (eX size [] l) l.length (eC l)).length))(b:l≠[])(s:cx l)(t:Ai l)(u:∀x∈l,CR x)(c:l.length<=1000000)(v:(bu l).length+30*l.length<=50000000){g:Int->Option Value}(x:eh w tm encI g m):
  Calls Tryz.prog 51 #[.pointer (some ⟨db,0,none⟩),.int .i64 (n:Int)] w λe w'=>e=.returned .nilIface/\∃tb,TZ w tm g m n l w' tb:=by
 have E:=ae r;have y:=λ(W:World)(bv:Value)(k:Bv W bv (ig (eX size [] l) l.length (eC l)))=>aEv k b s t u c v
 have F:=ae y;obtain⟨c,_,_,_,_,_,_,b⟩:=h.cells;obtain⟨d,_,_,_,_,_,f⟩:=i.cells;have o:=ae h;have z:=ae i;have A:=ae j;have G:=ae q;have B:=ae x;clear h i j q x r y s t u v;generalize ig (eX size [] l) l.length (eC l)=h at*;go_enter Tryz.func51,Tryz.ntmps51
 go_wp2_with fail
 refine cN (λW=>W.cell? ⟨db,0,none⟩=some (.pointer (some ⟨sb,0,none⟩))/\db<W.heap.size/\W.cell? ⟨sb,0,none⟩=some (.pointer (some ⟨p,0,none⟩))/\sb<W.heap.size) [8,0] (by kernel_rfl) (bB λ_ _ _ _ _ j=>j) ⟨by simpa using c,by simpa using b,by simpa using d,by simpa using f⟩ ?_;simp only[ct];clear c b d f
 repeat ((first|(apply az;rfl;rintro W ⟨v,x,y,H⟩;go_simp;with_reducible rfl)|(apply aA;rfl));simp only[ah,List.set])
 have p:=ay w;refine bw (by rfl) (by go_simp) (ZX (G.out.grow p A.out.base) C D) ?_;rintro e h ⟨rfl,s⟩;have h:=p.trans s;obtain⟨c,_,_,_,_,_,_,b⟩:=(o.out.grow h).cells;obtain⟨d,_,_,_,_,_,f⟩:=(z.out.grow h).cells;refine⟨_,rfl,⟨c,b,d,f⟩,?_⟩
 try simp only[ah,List.set,aC]
 have q:=LV (A.out.grow h) (eR n);rw[E.out]at q;refine bw (by rfl) (by go_simp) q ?_;rintro e u ⟨⟨bv,rfl,r⟩,t⟩;have i:=h.trans t;obtain⟨c,_,_,_,_,_,_,b⟩:=(o.out.grow i).cells;obtain⟨d,_,_,_,_,_,f⟩:=(z.out.grow i).cells;refine⟨_,rfl,⟨c,b,d,f⟩,?_⟩;have z:=ae (F.out u bv (cE r));obtain⟨u,u,u,rfl⟩:∃a A u,bv=.slice a A u:=by obtain⟨a,u,j⟩:=r.slice;exact⟨_,_,_,j⟩
 have j:=ae i;clear q r t i h s p c b d f
 try simp only[ah,List.set,aC]
 repeat ((first|(apply az;rfl;rintro W ⟨v,x,y,H⟩;go_simp;with_reducible rfl)|(apply aA;rfl));simp only[ah,List.set])
 refine bg ?_
 go_wp2_with fail
 (with_reducible refine z.out.mono ?_);rintro e d ⟨tb,rfl,q,e⟩;have a:=j.out.trans e;obtain⟨_,_,_,_,c,_,_,b⟩:=(o.out.grow a).cells;obtain⟨r,b,f,c⟩:=aaw aas Tryz.underlying90 (B.out.grow a) (n:Int) (.pointer (some ⟨tb,0,none⟩));have h:=(B.out.grow a).aaM;obtain⟨s,t,u,v,i,o,p,b⟩:=q;have q:ve w.heap.size d tb l:=⟨s,t,u,v,i,aJ j.out.size o,p,⟨⟨b.1.1,by
  rcases b.1.2 with d|⟨g',cap,cur,d,hB,lY⟩
  .exact .inl d
  .exact .inr ⟨g',cap,cur,d,aJ j.out.size hB,lY⟩⟩,λd s=>by obtain⟨t,u⟩:=b.2 d s;exact⟨t,u.imp id (λd s k=>(d s k).imp id (λd=>⟨aJ j.out.size d.1,d.2⟩))⟩⟩⟩
 have d:TZ w tm g m n l r tb:=⟨f,q.gx c h,(GX.of a).trans c⟩
 have g:=ae d;clear q d f c h e a i o p b;go_wp2;go_ret;exact⟨rfl,tb,g.out⟩
theorem Tryz.amz:(Tryz.prog.info? 113).map (λi=>(i.zero,i.size,i.bytes))=some (some .nilIface,1,16):=by kernel_rfl
def oI(mb:Nat)(tbs:List Nat):List Value:=.iface 89 (.pointer (some ⟨mb,0,none⟩))::tbs.map (λa=>Value.iface 143 (.pointer (some ⟨a,0,none⟩)))
structure aaN(w w1:World)(mb:Nat)(tv:Value)(tabs:List Tb)(tbs:List Nat)(i:Nat)(sv:Value)(wr:World):Prop where
 row:Go.Gl.Row1 113 w.heap.size wr sv (oI mb (tbs.take i))
 grow:Grow w wr
 tabs:Mn.Own w.heap.size wr tv tabs
theorem aEQ(c:Go.Gl.Row1 113 B w v xs)(b:B<=w.heap.size)(b:xs.length<=1000000)(x:Value)(d:x.oneCell'=true):
  ∃v' w',(Builtin.append_ #[110,110] 110 #[v,.slice (some ⟨w.heap.size,0,none⟩) 1 1]).run Tryz.prog (w.alloc (.cells #[x] 113))=.ok v' w'/\Go.Gl.Row1 113 B w' v' (xs++[x])/\w.grownBy w' v.ownBlock:=by
 have e:(w.alloc (.cells #[x] 113)).heap[w.heap.size]?=some (.cells #[x] 113 (0,0)):=ax _ _;have f:Src Tryz.prog 1 110 (.slice (some ⟨w.heap.size,0,none⟩) 1 1) 1 [x] (w.alloc (.cells #[x] 113)):=
  Src.ofSlice _ Tryz.underlying110 ⟨w.heap.size,0,none⟩ 1 1 [x] rfl (λg u b=>World.news_of_block e g u (by simpa using b)) (λu b=>by rw[cZ.1 b];exact d)
 obtain⟨v',w',b,d,e,_⟩:=zx (ty:=110) Tryz.underlying110 Tryz.amz rfl (c.grow (ar _ _)) f (by simp;omega) (by unfold maxLen;omega) (by omega);obtain⟨a,c,f,g,h⟩:=e;exact⟨v',w',b,d,⟨a,c,f,aJ (by simp) g,λa b c=>by rw[h a (by simp;omega) c];exact heap_alloc_old _ _ b⟩⟩
theorem aER(tv:Value)(s n wl:Int)(w:World):(Instr.field 85 (.agg (bS tv s n wl)) 0).run Tryz.prog w=.ok tv w:=by kernel_rfl
theorem aES(tv:Value)(s n wl:Int)(w:World):(Instr.field 85 (.agg (bS tv s n wl)) 2).run Tryz.prog w=.ok (.int .i64 n) w:=by kernel_rfl
def aET(w w1:World)(mb:Nat)(tv:Value)(a:List Tb)(tbs:List Nat)(b c:Value)(wr:World):Prop:=
 ∃i:Nat,c=.int .i64 (i:Int)/\i<=a.length/\aaN w w1 mb tv a tbs i b wr
theorem amA{o:Od}{drv:Value}{V:bM}{k:Int}(L:fA w db sb o drv lv mb tm seq hm)(hS:eH w sb p tv V k)(aj:Mn.Own B' w tv V.tabs)(rk:V.tabs.length<=100000){g:Int->Option Value}(hM:eh w tm encI g m){tbs:List Nat}(dG:tbs.length=V.tabs.length)(eE:∀(i:Nat)(t:Tb)(b:Nat),V.tabs[i]?=some t->tbs[i]?=some b->g t.file=some (.pointer (some ⟨b,0,none⟩))):
  Calls Tryz.prog 45 #[.pointer (some ⟨db,0,none⟩)] w λe w'=>∃v,e=.returned v/\Go.Gl.Row1 113 w.heap.size w' v (oI mb tbs)/\Grow w w':=by
 obtain⟨c0,_,_,c8,_,_,_,d⟩:=L.cells;have y:=ar w (.cells #[.iface 89 (.pointer (some ⟨mb,0,none⟩))] 113);have n:=ax w (.cells #[.iface 89 (.pointer (some ⟨mb,0,none⟩))] 113);have q:Go.Gl.Row1 113 w.heap.size (w.alloc (.cells #[.iface 89 (.pointer (some ⟨mb,0,none⟩))] 113)) (.slice (some ⟨w.heap.size,0,none⟩) 1 1) [.iface 89 (.pointer (some ⟨mb,0,none⟩))]:=
  .inr ⟨w.heap.size,1,_,rfl,aw _,n,by simp,by simp,by unfold maxLen;omega,rfl⟩
 have vo:=Yb (hS.grow y) (fB aj y) (by omega);have CW:=ae vo;have M:=ae q;have cn:=ae y;have N:=ae L;have HM:=ae hM;have mh:=ae eE;have aU:(w.alloc (.cells #[.iface 89 (.pointer (some ⟨mb,0,none⟩))] 113)).cell? ⟨db,0,none⟩=some (.pointer (some ⟨sb,0,none⟩)):=by rw[World.cell?_alloc_lt _ _ _ d];exact c0
 have aR:=bF d y.size;clear vo q y n L hM hS aj eE;go_enter Tryz.func45,Tryz.ntmps45
 go_upto_region 2 with fail
 generalize w.alloc (.cells #[.iface 89 (.pointer (some ⟨mb,0,none⟩))] 113)=O at*;clear c0 c8 d;obtain⟨P,D⟩:∃P,P=w.heap.size:=⟨_,rfl⟩
 rw[<-D]at M;rw[<-D];have aT:=ae D;clear D
 go_wp2_with fail
 (with_reducible refine CW.out.mono ?_);rintro e w2 ⟨aZ,rfl,Q,R⟩;have ak:aaN w O mb aZ V.tabs tbs 0 (.slice (some ⟨P,0,none⟩) 1 1) w2:=⟨by rw[<-aT.out];exact M.out.grow R,cn.out.trans R,rK Q cn.out.size⟩
 have bz:=ae ak;obtain⟨S,E,rfl⟩:=km Q;have bd:=aER (.slice S V.tabs.length E) V.seq V.next V.wal w2;clear ak Q R aU aR CW M
 go_wp2_with fail
 go_loopw [3,19] (λsv T wr=>aET w O mb (.slice S V.tabs.length E) V.tabs tbs sv T wr) (λ_ T _=>V.tabs.length-(intOf T).toNat)
 case atStart=>exact⟨0,rfl,aY _,bz.out⟩
 case round=>
  clear bz;obtain⟨i,rfl,hi,h⟩:=hrel;by_cases U:i<V.tabs.length
  .obtain⟨t,ht⟩:∃t,V.tabs[i]?=some t:=⟨V.tabs[i],by simp[U]⟩
   obtain⟨b,X⟩:∃b,tbs[i]?=some b:=⟨tbs[i]'(by omega),by simp[dG,U]⟩
   have am:=mh.out i t b ht X;obtain⟨gT,be,bf,jV,bi,Ot,lY⟩:∃(g Y:Nat)(F:Array Value),(Value.slice S V.tabs.length E)=.slice (some ⟨g,0,none⟩) V.tabs.length Y/\w.heap.size<=g/\wr.heap[g]?=some (.cells F 101 (0,0))/\Rd wr g 0 jF 5 V.tabs:=by
    rcases id h.tabs.2 with⟨Z,h0⟩|⟨g,Y,F,Z,h2,h3,h4⟩
    .omega
    .exact⟨g,Y,F,Z,h2,h3,xS rL (Z ▸ h.tabs)⟩
   cases jV;have r:=lY i t ht;have A:=aau aas Tryz.underlying90 (z:=.pointer none) (by kernel_rfl) (HM.out.grow h.grow) t.file;rw[am]at A;obtain⟨B,f1,f2,f3,f4⟩:=t;have a0:=r 0 _ rfl;have a1:=r 1 _ rfl;have a2:=r 2 _ rfl;have a3:=r 3 _ rfl;have a4:=r 4 _ rfl;simp only[Nat.add_zero,Nat.zero_add]at a0 a1 a2 a3 a4;have lT:gT<wr.heap.size:=af Ot;have eN:(i:Int)<(V.tabs.length:Int):=by omega
   have bU:(0:Int)<=(i:Int):=by omega
   have fT:IntKind.i64.wrap ((i:Int)+1)=(i:Int)+1:=aQ _ (by omega);have aX:Grow wr (wr.alloc (.cells #[.int .i64 B,.int .i64 f1,.string f2,.string f3,.int .i64 f4] 101)):=ar _ _;have n:=ax wr (.cells #[.int .i64 B,.int .i64 f1,.string f2,.string f3,.int .i64 f4] 101);obtain⟨sa,sc,rfl⟩:=h.row.slice;have oV:(oI mb (tbs.take i)).length=i+1:=by simp[oI];omega
   rw[oV]at h ⊢;have c:=ae h;have EF:=ae aX;have ba:=ae X;clear A r lY Ot h X
   go_upto_region 5 with fail
   clear a0 a1 a2 a3 a4 lT;generalize wr.alloc (.cells #[.int .i64 B,.int .i64 f1,.string f2,.string f3,.int .i64 f4] 101)=C at*;generalize wr.heap.size=xb at*;obtain⟨_,_,_,_,s,_,_,d⟩:=((N.out.grow c.out.grow).grow EF.out).cells;obtain⟨u,t1,t2,t3,t4⟩:=dI n;have j:=af n;refine cN (λW=>W.cell? ⟨db,9,none⟩=some (.map (some tm))/\db<W.heap.size/\W.cell? ⟨xb,0,none⟩=some (.int .i64 B)/\xb<W.heap.size) [7,1,0] (by kernel_rfl) (bB λ_ _ _ _ _ aa=>aa) ⟨by simpa using s,by simpa using d,by simpa using u,by simpa using j⟩ ?_;simp only[ct];clear s d u t1 t2 t3 t4 j aX
   repeat ((first|(apply az;rfl;rintro W ⟨an,ao,ap,av⟩;go_simp;with_reducible rfl)|(apply aA;rfl));simp only[ah,List.set])
   have f:=EF.out.trans (ay C);have A:=aau aas Tryz.underlying90 (z:=.pointer none) (by kernel_rfl) ((HM.out.grow c.out.grow).grow f) B;rw[am]at A;obtain⟨_,_,_,_,s,_,_,d⟩:=((N.out.grow c.out.grow).grow f).cells;have G:=(ay C).heap n;obtain⟨u,t1,t2,t3,t4⟩:=dI G;have j:=af G;refine fK (by rfl) (λK hK=>?_);go_simp;refine hK _ _ ⟨⟨s,d,u,j⟩,?_⟩;clear hK K A
   try simp only[ah,List.set,aC]
   repeat ((first|(apply az;rfl;rintro W ⟨an,ao,ap,av⟩;go_simp;with_reducible rfl)|(apply aA;rfl));simp only[ah,List.set])
   obtain⟨v',w6,aE,q,ab⟩:=aEQ (c.out.row.grow f) (aJ c.out.grow.size f.size) (by rw[oV];omega) (.iface 143 (.pointer (some ⟨b,0,none⟩))) rfl;have qR:=ar C.drew (.cells #[.iface 143 (.pointer (some ⟨b,0,none⟩))] 113);have AQ:=c.out.row.grow f;have H:∀(l:Nat)(ad:Array Value)(I:TypeId)(fz:Nat×Nat),C.drew.heap[l]?=some (.cells ad I fz)->I≠113->w6.heap[l]?=some (.cells ad I fz):=λl ad I fz x bb=>
    (ab.block l (af x) (λe=>AQ.apart x bb e.symm)).trans x
   have TI:C.drew.heap[db]?=some (.cells (rh sb o drv lv mb tm seq hm) 93 (0,0)):=(N.out.grow c.out.grow).grow f;have aF:fA w6 db sb o drv lv mb tm seq hm:=H _ _ _ _ TI (by decide);have ai:=H _ _ _ _ G (by decide);have fQ:aaN w O mb (.slice (some ⟨gT,0,none⟩) V.tabs.length E) V.tabs tbs (i+1) v' w6:=by
    refine⟨?_,?_,xY (fB c.out.tabs f) (λg' fj=>?_)⟩
    .have:oI mb (tbs.take (i+1))=oI mb (tbs.take i)++[.iface 143 (.pointer (some ⟨b,0,none⟩))]:=by unfold oI;rw[take_one ba.out];simp
     rw[this];exact q
    .exact(c.out.grow.trans f).grown ab (aJ c.out.grow.size f.size) (λk e=>(AQ.lt e).1)
    .obtain⟨F,x,_⟩:=sT (fB c.out.tabs f) fj;exact(H _ _ _ _ x (by decide)).trans x.symm
   have kX:=ae fQ;obtain⟨va,vL,vc,rfl⟩:∃a bc l,v'=.slice a bc l:=by obtain⟨a,l,aa⟩:=q.slice;exact⟨_,_,_,aa⟩
   refine ud (by rfl) (tZ (v:=.iface 143 (.pointer (some ⟨b,0,none⟩))) rfl Tryz.underlying110 Tryz.amz rfl rfl rfl) ⟨by rw[World.cell?_alloc_lt _ _ _ d];exact s,bF d qR.size,by rw[World.cell?_alloc_lt _ _ _ j];exact u,bF j qR.size⟩ ?_
   try simp only[ah,List.set,aC]
   obtain⟨_,_,_,_,d9,_,_,aL⟩:=aF.cells;obtain⟨x0,_,_,_,_⟩:=dI ai;refine ud (by rfl) (KU rfl rfl rfl aE) ⟨d9,aL,x0,af ai⟩ ?_;clear fQ aE q ab qR AQ H TI aF ai s d u t1 t2 t3 t4 j d9 aL x0 G f
   try simp only[ah,List.set,aC]
   repeat ((first|(apply az;rfl;rintro W ⟨an,ao,ap,av⟩;go_simp;with_reducible rfl)|(apply aA;rfl));simp only[ah,List.set])
   refine bg ?_;go_wp2;go_roundw
   case rel=>exact⟨i+1,by simp,U,kX.out⟩
   case measure=>simp[intOf];omega
  .obtain rfl:i=V.tabs.length:=by omega
   have c:=ae h;have J:=h.row;rw[<-dG,iA]at J;obtain⟨sa,sc,rfl⟩:=J.slice;have Hr:=ae J;clear h J;go_wp2;go_ret;exact⟨_,rfl,Hr.out,c.out.grow⟩
abbrev Ov:Int->Value:=Value.int .u64
theorem aFa{a:List Nd}(b:ed N w tb ha a aX dv ds):
  Calls Tryz.prog 44 #[.pointer (some ⟨tb,0,none⟩)] w λe w'=>e=.returned (.int .i64 ((costs (a.map (λn=>n.x.e)):Nat):Int))/\w'=w:=by
 have c:w.cell? ⟨tb,9,none⟩=some (.int .i64 ((costs (a.map (λn=>n.x.e)):Nat):Int)):=by simp[World.cell?,b.self]
 have c:=af b.self;clear b;generalize ((costs (a.map (λn=>n.x.e)):Nat):Int)=a at*;go_enter Tryz.func44,Tryz.ntmps44;go_wp2;go_ret;exact⟨rfl,rfl⟩
theorem aFb{a:List Nd}(b:ed N w tb ha a aX dv ds):
  Calls Tryz.prog 74 #[.pointer (some ⟨tb,0,none⟩)] w λe w'=>e=.returned (.int .i64 (a.length:Int))/\w'=w:=by
 have c:w.cell? ⟨tb,7,none⟩=some (.int .i64 (a.length:Int)):=by simp[World.cell?,b.self]
 have a:=af b.self;clear b;go_enter Tryz.func74,Tryz.ntmps74;go_wp2;go_ret;exact⟨rfl,rfl⟩
theorem aFc(a:n<1000000):lA (eR n):=by
 have b:=zG a;refine LR (by simp) (by simp[b]) ?_;intro b a;rcases dn.1 a with a|a
 .exact(by decide:∀b∈JJ,Br b=true) b a
 .rcases dn.1 a with a|a
  .rw[(List.mem_replicate.1 a).2];decide
  .exact WK (LQ n b a)
theorem Dl.Ow{a:Lk}(b:Dl Z B w p r a T K F)(c:w.heap[rb]?=some (.cells cs 101 fz))(j:Nat)(v:Value):Dl Z B (w.setCell ⟨rb,j,none⟩ v) p r a T K F:=by have a:=b.apart c (by decide) (by decide) (by decide);obtain⟨c,d,e⟩:=b;exact⟨c,d.keep (by simp) (λb c=>aN _ _ _ _ (λd=>a (by have a:b=rb:=d;rw[<-a];exact c))),e⟩
theorem pR.Rp{c:Lk}(e:pR Z B w p r F w' c T K)(d:w'.heap[rb]?=some (.cells cs 101 fz))(a:w.heap.size<=rb)(v0 v1 v2 v3 b:Value):
  pR Z B w p r F (((((w'.setCell ⟨rb,0,none⟩ v0).setCell ⟨rb,1,none⟩ v1).setCell ⟨rb,2,none⟩ v2).setCell ⟨rb,3,none⟩ v3).setCell ⟨rb,4,none⟩ b) c T K:=by
 obtain⟨g,h,i⟩:=e;have c:=Go.Gl.aK d 0 v0;have e:=Go.Gl.aK c 1 v1;have f:=Go.Gl.aK e 2 v2;have j:=Go.Gl.aK f 3 v3;exact⟨g,((((h.Ow d 0 v0).Ow c 1 v1).Ow e 2 v2).Ow f 3 v3).Ow j 4 b,((((i.Af a 0 v0).Af a 1 v1).Af a 2 v2).Af a 3 v3).Af a 4 b⟩
def aFd(Z B:Nat)(w:World)(p r:Nat)(a:Lk)(T K:Nat)(F:Nat->Prop)(n:Nat)(lvl:Int)(D:List UInt8)(k0 k1:ByteArray)(e:Ending)(w':World):Prop:=
 (T+D.length<=Z/\e=.returned (.tuple #[.agg #[.int .i64 (n:Int),.int .i64 lvl,.string k0,.string k1,.int .i64 (D.length:Int)],.bool true])/\pR Z B w p r F w' (a.set (eR n) (D,D.length)) (T+D.length) (K+1))\/
 (Z<T+D.length/\e=.returned (.tuple #[.agg #[.int .i64 0,.int .i64 0,.string ⟨#[]⟩,.string ⟨#[]⟩,.int .i64 0],.bool false])/\pR Z B w p r F w' a T (K+1))
theorem aFe{N:Nat}{l:Lk}{o:Od}{drv:Value}{V:bM}{k:Int}(d:fA w db sb o drv lv mb tm seq hm)(t:eH w sb p tv V k)(s:Dl Z B w p r l T K F)(x:df N B w){n:Nat}(Q:n<N)(C:n<1000000)(A:l (eR n)=none){lvl:Int}{a:List Ev}(k:Es M w v a)(D:∀b,M b->¬F b)(c:a.length<=1000000)(E:cx (a.map Ev.e))(H:Ai (a.map Ev.e)){size:Nat}(I:o.block=(size:Int))(g:1<=size)(h:size<=67108864)(J:∀y∈a,y.e.key.size<=65535/\y.e.seq<18446744073709551616/\y.e.val.length<=33554432)(L:(bu (a.map Ev.e)).length+30*a.length<=50000000)(M:(ig (eX size [] (a.map Ev.e)) a.length (eC (a.map Ev.e))).length<=1000000000000){e f:Ev}(z:a[0]?=some e)(AR:a[a.length-1]?=some f):
  Calls Tryz.prog 62 #[.pointer (some ⟨db,0,none⟩),v,.int .i64 (n:Int),.int .i64 lvl] w (aFd Z B w p r l T K F n lvl (ig (eX size [] (a.map Ev.e)) a.length (eC (a.map Ev.e))) e.e.key f.e.key):=by
 have b:=ar w (.cells #[.int .i64 0,.int .i64 0,.string ⟨#[]⟩,.string ⟨#[]⟩,.int .i64 0] 101);have m:=aDd (k.grow b) c E H g h J L;rw[<-I]at m;obtain⟨c,g⟩:∃c,c=ig (eX size [] (a.map Ev.e)) a.length (eC (a.map Ev.e)):=⟨_,rfl⟩
 rw[<-g]at m M ⊢;clear g;obtain⟨g,R,_,_,_,_,_,h⟩:=(d.grow b).cells;have S:(w.alloc (.cells #[.int .i64 0,.int .i64 0,.string ⟨#[]⟩,.string ⟨#[]⟩,.int .i64 0] 101)).cell? ⟨db,2,none⟩=some (.int .i64 o.block):=by have:=d.grow b;unfold fA at this;simp[World.cell?,this]
 have N:=ae m;have G:=ae (d.grow b);have y:=ae (t.grow b);have j:=ae (s.grow b);have X:=ae (x.grow b s.base);have U:=ae k;have HM:=ae D;have V:=ae A;have Y:=ae b;obtain⟨O,O,rfl⟩:=k.slice;have O:=ax w (.cells #[.int .i64 0,.int .i64 0,.string ⟨#[]⟩,.string ⟨#[]⟩,.int .i64 0] 101);have P:=ae O;clear d t s x k D A m E H J L b O I;go_enter Tryz.func62,Tryz.ntmps62
 go_wp2_with fail
 generalize w.alloc (.cells #[.int .i64 0,.int .i64 0,.string ⟨#[]⟩,.string ⟨#[]⟩,.int .i64 0] 101)=J at*;obtain⟨rb,d⟩:∃rb,rb=w.heap.size:=⟨_,rfl⟩
 rw[<-d]at P ⊢;have H:=ae d;clear d g R S h;(with_reducible refine N.out.mono ?_);rintro A d ⟨bv,rfl,d,k⟩;have t:=ae (ZX (X.out.grow k j.out.base) Q C);have E:=ae d;have m:=ae k;obtain⟨I,L,rfl⟩:=d.slice;clear d k N
 go_wp2_with fail
 (with_reducible refine t.out.mono ?_);rintro A D ⟨rfl,k⟩;have d:=m.out.trans k;obtain⟨g,_,_,_,_,_,_,h⟩:=(G.out.grow d).cells;obtain⟨m,_,_,_,_,_,s⟩:=(y.out.grow d).cells;have N:=ae k;have x:=ae d;clear k d t
 go_wp2_with fail
 have b:=ar D (.cells #[.string (eR n)] 9);(with_reducible refine(afX (j.out.grow (x.out.trans b)) V.out (ax _ _)).mono ?_);rintro A O ⟨rfl,k⟩;have d:=(x.out.trans b).trans k;have t:=(N.out.trans b).trans k;clear g h m s;obtain⟨g,_,_,_,_,_,_,h⟩:=(G.out.grow d).cells;obtain⟨m,_,_,_,_,_,s⟩:=(y.out.grow d).cells;have D:=ae d;have x:=ae (cE (E.out.grow t));clear d t k b
 go_wp2_with fail
 have k:=ar O (.cells #[.slice I c.length L] 49);(with_reducible refine(Yk (j.out.grow (D.out.trans k)) (aFc C) (ax _ _) (x.out.grow k) M).mono ?_);rintro A t ⟨b,N,O,rfl,M,L,C,x⟩;have b:=D.out.trans k;have D:=(y.out.grow b).sep (j.out.grow b) x;have E:∀(y:Nat)(I:Array Value)(d:TypeId)(fz:Nat×Nat),J.heap[y]?=some (.cells I d fz)->d≠125->d≠165->d≠5->t.heap[y]?=some (.cells I d fz):=λy I d fz d I Q R=>
  (x.out y (af (b.heap d)) ((j.out.grow b).apart (b.heap d) I Q R)).trans (b.heap d)
 have I:J.heap[db]?=some (.cells (rh sb o drv lv mb tm seq hm) 93 (0,0)):=G.out;have j:fA t db sb o drv lv mb tm seq hm:=E _ _ _ _ I (by decide) (by decide) (by decide);have d:=E _ _ _ _ P.out (by decide) (by decide) (by decide);have G:Sep F w t L:=(Sep.bO (Y.out.trans b)).trans x;clear g h m s;obtain⟨g,_,_,_,_,_,_,h⟩:=j.cells;obtain⟨m,_,_,_,_,_,s⟩:=D.cells;obtain⟨X,Y,r2,r3,r4⟩:=dI d;have aa:=af d;have ai:=bG d;rcases M with⟨rfl,ab,rfl,rfl⟩|⟨rfl,M,rfl,rfl⟩
 rotate_left
 .have o:=(show pR Z B w p r F t N O (K+1)from⟨L,C,G⟩).Rp d (by have:=H.out;omega) (.int .i64 0) (.int .i64 0) (.string ⟨#[]⟩) (.string ⟨#[]⟩) (.int .i64 0);have y:=Go.Gl.aK (Go.Gl.aK (Go.Gl.aK (Go.Gl.aK (Go.Gl.aK d 0 (.int .i64 0)) 1 (.int .i64 0)) 2 (.string ⟨#[]⟩)) 3 (.string ⟨#[]⟩)) 4 (.int .i64 0);have J:=ae o;have L:=ae (dI y);have R:=ae M;clear o y M j D E I d G C x b k;go_wp2;obtain⟨M,N,O,P,Q⟩:=L.out;refine bodyPost_ret (v:=.tuple #[.agg #[.int .i64 0,.int .i64 0,.string ⟨#[]⟩,.string ⟨#[]⟩,.int .i64 0],.bool false]) (by simp[results,Tryz.results62,go_sem,M,N,O,P,Q]) rfl ?_;exact .inr ⟨R.out,rfl,J.out⟩
 .have MQ:=ae ab
  have R:=ae C;have ad:=ae G;have S:=ae j;have S:=ae D;have S:=ae d;clear ab C G j D d E I x b k
  go_wp2_with fail
  have j:=ar t (.cells #[.string (eR n)] 9);have C:l.add (eR n) c=l.set (eR n) (c,0):=by unfold Lk.add;rw[V.out]
  have D:=LW (q:=(c,0)) (R.out.grow j) (n:=eR n) (by rw[C,sN]) (ax _ _);rw[C,QR]at D;(with_reducible refine D.mono ?_);rintro A d ⟨rfl,F6,V,E⟩;have G:=(ad.out.trans (Sep.bO j)).trans E;have ab:=U.out.kp (Kp.aAC G HM.out);have q:=(E.out rb (af (j.heap S.out)) ((R.out.grow j).apart (j.heap S.out) (by decide) (by decide) (by decide))).trans (j.heap S.out);obtain⟨b,t,k,k,aj,ak,bq⟩:=U.out.addr z;obtain⟨x,x,x,x,U,S,I⟩:=ab.addr z;rw[k]at x;cases x;cases k;obtain⟨x,_,_,_⟩:=Cw I z;obtain⟨A,_,_,_⟩:=Cw I AR;have am:b≠rb:=by have:=H.out;omega
  have k:0<a.length:=(dW.1 z).1;have an:IntKind.i64.wrap ((a.length:Int)-1)=((a.length-1:Nat):Int):=(aQ _ (by omega)).trans (by omega);have lE:=af q;have z:b<d.heap.size:=S;simp only[Nat.zero_mul,Nat.add_zero]at x;have k:=(ay d).heap q;have o:=(show pR Z B w p r F d.drew (l.set (eR n) (c,c.length)) (T+c.length) (K+1)from⟨F6,V.grow (ay d),G.trans (Sep.bO (ay d))⟩).Rp k (by have:=H.out;omega) (.int .i64 (n:Int)) (.int .i64 lvl) (.string e.e.key) (.string f.e.key) (.int .i64 (c.length:Int));have y:=Go.Gl.aK (Go.Gl.aK (Go.Gl.aK (Go.Gl.aK (Go.Gl.aK k 0 (.int .i64 (n:Int))) 1 (.int .i64 lvl)) 2 (.string e.e.key)) 3 (.string f.e.key)) 4 (.int .i64 (c.length:Int));have l:=bG k;clear X Y r2 r3 r4 aa;obtain⟨X,Y,r2,r3,r4⟩:=dI k;have aa:=af k;have J:=ae o;have L:=ae (dI y);have l:=ae q;clear o y bq I D E V G ab q j C R ad aj U ak S g m ai h s k lE;obtain⟨g,h⟩:∃g,g=a.length-1:=⟨_,rfl⟩
  rw[<-h]at A an;have j:(g:Int)<(a.length:Int):=by omega
  have j:(0:Int)<=(g:Int):=by omega
  have j:(0:Int)<(a.length:Int):=by omega
  clear h
  go_upto_region 7 with fail
  refine cN (λW=>W.cell? ⟨b,t,none⟩=some (.string e.e.key)/\W.cell? ⟨b,t+g*4,none⟩=some (.string f.e.key)/\b<W.heap.size) [16] (by kernel_rfl) (bB λ_ _ _ _ _ a=>a) ⟨by simpa using x,by simpa using A,by simpa using z⟩ ?_;simp only[ct]
  repeat ((first|(apply az;rfl;rintro W ⟨h,j,k⟩;go_simp;with_reducible rfl)|(apply aA;rfl));simp only[ah,List.set])
  have l:d.drew.cell? ⟨b,t,none⟩=some (.string e.e.key):=by simpa using x
  have m:d.drew.cell? ⟨b,t+g*4,none⟩=some (.string f.e.key):=by simpa using A
  have g:b<d.drew.heap.size:=by simpa using z
  clear x A z;generalize d.drew=a at*;have a:∀(W:World)(i d:Nat)(u:Value),(W.setCell ⟨rb,d,none⟩ u).cell? ⟨b,i,none⟩=W.cell? ⟨b,i,none⟩:=λW i d u=>by simp only[World.cell?,aN W ⟨rb,d,none⟩ u b am]
  refine fK (by rfl) (λK b=>?_);go_simp;refine b _ _ ⟨?_,?_⟩
  .refine⟨?_,?_,by simpa using g⟩
   .rw[a,a,a,a,a];exact l
   .rw[a,a,a,a,a];exact m
  clear b K
  repeat ((first|(apply az;rfl;rintro W ⟨h,j,k⟩;go_simp;with_reducible rfl)|(apply aA;rfl));simp only[ah,List.set])
  refine bg ?_;obtain⟨M,N,O,P,Q⟩:=L.out;go_wp2;refine bodyPost_ret (v:=.tuple #[.agg #[.int .i64 (n:Int),.int .i64 lvl,.string e.e.key,.string f.e.key,.int .i64 (c.length:Int)],.bool true]) (by simp[results,Tryz.results62,go_sem,M,N,O,P,Q]) rfl ?_;exact .inl ⟨MQ.out,rfl,J.out⟩
theorem aaU:∀(a:List (List En)) (k:Nat),(∀g∈a,g≠[])->(kh k a).length<=(bu a.flatten).length+30*a.length
 | [],_,_=>by simp[kh]
 |g::a,k,h=>by
  have b:=aaU a (k+(gG g).length) (λa b=>h a (fE _ b));have a:=ox (mD g).data.toList;have a:=ZE (h g (ej ..));have a:=cF k;have a:=cF (gG g).length;have a:(mD g).data.toList.length=(mD g).size:=by rw[ia];rfl
  rw[List.flatten_cons,tz,aM];simp only[kh,aM,dD]at*;omega
theorem amM{size:Nat}{l:List En}(b:l≠[])(_hlen:l.length<=1000000)(a:(bu l).length+30*l.length<=50000000):(ig (eX size [] l) l.length (eC l)).length<=300000000:=by
 have c:=JE (eX size [] l);have a:=NL size l [];have a:=MS size l [] b;have b:=aaU (eX size [] l) 0 (MT size l []);rw[iK]at a;rw[a]at c b;have a:=Nk l;have a:=Ju l l.length;have a:ik l<=8+(10*l.length+7)/8:=by unfold ik;omega
 have a:=nG aq (kh 0 (eX size [] l));have a:=nG aq (eC l);have a:=cF (kh 0 (eX size [] l)).length;have a:=cF (eC l).length;unfold ig eJ;simp only[aM,Sv,nD];omega
abbrev vp:List UInt8:=((⟨cy.toArray⟩:ByteArray)++⟨#[45]⟩).data.toList
theorem gU.Uf{b:Lk}{L:List (List UInt8)}(c:gU b a L){n:ByteArray}(d:Lib.hasPrefix n.data.toList vp=false)(q:List UInt8×Nat):gU (b.set n q) a L:=by
 have a:∀m:ByteArray,Lib.hasPrefix m.data.toList vp=true->m≠n:=λm hm b=>by rw[b,d]at hm;cases hm
 refine⟨λi d e=>?_,λm hm b=>?_⟩
 .rw[iC _ (a _ (Sg _))];exact c.there i d e
 .rw[iC _ (a m hm)]at b;exact c.only m hm b
theorem wV(n:Nat):Lib.hasPrefix (eR n).data.toList vp=false:=by have:(eR n).data.toList=116::45::fN n:=rfl;rw[this];rfl
theorem CZ(n:Nat):Lib.hasPrefix (dt n).data.toList vp=false:=by have:(dt n).data.toList=sL++fN n:=rfl;rw[this];rfl
theorem gU.Oz{b:Lk}{L:List (List UInt8)}(d:gU b a L):gU (b.set (bJ cy (a+L.length)) ([],0)) a (L++[[]]):=by
 refine⟨λi q b=>?_,λn g e=>?_⟩
 .by_cases f:i<L.length
  .rw[vB f]at b;rw[iC _ (λc=>by have:=EK c;omega)];exact d.there i q b
  .rw[xx (by omega)]at b
   have h:i=L.length:=by have:=(dW.1 b).1;simp at this;omega
   subst h;rw[Nat.sub_self]at b;cases b;exact sN _ _ _
 .by_cases b:n=bJ cy (a+L.length)
  .exact⟨L.length,by simp,b⟩
  .rw[iC _ b]at e;obtain⟨i,f,c⟩:=d.only n g e;exact⟨i,by rw[aM];omega,c⟩
theorem gU.app{b:Lk}{L:List (List UInt8)}{q:List UInt8}(e:gU b a (L++[q]))(x:List UInt8):gU (b.set (bJ cy (a+L.length)) (q++x,(q++x).length)) a (L++[q++x]):=by
 refine⟨λi g b=>?_,λn h f=>?_⟩
 .by_cases c:i<L.length
  .rw[vB c]at b;rw[iC _ (λd=>by have:=EK d;omega)];exact e.there i g (by rw[vB c];exact b)
  .rw[xx (by omega)]at b
   have g:i=L.length:=by have:=(dW.1 b).1;simp at this;omega
   subst g;rw[Nat.sub_self]at b;cases b;exact sN _ _ _
 .by_cases b:n=bJ cy (a+L.length)
  .exact⟨L.length,by simp,b⟩
  .rw[iC _ b]at f;obtain⟨i,c,d⟩:=e.only n h f;exact⟨i,by simpa using c,d⟩
abbrev gO(a:List (List (List UInt8))):List (List UInt8):=a.map (cg aq)
theorem amN:∀(a:List (List (List UInt8))),(∀b∈a,∀p∈b,p.length<=67108864)->nT (gO a)=a.flatten
 | [],_=>rfl
 |b::a,h=>by have c:=amN a (λa d=>h a (fE _ d));have a:=VW aq b (h b (ej ..));unfold nT gO at c ⊢;rw[cr,cr,List.flatten_cons,c,a,List.flatten_cons]
theorem aFo{b:List (List (List UInt8))}(c:∀a∈b,∀p∈a,p.length<=67108864):∀q∈gO b,(mL aq q).2.2=0:=λq b=>by obtain⟨a,d,rfl⟩:=aV.1 b;rw[VW aq a (c a d)]
theorem aFp(a:List (List UInt8))(p:List UInt8):cg aq (a++[p])=cg aq a++bC aq p:=by simp[cg]
theorem aFq{d:Lk}{b:List (List (List UInt8))}{c:List (List UInt8)}(e:gU d a (gO (b++[c])))(p:List UInt8):gU (d.set (bJ cy (a+b.length)) (cg aq (c++[p]),(cg aq (c++[p])).length)) a (gO (b++[c++[p]])):=by
 have f:gU d a (gO b++[cg aq c]):=by simpa[gO]using e
 have a:=f.app (bC aq p);rw[<-aFp,show(gO b).length=b.length by simp[gO]]at a;simpa[gO]using a
theorem aaV(x:En)(l:List En):(gM x l).length<=l.length:=by have:=congrArg List.length (uO x l);rw[aM]at this;omega
theorem aFr{x:En}{l:List En}{i:Nat}(hi:i<l.length)(a:i<(gM x l).length):eB l[i] x<0:=by
 have b:(gM x l)[i]?=l[i]?:=by
  conv=>rhs;rw[<-uO x l]
  rw[vB a]
 rw[ek a,ek hi]at b;have c:=MR _ (List.getElem_mem a);rw[bh b]at c;exact(Ab _ _).2 c
theorem aFs{x:En}{l:List En}(b:cx l){i:Nat}(hi:i<l.length)(c:(gM x l).length<=i):¬eB l[i] x<0:=by
 have a:(eI x l)[i-(gM x l).length]?=l[i]?:=by
  conv=>rhs;rw[<-uO x l]
  rw[xx c]
 rw[ek hi]at a;intro c;exact ES b _ (dm a) ((Ab _ _).1 c)
theorem Ug(x y:Ev){xa a:Option Addr}{xl xc b c:Nat}(_hx:x.v=.slice xa xl xc)(_hy:y.v=.slice a b c)(W:World):
  Calls Tryz.prog 133 #[.agg #[.string x.e.key,.int .u64 x.e.seq,.bool x.e.gone,.slice xa xl xc],.agg #[.string y.e.key,.int .u64 y.e.seq,.bool y.e.gone,.slice a b c]] W λe w'=>e=.returned (.int .i64 (eB x.e y.e))/\Grow W w':=
 aiZ x.e.key x.e.seq x.e.gone (.slice xa xl xc) y.e.key y.e.seq y.e.gone (.slice a b c) W
def aFt(w1:World)(n b:Nat)(d e:Value)(wr:World):Prop:=∃c a:Nat,d=.int .i64 (c:Int)/\e=.int .i64 (a:Int)/\c<=b/\b<=a/\a<=n/\Grow w1 wr
theorem aFu{w:World}{a:List Ev}(f:Es N w v a)(ao:a.length<=1000000000)(ho:cx (a.map Ev.e))(x:Ev){xa:Option Addr}{xl xc:Nat}(D:x.v=.slice xa xl xc):
  Calls Tryz.prog 201 #[v,.agg (cd x),.func (.func 133) #[] #[]] w λe w'=>∃b,e=.returned (.tuple #[.int .i64 ((gM x.e (a.map Ev.e)).length:Nat),.bool b])/\Grow w w':=by
 have U:=aaV x.e (a.map Ev.e);rw[bA]at U;have V:=λ(i:Nat)(c:i<(a.map Ev.e).length)=> @aFr x.e (a.map Ev.e) i c
 have X:=λ(i:Nat)(c:i<(a.map Ev.e).length)=> @aFs x.e (a.map Ev.e) ho i c
 generalize (gM x.e (a.map Ev.e)).length=j at*;obtain⟨va,vc,rfl⟩:=f.slice;have Y:cd x=#[.string x.e.key,.int .u64 x.e.seq,.bool x.e.gone,.slice xa xl xc]:=by rw[<-D]
 rw[Y];have E:=ar w (.cells #[.string x.e.key,.int .u64 x.e.seq,.bool x.e.gone,.slice xa xl xc] 60);have Z:=ax w (.cells #[.string x.e.key,.int .u64 x.e.seq,.bool x.e.gone,.slice xa xl xc] 60);have aa:=ae (f.grow E);have cn:=ae E;have qK:=ae Z;have ad:=ae V;have ai:=ae X;have Hx:=ae D;clear f E Z V X D Y;go_enter Tryz.func201,Tryz.ntmps201
 go_wp2_with fail
 generalize w.alloc (.cells #[.string x.e.key,.int .u64 x.e.seq,.bool x.e.gone,.slice xa xl xc] 60)=w1 at*;generalize w.heap.size=eb at*
 go_loopw [9,10] (λF G wr=>aFt w1 a.length j F G wr) (λF G _=>(intOf G).toNat-(intOf F).toNat)
 case atStart=>exact⟨0,a.length,rfl,rfl,aY _,U,aw _,aW _⟩
 case round=>
  obtain⟨d,c,rfl,rfl,h1,h2,h3,h⟩:=hrel;have r:=h.heap qK.out;obtain⟨t0,t1,t2,t3⟩:=cX r;have lb:=af r;by_cases ap:d<c
  .obtain⟨m,hm⟩:∃m,m=(d+c)/2:=⟨_,rfl⟩
   have s:m<a.length:=by omega
   obtain⟨o,b,aj,ak,ya,yc,t,H,p,u,I,J,K,L,M⟩:=aa.out.read h s;cases H;have q:=λW=>Ug o x u Hx.out W
   obtain⟨k,O⟩:∃k,eB o.e x.e=k:=⟨_,rfl⟩
   rw[O]at q;have FC:(a.map Ev.e)[m]'(by simpa using s)=o.e:=by rw[List.getElem_map];rw[ek s]at t;rw[bh t]
   have ir:(k<0->m<j)/\(¬k<0->j<=m):=by
    have k1:=ad.out m (by simpa using s);have k2:=ai.out m (by simpa using s);rw[FC,O]at k1 k2;have am:j<=m->¬k<0:=λg=>by have:=k2 g;omega
    constructor
    .intro P
     rcases Nat.lt_or_ge m j with g|g
     .exact g
     .exact absurd P (am g)
    .intro P
     rcases Nat.lt_or_ge m j with g|g
     .exact absurd (k1 g) P
     .exact g
   have Q:=ae q;have B:=ae h;have ab:=ae ir;have i1:(d:Int)<(c:Int):=by omega
   have ws:IntKind.i64.wrap ((d:Int)+(c:Int))=((d+c:Nat):Int):=by rw[aQ _ (by omega)];omega
   have wu:=wK (n:=d+c) (by omega);have fR:((d+c:Nat):Int)/2=(m:Int):=by omega
   have wm:IntKind.i64.wrap (m:Int)=(m:Int):=aQ _ (by omega);have av:IntKind.i64.wrap ((m:Int)+1)=((m+1:Nat):Int):=by rw[aQ _ (by omega)];omega
   have m0:(0:Int)<=(m:Int):=by omega
   have m1:(m:Int)<(a.length:Int):=by omega
   have Hm:=ae hm;generalize an:((d+c:Nat):Int)=sm at*;have R:=Grow.cells (w:=wr);clear q h ir O FC t u I r hm an
   go_upto_region 5 with fail
   refine cN (λy=>Below wr.heap.size wr y) [6] (by kernel_rfl) (bB λ_ _ _ _ _ f=>f) (by((repeat (first|exact bW _ _|assumption|refine cC ?_|refine cD ?_|refine cw ?_ ?_ _|refine cB ?_ ?_ _))<;>try (first|omega|(simp<;>omega)))) ?_;simp only[ct]
   repeat ((first|(apply az;rfl;rintro W z;go_simp;with_reducible rfl)|(apply aA;rfl));simp only[ah,List.set])
   clear t0 t1 t2 t3 J K L M;refine bw (by rfl) (by go_simp) (Q.out _) ?_;rintro e w2 ⟨rfl,A⟩;have l:=(ay wr).trans A;refine⟨_,rfl,l,?_⟩
   try simp only[ah,List.set,aC]
   have C:=ae (B.out.trans l);clear A l R;obtain⟨S,p⟩:∃S,decide (k<0)=S:=⟨_,rfl⟩
   repeat ((first|(apply az;rfl;rintro W z;go_simp;with_reducible rfl)|(apply aA;rfl));simp only[ah,List.set])
   refine bg ?_;cases S with
   |true=>
    have T:=ab.out.1 (of_decide_eq_true p);clear p;go_wp2;go_roundw
    case rel=>exact⟨m+1,c,rfl,rfl,T,h2,h3,C.out⟩
    case measure=>have:=Hm.out;simp[intOf];omega
   |false=>
    have T:=ab.out.2 (of_decide_eq_false p);clear p;go_wp2;go_roundw
    case rel=>exact⟨d,m,rfl,rfl,h1,T,by omega,C.out⟩
    case measure=>have:=Hm.out;simp[intOf];omega
  .obtain rfl:d=j:=by omega
   obtain rfl:c=d:=by omega
   have B:=ae h;by_cases lB:c<a.length
   .obtain⟨o,b,aj,ak,ya,yc,t,H,p,u,I,J,K,L,M⟩:=aa.out.read h lB
    cases H;have q:=λW=>Ug o x u Hx.out W
    generalize eB o.e x.e=k at*;have Q:=ae q;have m0:(0:Int)<=(c:Int):=by omega
    have m1:(c:Int)<(a.length:Int):=by omega
    have R:=Grow.cells (w:=wr);clear q h t u I r
    go_upto_region 8 with fail
    refine cN (λy=>Below wr.heap.size wr y) [11] (by kernel_rfl) (bB λ_ _ _ _ _ f=>f) (by((repeat (first|exact bW _ _|assumption|refine cC ?_|refine cD ?_|refine cw ?_ ?_ _|refine cB ?_ ?_ _))<;>try (first|omega|(simp<;>omega)))) ?_;simp only[ct]
    repeat ((first|(apply az;rfl;rintro W z;go_simp;with_reducible rfl)|(apply aA;rfl));simp only[ah,List.set])
    clear t0 t1 t2 t3 J K L M;refine bw (by rfl) (by go_simp) (Q.out _) ?_;rintro e w2 ⟨rfl,A⟩;have l:=(ay wr).trans A;refine⟨_,rfl,l,?_⟩
    try simp only[ah,List.set,aC]
    have C:=ae (B.out.trans l);clear A l R
    repeat ((first|(apply az;rfl;rintro W z;go_simp;with_reducible rfl)|(apply aA;rfl));simp only[ah,List.set])
    refine bg ?_;go_wp2;go_ret2;exact⟨_,rfl,cn.out.trans C.out⟩
   .have m1:¬(c:Int)<(a.length:Int):=by omega
    have m2:decide (c<a.length)=false:=decide_eq_false lB;clear r h
    go_upto_region 8 with fail
    refine cN (λy=>Below wr.heap.size wr y) [11] (by kernel_rfl) (bB λ_ _ _ _ _ f=>f) (by((repeat (first|exact bW _ _|assumption|refine cC ?_|refine cD ?_|refine cw ?_ ?_ _|refine cB ?_ ?_ _))<;>try (first|omega|(simp<;>omega)))) ?_;simp only[ct]
    repeat ((first|(apply az;rfl;rintro W z;go_simp;with_reducible rfl)|(apply aA;rfl));simp only[ah,List.set])
    refine Ih (by rfl) (by((repeat (first|exact bW _ _|assumption|refine cC ?_|refine cD ?_|refine cw ?_ ?_ _|refine cB ?_ ?_ _))<;>try (first|omega|(simp<;>omega)))) ?_
    try simp only[ah,List.set,aC]
    repeat ((first|(apply az;rfl;rintro W z;go_simp;with_reducible rfl)|(apply aA;rfl));simp only[ah,List.set])
    refine bg ?_;go_wp2;go_ret2;exact⟨by simp,cn.out.trans (B.out.trans (ay wr))⟩
structure rp(N:Nat->Prop)(w:World)(tb:Nat)(l:List En):Prop where
 cells:∃(v fv:Value)(nb:Int)(ys:List Ev),w.heap[tb]?=some (.cells #[v,.int .i64 nb,fv] 251 (0,0))/\ys.map Ev.e=l/\Es N w v ys
 own:N tb
 ord:cx l
 len:l.length<=1000000
 vals:∀x∈l,x.val.length<=33554432
theorem rp.kp{l:List En}(a:rp N w tb l)(k:Kp N w w'):rp N w' tb l:=by obtain⟨v,c,d,e,b,f,g⟩:=a.cells;exact⟨⟨v,c,d,e,(k.same tb a.own (af b)).trans b,f,g.kp k⟩,a.own,a.ord,a.len,a.vals⟩
theorem rp.mono{l:List En}(a:rp N w tb l)(c:∀b,N b->M b):rp M w tb l:=by obtain⟨v,b,d,e,f,g,h⟩:=a.cells;exact⟨⟨v,b,d,e,f,g,h.mono c⟩,c _ a.own,a.ord,a.len,a.vals⟩
theorem amQ{l:List En}(a:rp N w tb l)(key:ByteArray){up:Nat}:
  Calls Tryz.prog 154 #[.pointer (some ⟨tb,0,none⟩),.string key,.int .u64 up] w λe w'=>e=.returned (.int .i64 ((gM (spot key up) l).length:Nat))/\Grow w w':=by
 obtain⟨v,b,b,b,c,b,d⟩:=a.cells;have f:=aFu d (by have:=a.len;rw[<-b,bA]at this;omega) (by rw[b];exact a.ord) (yJ key up) (xa:=none) (xl:=0) (xc:=0) rfl;rw[b]at f;have g:=ae f;have h:w.cell? ⟨tb,0,none⟩=some v:=by simp[World.cell?,c]
 have h:=af c;obtain⟨h,h,rfl⟩:=d.slice;clear a c b d f;go_enter Tryz.func154,Tryz.ntmps154
 go_wp2_with fail
 (with_reducible refine g.out.mono ?_);rintro e a ⟨a,rfl,a⟩;have b:=ae a;clear a;go_wp2;go_ret;exact⟨rfl,b.out⟩
theorem amR(x:En)(l:List En):eI x l=l.drop (gM x l).length:=by
 conv=>rhs;rw[<-uO x l]
 rw[uO x l];have a:=uO x l;have:(gM x l++eI x l).drop (gM x l).length=eI x l:=List.drop_left;rw[a]at this;exact this.symm
def aFy(w:World)(b:Option En)(e:Ending)(w':World):Prop:=
 (match b with
  |none=>e=.returned (.tuple #[.agg #[.string ⟨#[]⟩,.int .u64 0,.bool false,.slice none 0 0],.bool false])
  |some a=>∃b,e=.returned (.tuple #[.agg (cd ⟨a,b⟩),.bool true])/\aI w.heap.size w' b a.val)/\Grow w w'
theorem aFz{l:List En}(h:rp N w tb l)(key:ByteArray){up:Nat}:
  Calls Tryz.prog 275 #[.pointer (some ⟨tb,0,none⟩),.string key,.int .u64 up] w (aFy w (eP key up l)):=by
 have Q:=ar w (.cells #[.string ⟨#[]⟩,.int .u64 0,.bool false,.slice none 0 0] 60);have R:=ax w (.cells #[.string ⟨#[]⟩,.int .u64 0,.bool false,.slice none 0 0] 60);have F:=aiT (key:=key) (up:=up) h.ord;rw[amR]at F;have S:=λW (n:Grow w W)=>amQ (h.kp (.bO n)) key (up:=up)
 have om:=aaV (spot key up) l;have T:=h.vals;have lB:=h.len;generalize (gM (spot key up) l).length=i at*;obtain⟨v,fv,nb,j,k,c,d⟩:=h.cells;have o:j.length=l.length:=by rw[<-c,bA]
 have Fl:=ae S;have U:=ae Q;have mW:=ae R;have V:=ae F;have aa:=ae (ag k (ag c (ag d o)));have Hv:=ae T;obtain⟨va,vc,rfl⟩:=d.slice;clear h k c d S Q R F o T;go_enter Tryz.func275,Tryz.ntmps275
 go_wp2_with fail
 generalize w.alloc (.cells #[.string ⟨#[]⟩,.int .u64 0,.bool false,.slice none 0 0] 60)=w1 at*;(with_reducible refine(Fl.out w1 U.out).mono ?_);rintro q y ⟨rfl,z⟩;have r:=U.out.trans z;obtain⟨k,c,d,o⟩:=aa.out;have A:=r.heap k;have s0:y.cell? ⟨tb,0,none⟩=some (.slice va j.length vc):=by simp[World.cell?,A]
 have lt:=af A;have e:=z.heap mW.out;obtain⟨G,H,I,J⟩:=cX e;have lr:=af e;have fr:=bG e;have B:=ae r;rcases Nat.lt_or_ge i l.length with C|C
 .obtain⟨a,ab,ad,ai,ya,yc,K,hv,eD,X,Y,c0,c1,c2,c3⟩:=d.read r (i:=i) (by omega)
  cases hv;have f:l[i]=a.e:=by
   have:(j.map Ev.e)[i]?=some a.e:=by rw[gQ,K];rfl
   rw[c,ek C]at this;exact bh this
  have s:eP key up l=if a.e.key=key then some a.e else none:=by rw[V.out,nA C,f]
  have L:=λW (n:Grow y W)=>ajg (Y.grow n) (by have:=Hv.out a.e (by rw[<-c];exact aV.2 ⟨a,dm K,rfl⟩);omega)
  have Z:cd a=#[.string a.e.key,.int .u64 a.e.seq,.bool a.e.gone,.slice ya a.e.val.length yc]:=by rw[<-X]
  rw[Z]at L;have fC:=ae (L y (aW y));have i0:(0:Int)<=(i:Int):=by omega
  have i1:(i:Int)<(j.length:Int):=by omega
  have D:=ae s;have b:=ae e;clear k c d r z A K X Y f s L Z e o;by_cases m:a.e.key=key
  .have vC:(a.e.key.toList==key.toList)=true:=by rw[m];simp
   have M:=ae m;clear m
   go_wp2_with fail
   (with_reducible refine fC.out.mono ?_);rintro q O ⟨sv,rfl,E,P⟩;obtain⟨t,u,rfl⟩:=E.slice;have x:=P.heap b.out;obtain⟨G,H,I,J⟩:=cX x;have XX:=af x;have aj:=bG x;have y1:=CA (v0:=.string a.e.key) (v1:=.int .u64 a.e.seq) (v2:=.bool a.e.gone) (v3:=.slice t a.e.val.length u) x;have f:w.heap.size<=w.heap.size:=aw _;have dX:Below w.heap.size w O:=B.out.trans P;have fI:aI w.heap.size (jS O w.heap.size (.string a.e.key) (.int .u64 a.e.seq) (.bool a.e.gone) (.slice t a.e.val.length u)) (.slice t a.e.val.length u) a.e.val/\Below w.heap.size w (jS O w.heap.size (.string a.e.key) (.int .u64 a.e.seq) (.bool a.e.gone) (.slice t a.e.val.length u)):=by refine⟨(E.mono B.out.size).keep (λg n=>tA (λq=>?_) _ _ _ _),(((dX.setCell (p:=⟨w.heap.size,0,none⟩) f _).setCell (p:=⟨w.heap.size,1,none⟩) f _).setCell (p:=⟨w.heap.size,2,none⟩) f _).setCell (p:=⟨w.heap.size,3,none⟩) f _⟩;have h5:=(E.lt n).1;have h6:=af b.out;omega
   have cP:=ae fI;have Hy:=ae (cX y1);clear fI y1 dX E P x;go_wp2;obtain⟨z0,z1,z2,z3⟩:=Hy.out;refine bodyPost_ret (v:=.tuple #[.agg #[.string a.e.key,.int .u64 a.e.seq,.bool a.e.gone,.slice t a.e.val.length u],.bool true]) (by simp[results,Tryz.results275,go_sem,z0,z1,z2,z3]) rfl ?_;refine⟨?_,cP.out.2⟩;rw[D.out,if_pos M.out];exact⟨_,rfl,cP.out.1⟩
  .have vC:(a.e.key.toList==key.toList)=false:=by simp only[beq_eq_false_iff_ne,ne_eq];intro q;rw[jz,jz]at q;exact m (Cu q)
   have M:=ae m;clear m;have q0:=eY (v:=.string ⟨#[]⟩) (i:=0) b.out rfl;have q1:=eY (v:=.int .u64 0) (i:=1) b.out rfl;have q2:=eY (v:=.bool false) (i:=2) b.out rfl;have q3:=eY (v:=.slice none 0 0) (i:=3) b.out rfl;go_wp2;refine bodyPost_ret (v:=.tuple #[.agg #[.string ⟨#[]⟩,.int .u64 0,.bool false,.slice none 0 0],.bool false]) (by simp[results,Tryz.results275,go_sem,G,H,I,J]) rfl ?_;refine⟨?_,B.out⟩;rw[D.out,if_neg M.out]
 .have s:eP key up l=none:=by rw[V.out,List.drop_of_length_le C]
  have D:=ae s;have b:=ae e;have i1:¬(i:Int)<(j.length:Int):=by omega
  have i2:decide (i<j.length)=false:=decide_eq_false (by omega);clear k c d r z A s e o;have q0:=eY (v:=.string ⟨#[]⟩) (i:=0) b.out rfl;have q1:=eY (v:=.int .u64 0) (i:=1) b.out rfl;have q2:=eY (v:=.bool false) (i:=2) b.out rfl;have q3:=eY (v:=.slice none 0 0) (i:=3) b.out rfl;go_wp2;refine bodyPost_ret (v:=.tuple #[.agg #[.string ⟨#[]⟩,.int .u64 0,.bool false,.slice none 0 0],.bool false]) (by simp[results,Tryz.results275,go_sem,G,H,I,J]) rfl ?_;refine⟨?_,B.out⟩;rw[D.out]
def AU(a:Option En)(b:Option En):Option En:=
 match b with
 |none=>a
 |some b=>match a with
  |none=>some b
  |some a=>if a.seq<b.seq then some b else some a
def Gd(key:ByteArray)(up:Nat)(ls:List (List En)):Option En:=(ls.map (eP key up)).foldl AU none
theorem amT(key:ByteArray)(up:Nat)(ls:List (List En))(l:List En):Gd key up (ls++[l])=AU (Gd key up ls) (eP key up l):=by simp[Gd]
abbrev zEn:En:=⟨⟨#[]⟩,0,false,[]⟩
structure OB(w:World)(pb:Nat)(acc:Option En)(x:En)(sv:Value)(wr:World):Prop where
 cell:wr.heap[pb]?=some (.cells (cd ⟨x,sv⟩) 60 (0,0))
 own:aI w.heap.size wr sv x.val
 is:acc=some x\/acc=none
 grow:Grow w wr
theorem OB.step{c:Nat}{d:Option En}{x:En}{e:Value}(a:OB w c d x e wr)(b:Grow wr w'):OB w c d x e w':=
 ⟨b.heap a.cell,a.own.grow b,a.is,a.grow.trans b⟩
def OC(w:World)(b:Nat)(key:ByteArray)(up:Nat)(ls:List (List En))(sb:Nat)(c:Array Value)(d e:Value)(wr:World):Prop:=
 ∃(i:Nat)(a:Option En)(f:En)(g:Value),d=.bool a.isSome/\e=.int .i64 (i:Int)/\i<=ls.length/\a=Gd key up (ls.take i)/\OB w b a f g wr/\wr.heap[sb]?=some (.cells c 113 (0,0))
def Ke(w:World)(r:Option En)(e:Ending)(w':World):Prop:=
 (match r with
  |none=>e=.returned (.tuple #[.slice none 0 0,.bool false])
  |some a=>if a.gone then e=.returned (.tuple #[.slice none 0 0,.bool false])else∃v,e=.returned (.tuple #[v,.bool true])/\aI w.heap.size w' v a.val)/\Grow w w'
theorem Tryz.aFA(v:Value)(w:World):(method 492 89 v "Get").run Tryz.prog w=.ok (272,v) w:=by kernel_rfl
theorem Tryz.aFB(v:Value)(w:World):(method 492 143 v "Get").run Tryz.prog w=.ok (275,v) w:=by kernel_rfl
theorem aFC{o:Od}{drv:Value}{V:bM}{k:Int}(hC:fA w db sb o drv lv mb tm seq hm)(hS:eH w sb p tv V k)(hown:Mn.Own B' w tv V.tabs)(rk:V.tabs.length<=100000){g:Int->Option Value}(hM:eh w tm encI g m){tbs:List Nat}(dG:tbs.length=V.tabs.length)(eE:∀(i:Nat)(t:Tb)(b:Nat),V.tabs[i]?=some t->tbs[i]?=some b->g t.file=some (.pointer (some ⟨b,0,none⟩))){ns:List Nd}(amV:ed N w mb ha ns aX dv ds)(hN:∀b,N b->b<w.heap.size)(hval:∀n∈ns,n.x.e.val.length<=1000000000000){lss:List (List En)}(om:lss.length=tbs.length)(hss:∀(i:Nat)(b:Nat)(l:List En),tbs[i]?=some b->lss[i]?=some l->rp N w b l)(key:ByteArray){up:Nat}(vk:up<18446744073709551616):
  Calls Tryz.prog 16 #[.pointer (some ⟨db,0,none⟩),.string key,.int .u64 (up:Int)] w (Ke w (Gd key up (ns.map (λn=>n.x.e)::lss))):=by
 have ai:=ar w (.cells #[.string ⟨#[]⟩,.int .u64 0,.bool false,.slice none 0 0] 60);have dB:=ax w (.cells #[.string ⟨#[]⟩,.int .u64 0,.bool false,.slice none 0 0] 60);have mN:=amA (hC.grow ai) (hS.grow ai) (fB hown ai) rk (hM.grow ai) dG eE;have hst:OB w w.heap.size none zEn (.slice none 0 0) (w.alloc (.cells #[.string ⟨#[]⟩,.int .u64 0,.bool false,.slice none 0 0] 60)):=⟨dB,oM _ _ _,.inr rfl,ai⟩
 have vq:∀(i:Nat)(l:List En)(u:Value)(W:World),Grow w W->(ns.map (λn=>n.x.e)::lss)[i]?=some l->(oI mb tbs)[i]?=some u->(u=.iface 89 (.pointer (some ⟨mb,0,none⟩))/\Calls Tryz.prog 272 #[.pointer (some ⟨mb,0,none⟩),.string key,.int .u64 (up:Int)] W (aal W (eP key up l)))\/(∃b,u=.iface 143 (.pointer (some ⟨b,0,none⟩))/\Calls Tryz.prog 275 #[.pointer (some ⟨b,0,none⟩),.string key,.int .u64 (up:Int)] W (aal W (eP key up l))):=by
  intro i l u W hg hl hu;cases i with
  |zero=>left;simp only[List.getElem?_cons_zero,Option.some.injEq]at hl;simp only[oI,List.getElem?_cons_zero,Option.some.injEq]at hu;subst hl;exact⟨hu.symm,aDU (amV.grow hg) (λb hb=>bF (hN b hb) hg.size) hval key vk⟩
  |succ i=>
   right;simp only[List.getElem?_cons_succ]at hl;simp only[oI,List.getElem?_cons_succ,gQ]at hu;cases hb:tbs[i]? with
   |none=>rw[hb]at hu;cases hu
   |some b=>rw[hb]at hu;simp only[Option.map_some,Option.some.injEq]at hu;exact⟨b,hu.symm,aFz ((hss i b l hb hl).kp (.bO hg)) key⟩
 have hlen:(oI mb tbs).length=(ns.map (λn=>n.x.e)::lss).length:=by simp[oI,om]
 have hl6:(ns.map (λn=>n.x.e)::lss).length<=200000:=by simp only[dD];omega
 have Uh:=ae mN;have bz:=ae hst;have Ui:=ae vq;have qX:=ae hlen;clear ai dB mN hst vq hC hS hown hM amV hN hval hss eE hlen dG om rk;generalize (ns.map (λn=>n.x.e)::lss)=ls at*;go_enter Tryz.func16,Tryz.ntmps16
 go_upto_region 2 with fail
 generalize w.alloc (.cells #[.string ⟨#[]⟩,.int .u64 0,.bool false,.slice none 0 0] 60)=w1 at*;obtain⟨pb,uT⟩:∃pb,pb=w.heap.size:=⟨_,rfl⟩
 rw[<-uT]at bz ⊢;have Ak:=ae uT;clear uT
 go_wp2_with fail
 (with_reducible refine Uh.out.mono ?_);rintro e w2 ⟨v,rfl,hrow,hg2⟩;rcases id hrow with⟨_,h0⟩|⟨gs,cap,cur,rfl,hB,fk,hn,hc,hmx,dN⟩
 .exfalso;cases h0
 have hlen:=qX.out;have hat:∀(i:Nat)(u:Value),(oI mb tbs)[i]?=some u->∀W:World,W.heap[gs]?=some (.cells cur 113 (0,0))->W.cell? ⟨gs,i,none⟩=some u:=λi u hu W hW=>by have h1:=Go.Gl.Row1.cells hrow rfl hu;simp only[World.cell?,fk]at h1;simp only[World.cell?,hW];exact h1
 rw[hlen];have EB:Hid (OC w pb key up ls gs cur (.bool false) (.int .i64 0) w2):=ae ⟨0,none,zEn,.slice none 0 0,rfl,rfl,aY _,rfl,bz.out.step hg2,fk⟩;have Hat:=ae hat;have lgs:=af fk;clear hrow hB fk hn hc hmx dN hat hg2 bz Uh hlen
 go_wp2_with fail
 go_loopw [9,17] (λfv iv wr=>OC w pb key up ls gs cur fv iv wr) (λ_ iv _=>ls.length-(intOf iv).toNat)
 case atStart=>exact EB.out
 case round=>
  clear EB;obtain⟨i,acc,x,sv,rfl,rfl,hi,OD,hs,fk⟩:=hrel;by_cases hlt:i<ls.length
  .obtain⟨l,hl⟩:∃l,ls[i]?=some l:=⟨ls[i],by simp[hlt]⟩
   obtain⟨u,hu⟩:∃u,(oI mb tbs)[i]?=some u:=⟨(oI mb tbs)[i]'(by rw[qX.out];exact hlt),by simp[qX.out,hlt]⟩
   have Da:=Hat.out i u hu wr fk;have lg:=af fk;have eN:(i:Int)<(ls.length:Int):=by omega
   have bU:(0:Int)<=(i:Int):=by omega
   have fT:IntKind.i64.wrap ((i:Int)+1)=(i:Int)+1:=aQ _ (by omega);have ep:Gd key up (ls.take (i+1))=AU acc (eP key up l):=by rw[take_one hl,amT,OD]
   have oy:=ae ep;have Hs:=ae hs;have NN:=ae fk;clear ep hs OD fk;rcases Ui.out i l u wr Hs.out.grow hl hu with⟨rfl,gj⟩|⟨b,rfl,gj⟩
   have ku:=Tryz.aFA (.pointer (some ⟨mb,0,none⟩)) wr;rotate_left;have ku:=Tryz.aFB (.pointer (some ⟨b,0,none⟩)) wr
   all_goals
    have kL:=ae gj;clear gj hl hu
    go_wp2_with fail
    (with_reducible refine kL.out.mono ?_);rintro e w3 hp;clear ku kL Da lg;cases rf:eP key up l with
    |none=>
     rw[rf]at hp;obtain⟨rfl,hg3⟩:=hp;have ai:=hg3.trans (ar w3 (.cells #[.string ⟨#[]⟩,.int .u64 0,.bool false,.slice none 0 0] 60));have hrel:OC w pb key up ls gs cur (.bool acc.isSome) (.int .i64 ((i:Int)+1)) (w3.alloc (.cells #[.string ⟨#[]⟩,.int .u64 0,.bool false,.slice none 0 0] 60)):=⟨i+1,acc,x,sv,rfl,by simp,hlt,by rw[oy.out,rf];rfl,Hs.out.step ai,ai.heap NN.out⟩
     have aR:=ae hrel;clear hrel ai hg3 rf;go_wp2;go_roundw
     case rel=>exact aR.out
     case measure=>simp[intOf];omega
    |some y=>
     rw[rf]at hp;obtain⟨⟨ys,rfl,bQ⟩,hg3⟩:=hp;have sk:=ae rf;clear rf;have his:=Hs.out.is;obtain⟨yk,yq,yg,yd⟩:=y;obtain⟨xk,xq,xg,xd⟩:=x;obtain⟨ya,yc,rfl⟩:=bQ.slice;obtain⟨xa,xc,rfl⟩:=Hs.out.own.slice;dsimp only at bQ;have ai:=ar w3 (.cells #[.string yk,.int .u64 (yq:Int),.bool yg,.slice ya yd.length yc] 60);have eE:(w3.alloc (.cells #[.string yk,.int .u64 (yq:Int),.bool yg,.slice ya yd.length yc] 60)).heap[w3.heap.size]?=some (.cells #[.string yk,.int .u64 (yq:Int),.bool yg,.slice ya yd.length yc] 60 (0,0)):=ax _ _;have eu:=hg3.trans ai;have oT:(w3.alloc (.cells #[.string yk,.int .u64 (yq:Int),.bool yg,.slice ya yd.length yc] 60)).heap[pb]?=some (.cells #[.string xk,.int .u64 (xq:Int),.bool xg,.slice xa xd.length xc] 60 (0,0)):=eu.heap Hs.out.cell;obtain⟨p0,p1,p2,p3⟩:=dJ oT;obtain⟨q0,q1,q2,q3⟩:=dJ eE;have lp:=af oT;have lq:=af eE;have fp:∀j,(w3.alloc (.cells #[.string yk,.int .u64 (yq:Int),.bool yg,.slice ya yd.length yc] 60)).frozen? ⟨pb,j,none⟩=false:=λj=>by simp[World.frozen?,oT]
     have kE:=Hs.out.step eu;have OE:=eu.heap NN.out;have aaZ:=bQ.grow ai;have cG:=Go.Gl.aK (Go.Gl.aK (Go.Gl.aK (Go.Gl.aK oT 0 (.string yk)) 1 (.int .u64 (yq:Int))) 2 (.bool yg)) 3 (.slice ya yd.length yc);have jM:=λ(c:Nat)(hc:c≠pb)=>IH (w:=w3.alloc (.cells #[.string yk,.int .u64 (yq:Int),.bool yg,.slice ya yd.length yc] 60)) hc (.string yk) (.int .u64 (yq:Int)) (.bool yg) (.slice ya yd.length yc)
     have hgr:=xV kE.grow (Nat.le_of_eq Ak.out.symm) (.string yk) (.int .u64 (yq:Int)) (.bool yg) (.slice ya yd.length yc)
     go_upto_region 7 with fail
     generalize w3.alloc (.cells #[.string yk,.int .u64 (yq:Int),.bool yg,.slice ya yd.length yc] 60)=w4 at*;have fQ:AU acc (some ⟨yk,yq,yg,yd⟩)=some ⟨yk,yq,yg,yd⟩->OC w pb key up ls gs cur (.bool true) (.int .i64 ((i:Int)+1)) ((((w4.setCell ⟨pb,0,none⟩ (.string yk)).setCell ⟨pb,1,none⟩ (.int .u64 (yq:Int))).setCell ⟨pb,2,none⟩ (.bool yg)).setCell ⟨pb,3,none⟩ (.slice ya yd.length yc)):=λeU=>by
      refine⟨i+1,some ⟨yk,yq,yg,yd⟩,⟨yk,yq,yg,yd⟩,.slice ya yd.length yc,rfl,by simp,hlt,by rw[oy.out,sk.out,eU],⟨cG,?_,.inl rfl,hgr⟩,?_⟩
      .refine(aaZ.mono Hs.out.grow.size).keep (λb hb=>jM b (λe=>?_));obtain⟨cur',hc'⟩:=aaZ.block hb;rw[e,oT]at hc';exact absurd (cp (bh hc')).2.1 (by decide)
      .refine(jM gs (λe=>?_)).trans OE;rw[e,oT]at OE;exact absurd (cp (bh OE)).2.1 (by decide)
     have kX:=ae fQ;have iB:Hid (AU acc (some ⟨yk,yq,yg,yd⟩)=acc->OC w pb key up ls gs cur (.bool acc.isSome) (.int .i64 ((i:Int)+1)) w4):=ae (λeU=>⟨i+1,acc,⟨xk,xq,xg,xd⟩,.slice xa xd.length xc,rfl,by simp,hlt,by rw[oy.out,sk.out,eU],kE,OE⟩);clear fQ cG jM hgr kE OE aaZ bQ hg3 ai eu oT eE Hs NN oy;rcases his with rfl|rfl
     .by_cases hlq:xq<yq
      .have aFE:(xq:Int)<(yq:Int):=by omega
       have eU:=kX.out (by simp[AU,hlq]);have aR:=ae eU;clear eU kX iB;go_wp2;go_roundw
       case rel=>exact aR.out
       case measure=>simp[intOf];omega
      .have aFE:¬(xq:Int)<(yq:Int):=by omega
       have aOH:(yq:Int)<=(xq:Int):=by omega
       have eU:=iB.out (by simp[AU,hlq]);have aR:=ae eU;clear eU kX iB;go_wp2;go_roundw
       case rel=>exact aR.out
       case measure=>simp[intOf];omega
     .have eU:=kX.out (by simp[AU])
      have aR:=ae eU;clear eU kX iB;go_wp2;go_roundw
      case rel=>exact aR.out
      case measure=>simp[intOf];omega
  .obtain rfl:i=ls.length:=by omega
   rw[iA]at OD;have aba:=ae OD;have Hs:=ae hs;have his:=hs.is;obtain⟨xk,xq,xg,xd⟩:=x;obtain⟨p0,p1,p2,p3⟩:=dJ hs.cell;obtain⟨xa,xc,rfl⟩:=hs.own.slice;have lp:=af hs.cell;clear hs OD fk;rcases his with rfl|rfl
   .cases xg with
    |true=>
     go_wp2;refine bodyPost_ret (v:=.tuple #[.slice none 0 0,.bool false]) ?_ rfl ?_
     .simp[results,Tryz.results16,go_sem]
     .exact⟨by rw[<-aba.out];rfl,Hs.out.grow⟩
    |false=>
     go_wp2;refine bodyPost_ret (v:=.tuple #[.slice xa xd.length xc,.bool true]) ?_ rfl ?_
     .simp[results,Tryz.results16,go_sem]
     .exact⟨by rw[<-aba.out];exact⟨_,rfl,Hs.out.own⟩,Hs.out.grow⟩
   .go_wp2
    refine bodyPost_ret (v:=.tuple #[.slice none 0 0,.bool false]) ?_ rfl ?_
    .simp[results,Tryz.results16,go_sem]
    .exact⟨by rw[<-aba.out],Hs.out.grow⟩
theorem aFF{key:ByteArray}{r:Option En}(a:Calls Tryz.prog 16 #[.pointer (some ⟨db,0,none⟩),.string key,.int .u64 18446744073709551615] w (Ke w r)):
  Calls Tryz.prog 15 #[.pointer (some ⟨db,0,none⟩),.string key] w (Ke w r):=by
 have b:=ae a;clear a;go_enter Tryz.func15,Tryz.ntmps15
 go_wp2_with fail
 (with_reducible refine b.out.mono ?_);rintro a a ⟨a,b⟩;have c:=ae b;clear b;cases r with
 |none=>
  obtain rfl:=a;go_wp2;refine bodyPost_ret (v:=.tuple #[.slice none 0 0,.bool false]) ?_ rfl ?_
  .simp[results,Tryz.results15,go_sem]
  .exact⟨rfl,c.out⟩
 |some e=>
  dsimp only at a;by_cases b:e.gone=true
  .rw[if_pos b]at a
   subst a;go_wp2;refine bodyPost_ret (v:=.tuple #[.slice none 0 0,.bool false]) ?_ rfl ?_
   .simp[results,Tryz.results15,go_sem]
   .exact⟨by dsimp only;rw[if_pos b],c.out⟩
  .rw[if_neg b]at a
   obtain⟨v,rfl,d⟩:=a;obtain⟨a,f,rfl⟩:=d.slice;have g:=ae d;clear d;go_wp2;refine bodyPost_ret (v:=.tuple #[.slice a e.val.length f,.bool true]) ?_ rfl ?_
   .simp[results,Tryz.results15,go_sem]
   .exact⟨by dsimp only;rw[if_neg b];exact⟨_,rfl,g.out⟩,c.out⟩
def AV(o:Od):Prop:=1<=o.zero/\o.zero<=100/\1<=o.base/\o.base<=1073741824/\1<=o.table/\o.table<=67108864
instance(o:Od):Decidable (AV o):=by unfold AV;infer_instance
theorem aFG(o:Od)(w:World):Calls Tryz.prog 21 #[.agg #[.int .i64 o.zero,.int .i64 o.base,.int .i64 o.table]] w λe w'=>e=.returned (.int .i64 (if AV o then 0 else 1))/\Grow w w':=by
 obtain⟨b,a⟩:∃b:Int,b=if AV o then 0 else 1:=⟨_,rfl⟩
 rw[<-a];have b:=ae a;clear a;go_enter Tryz.func21,Tryz.ntmps21;go_wp2
 all_goals
  go_ret;refine⟨?_,((ar _ _).trans (ar _ _)).trans (ar _ _)⟩
  first
   |(rw[b.out,if_pos (by unfold AV;omega)];rfl)
   |(rw[b.out,if_neg (by unfold AV;omega)];rfl)
def sw(o:Od):Prop:=(1<=o.mem/\o.mem<=67108864/\1<=o.block/\o.block<=67108864)/\AV o
instance(o:Od):Decidable (sw o):=by unfold sw;infer_instance
abbrev vr(o:Od)(drv:Value):Value:=.agg #[.int .i64 o.mem,.int .i64 o.block,.int .i64 o.zero,.int .i64 o.base,.int .i64 o.table,drv]
theorem Ge{o:Od}(a:W.heap[xb]?=some (.cells #[.int .i64 o.mem,.int .i64 o.block,.int .i64 o.zero,.int .i64 o.base,.int .i64 o.table,u] 26 (0,0))):(W.cell? ⟨xb,0,none⟩=some (.int .i64 o.mem)/\W.cell? ⟨xb,1,none⟩=some (.int .i64 o.block)/\W.cell? ⟨xb,2,none⟩=some (.int .i64 o.zero)/\W.cell? ⟨xb,3,none⟩=some (.int .i64 o.base)/\W.cell? ⟨xb,4,none⟩=some (.int .i64 o.table)/\W.cell? ⟨xb,5,none⟩=some u)/\xb<W.heap.size:=by refine⟨⟨?_,?_,?_,?_,?_,?_⟩,af a⟩<;>simp[World.cell?,a]
theorem amZ(o:Od)(drv:Value)(w:World):Calls Tryz.prog 22 #[vr o drv] w λe w'=>e=.returned (.int .i64 (if sw o then 0 else 1))/\Grow w w':=by
 obtain⟨c,hc⟩:∃c:Int,c=if sw o then 0 else 1:=⟨_,rfl⟩
 rw[<-hc];have Hc:=ae hc;have Hs:=ae (λW=>aFG o W);obtain⟨d,hd⟩:∃d:Int,d=if AV o then 0 else 1:=⟨_,rfl⟩
 rw[<-hd]at Hs;have Hd:=ae hd;clear hc hd;by_cases h4:1<=o.mem/\o.mem<=67108864/\1<=o.block/\o.block<=67108864
 .have EN:c=d:=by
   rw[Hc.out,Hd.out];by_cases hs:AV o
   .rw[if_pos hs,if_pos ⟨h4,hs⟩]
   .rw[if_neg hs,if_neg (λh=>hs h.2)]
  have Hcd:=ae EN;obtain⟨a1,a2,a3,a4⟩:=h4;have b1:¬o.mem<1:=by omega
  have b2:¬67108864<o.mem:=by omega
  have b3:¬o.block<1:=by omega
  have b4:¬67108864<o.block:=by omega
  clear EN;go_enter Tryz.func22,Tryz.ntmps22
  go_wp2_with fail
  (with_reducible refine(Hs.out _).mono ?_);rintro e w1 ⟨rfl,hg⟩;go_wp2;go_ret;exact⟨by rw[Hcd.out];rfl,(ar _ _).trans hg⟩
 .have hc1:c=1:=by rw[Hc.out,if_neg (λh=>h4 h.1)]
  have rI:=ae hc1;clear hc1;go_enter Tryz.func22,Tryz.ntmps22
  go_wp2_with fail
  all_goals first
   |(exfalso;omega)
   |(go_ret;exact⟨by rw[rI.out];rfl,ar _ _⟩)
theorem aFI(o:Od)(f:Option Addr)(a g:Nat)(w:World):Calls Tryz.prog 12 #[vr o (.slice f a g)] w λe w'=>e=.returned (.bool (decide (sw o/\a<=1000)))/\Grow w w':=by
 have c:=ar w (.cells #[.int .i64 o.mem,.int .i64 o.block,.int .i64 o.zero,.int .i64 o.base,.int .i64 o.table,.slice f a g] 26);have d:=ax w (.cells #[.int .i64 o.mem,.int .i64 o.block,.int .i64 o.zero,.int .i64 o.base,.int .i64 o.table,.slice f a g] 26);have b:=λW=>amZ o (.slice f a g) W
 have j:=ae c;have k:=ae d;clear c d;by_cases c:sw o
 .rw[if_pos c]at b
  have h:=ae b;have i:decide (sw o/\a<=1000)=decide ((a:Int)<=1000):=by
   by_cases l:a<=1000
   .have d:(a:Int)<=1000:=by omega
    simp[c,l,d]
   .have d:¬(a:Int)<=1000:=by omega
    simp[l,d]
  rw[i];clear c i b;go_enter Tryz.func12,Tryz.ntmps12
  go_wp2_with fail
  (with_reducible refine(h.out _).mono ?_);rintro e m ⟨rfl,d⟩;have l:=d.heap k.out;have n:m.cell? ⟨w.heap.size,5,none⟩=some (.slice f a g):=by simp[World.cell?,l]
  have f:=af l;have f:=ae (j.out.trans d);clear d l k j h;go_wp2;go_ret;exact⟨rfl,f.out⟩
 .rw[if_neg c]at b
  have h:=ae b;have i:decide (sw o/\a<=1000)=false:=by simp[c]
  rw[i];clear c i b;go_enter Tryz.func12,Tryz.ntmps12
  go_wp2_with fail
  (with_reducible refine(h.out _).mono ?_);rintro e m ⟨rfl,d⟩;have f:=ae (j.out.trans d);clear d k j h;go_wp2;go_ret;exact⟨rfl,f.out⟩
end Go.Proofs.YtoolkdapflaeeaaGreatDoor
