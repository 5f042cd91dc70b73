/- Helpers. -/
import Derived.Test.YtoolkdapflaeeaaGreatDoorW0K
import Derived.Test.YtoolkdapflaeeaaGreatDoorW0J
import Derived.Test.YtoolkdapflaeeaaGreatDoorW0G
import Derived.Test.YtoolkdapflaeeaaGreatDoorW0D
import Derived.Deep.CutRange
import Derived.Deep.DeepCutAuto
import Derived.Test.YtoolkdapflaeeaaGreatDoorW0L
set_option maxRecDepth 100000
set_option maxHeartbeats 16000000
namespace Go.Proofs.YtoolkdapflaeeaaGreatDoor
open Go.RowKit Go.Gl Go.aH Mn
structure De (x:En):Prop where
 key:x.key.size≤65535
 seq:x.seq<18446744073709551616
 val:x.val.length≤33554432
def NF:Nat→Prop:=fun _=>False
theorem dt.gx {B:Nat} {W W':World} {v:Value} {ys:List Ev} (h:dt B NF W v ys) {g:Nat} (hG:GX g W W') (hg:∀ cur t f,W.heap[g]?=some (.cells cur t f)→t≠5∧t≠60):dt B NF W' v ys:=
 h.keep hG.size (fun _ hb=>hb.elim) (fun b cur t f hB ht hc=>hG.heap hc (fun e=>by
  subst e;have:=hg _ _ _ hc;rcases ht with h|h
  ·exact this.1 h
  ·exact this.2 h))
theorem ja.row {w0 W W':World} {rb:Nat} {l:List UInt8} (h:ja w0 W rb l) {o:Option Nat} (hg:W.grownBy W' o) (ho:∀ g,o=some g→w0.heap.size≤g∧∃ cur,W.heap[g]?=some (.cells cur 60 (0,0))):ja w0 W' rb l:=by
 obtain ⟨bv,h1,h2⟩:=h.cell;refine ⟨⟨bv,(hg.block rb (af h1) (fun e=> ?_)).trans h1,h2⟩,Below.grown h.grow hg h.grow.size (fun g e=>(ho g e).1),h.new⟩;obtain ⟨_,cur,h3⟩:=ho rb e.symm;rw [h1] at h3;exact absurd (cA (bB h3)).2.1 (by decide)
def Ww (w:World) (rb:Nat) (l:List En) (ov:Value) (wr:World):Prop:=
 ∃ (i:Nat) (ys:List Ev),i≤l.length∧ys.map Ev.e=l.take i∧dt w.heap.size NF wr ov ys∧ja w wr rb (aZ (l.drop i))
def ahz (v:Value):Nat:=match v with| .slice _ n _=>n|_=>0
theorem ayx {w:World} {bv:Value} {l:List En} (h:Bv w bv (aZ l)) (hne:l≠ []) (rH:∀ x∈l,De x) (hlen:l.length≤1000000) (mQ:(aZ l).length≤500000000000):
  Calls Tryz.prog 148 #[bv] w fun e w'=>∃ v ys,e= .returned (.tuple #[v,.bool true])∧ys.map Ev.e=l∧dt w.heap.size NF w' v ys∧Grow w w':=by
 obtain ⟨ba,bc,rfl⟩:=h.slice;have ai:=Grow.alloc w (.cells #[.slice ba (aZ l).length bc,.bool false] 308);have hbr:=aw w (.cells #[.slice ba (aZ l).length bc,.bool false] 308);have hst:Ww w w.heap.size l (.slice none 0 0) (w.alloc (.cells #[.slice ba (aZ l).length bc,.bool false] 308)):=⟨0,[],bk _,by simp,⟨World.ownsRow_nil _ _ _ _,(fun y h=>by cases h)⟩,⟨⟨_,hbr,by rw [List.drop_zero];exact h⟩,ai,ay _⟩⟩
 have bI:=ae hst;have Hok:=ae rH;have pD:=ae hne;clear h ai hbr hst rH hne;go_enter Tryz.func148,Tryz.ntmps148
 go_wp2_with fail
 generalize w.alloc (.cells #[.slice ba (aZ l).length bc,.bool false] 308)=w1 at*;obtain ⟨rb,ep⟩:∃ rb,rb=w.heap.size:=⟨_,rfl⟩
 rw [←ep] at bI ⊢;have kA:=ae ep;clear ep
 go_loopw [5] (fun ov wr=>Ww w rb l ov wr) (fun ov _=>l.length-ahz ov)
 case atStart=>exact bI.out
 case round=>
  obtain ⟨i,ys,hi,bJ,hrow,aY⟩:=hrel;obtain ⟨bv,h1,h2⟩:=aY.cell;obtain ⟨xa,xc,rfl⟩:=h2.slice;have c0:wr.cell? ⟨rb,0,none⟩=some (.slice xa (aZ (l.drop i)).length xc):=by simp [World.cell?,h1]
  have c1:wr.cell? ⟨rb,1,none⟩=some (.bool false):=by simp [World.cell?,h1]
  have lr:=af h1;have dX:ys.length=i:=by have:=congrArg List.length bJ;rw [List.length_map,List.length_take] at this;omega
  by_cases hlt:i<l.length
  ·obtain ⟨x,hx⟩:∃ x,l[i]?=some x:=⟨_,List.getElem?_eq_getElem hlt⟩
   have hdr:aZ (l.drop i)=nH x++aZ (l.drop (i+1)):=by
    rw [List.drop_eq_getElem_cons hlt];rw [List.getElem?_eq_getElem hlt] at hx;rw [bB hx];simp [aZ]
   have yY:(0:Int)<((aZ (l.drop i)).length:Int):=by
    have:=aef x;rw [hdr,List.length_append];omega
   have oK:=Hok.out x (dY hx);have Df:=aY;rw [hdr] at Df;have hle:(aZ (l.drop (i+1))).length≤(aZ l).length:=by
    have e:=qQ (l.take (i+1)) (l.drop (i+1));rw [List.take_append_drop] at e;rw [e,List.length_append];omega
   have fD:=axP Df oK.key oK.seq oK.val (by omega);have jP:=ae fD;have pL:=ae hrow;have Hx:=ae (ah hx bJ);have Wd:=ae h1;have pz:=ae hdr;have dU:=ae aY.grow;have Hyl:=ae dX;clear hrow aY Df h1 h2 hdr fD hx bJ hle dX;generalize (aZ (l.drop i)).length=PL at*;obtain ⟨oa,oc,rfl⟩:=pL.out.slice
   go_wp2_with fail
   (with_reducible refine jP.out.mono ?_);rintro e w2 ⟨sv,rfl,iW,hr2,hgx⟩;obtain ⟨sa,sc,rfl⟩:=iW.slice;have hrow2:=pL.out.gx hgx (fun cur t f hc=>by
    rw [Wd.out] at hc;have:=(cA (bB hc)).2.1;subst this;exact ⟨by decide,by decide⟩)
   have uj:w.heap.size≤wr.heap.size:=dU.out.size;have hev:nQ NF w.heap.size w2 ⟨x,.slice sa x.val.length sc⟩:=⟨cy iW,.inr (fun b hb=> .inr ⟨aN uj (iW.lt hb).1,by
    obtain ⟨cur,hc⟩:=iW.block hb;exact ⟨cur,_,hc⟩⟩)⟩
   obtain ⟨g,cap,w3,hrun,hrow3,hg3⟩:=afT hrow2 hev (fun _ h=>h.elim) hr2.grow.size (by rw [Hyl.out];omega);have hr3:=hr2.row hg3 (fun g hg=>xC hrow2 hg);have hrel:Ww w rb l (.slice (some ⟨g,0,none⟩) (ys.length+1) cap) w3:=⟨i+1,ys++ [⟨x,.slice sa x.val.length sc⟩],hlt,by
    rw [List.map_append,Hx.out.2,List.take_add_one,Hx.out.1];rfl,hrow3,hr3⟩
   have dC:=ae hrun;have bq:=ae hrel;clear hrun hrow3 hg3 hr3 hrel hrow2 hev iW hr2 hgx
   go_wp2_with (at_builtin;refine fC rfl rfl rfl rfl dC.out ?_)
   go_roundw
   case rel=>exact bq.out
   case measure=>have:=Hyl.out;simp only [ahz];omega
  ·obtain rfl:i=l.length:=by omega
   have hd:aZ (l.drop l.length)= []:=by rw [List.drop_length];rfl
   have hrow':=hrow;have eX:=ae (ah hrow (ah aY.grow (show ys.map Ev.e=l by rw [bJ,List.take_length])));have hyp:(0:Int)<(ys.length:Int):=by
    have:0<l.length:=List.length_pos_iff.2 pD.out;omega
   have sG:0<ys.length:=by omega
   rw [hd] at c0;obtain ⟨oa,oc,rfl⟩:=hrow.slice;clear hrow hrow' aY h1 h2 bJ hd dX;go_wp2;go_ret2;exact ⟨_,ys,rfl,eX.out.2.2,eX.out.1,eX.out.2.1⟩
theorem ayz {w:World} {bv:Value} {l:List UInt8} (h:Bv w bv l) {p q:Nat} (he:gC aq l=(p,q,0)) (hpq:p≤q) (hq:q≤l.length) (hl:l.length≤900000000000):
  Calls Tryz.prog 147 #[bv] w fun e w'=>∃ v,e= .returned (.tuple #[v,.int .i64 q,.int .i64 0])∧aG w.heap.size w' v ((l.drop p).take (q-p))∧Grow w w':=by
 have hf:=ZY h (by omega);rw [he] at hf;obtain ⟨ba,bc,rfl⟩:=h.slice;have hcut:=rA h hpq hq;have hle:l.length≤bc:=by obtain ⟨a',c',e',hc',_⟩:=h;cases e';exact hc'
 obtain ⟨ad,had⟩:∃ ad,(if bc=p then ba else ba.map (fun x=>x.add p))=ad:=⟨_,rfl⟩
 rw [had] at hcut;have aQ:∀ w',Grow w w'→_:=fun w' hg=>uJ (hcut.grow hg) (by simp;omega)
 have hpl:((l.drop p).take (q-p)).length=q-p:=by simp;omega
 have fL:=ae aQ;have Hf:=ae hf;have p0:(0:Int)≤(p:Int):=by omega
 have p1:(p:Int)≤(q:Int):=by omega
 have p2:(q:Int)≤(bc:Int):=by omega
 clear h hf hcut aQ he hpl;go_enter Tryz.func147,Tryz.ntmps147
 go_wp2_with fail
 (with_reducible refine Hf.out.mono ?_);rintro e w1 ⟨rfl,hg1⟩;have pn:=ae (fL.out w1 hg1);have dK:=ae hg1;clear hg1 Hf fL
 go_wp2_with fail
 (with_reducible refine pn.out.mono ?_);rintro e w2 ⟨cv,rfl,ho,hg⟩;obtain ⟨ca,cL,cc,rfl⟩:∃ a L c,cv= .slice a L c:=by obtain ⟨a,c,h⟩:=ho.slice;exact ⟨_,_,_,h⟩
 have Ho:=ae (ah (ho.mono dK.out.size) (dK.out.trans hg));clear ho hg;go_wp2;go_ret3;exact ⟨_,rfl,Ho.out⟩
theorem PC (xs:List Ev):(xs.flatMap eJ).length=xs.length*4:=by
 induction xs with
 |nil=>rfl
 |cons x xs ih=>rw [List.flatMap_cons,List.length_append,ih,Cx,List.length_cons];omega
theorem Es.src {N:Nat→Prop} {w:World} {v:Value} {xs:List Ev} (h:Es N w v xs):Src Tryz.prog 4 57 v xs.length (xs.flatMap eJ) w:=by
 have nj:∀ u∈xs.flatMap eJ,u.oneCell'=true:=fun u hu=>by
  obtain ⟨x,hx,PD⟩:=List.mem_flatMap.1 hu;exact auN (h.2 x hx) u PD
 obtain ⟨⟨a,c,rfl,hl,hm,hn,h3⟩,h2⟩:=h;by_cases hx:xs= []
 ·subst hx
  cases a with
  |none=>exact Src.ofNil w Tryz.underlying57 c
  |some a=>exact Src.ofSlice w Tryz.underlying57 a 0 c [] rfl (fun j u hu=>by simp at hu) (fun u hu=>by cases hu)
 ·rcases h3 with h3|⟨b,o,rfl,hb,hlt,hr⟩
  ·exact absurd h3 hx
  ·refine Src.ofSlice w Tryz.underlying57 ⟨b,o,none⟩ xs.length c _ (PC xs) (fun j u hu=> ?_) nj
   have hj:j<xs.length*4:=by
    have:=(dQ.1 hu).1;rw [PC] at this;exact this
   have hi:j / 4<xs.length:=by omega
   have hx1:=List.getElem?_eq_getElem hi;have h5:=BI (enc:=eJ) Cx hx1 (j%4) (Nat.mod_lt _ (by decide));rw [show j / 4*4+j%4=j by omega,hu] at h5;have h6:=hr (j / 4) _ hx1 (j%4) u h5.symm;rw [show o+j / 4*4+j%4=o+j by omega] at h6;have h7:w.cell? ⟨b,o+j,none⟩=some u:=h6;show w.cell? (Addr.add ⟨b,o,none⟩ j)=some u;rw [show (Addr.add ⟨b,o,none⟩ j)=⟨b,o+j,none⟩ by simp [Addr.add]];exact h7
def NT:Nat→Prop:=fun _=>True
theorem dt.any {B:Nat} {N:Nat→Prop} {W:World} {v:Value} {ys:List Ev} (h:dt B N W v ys):Es NT W v ys:=h.es (fun _ _=>True.intro)
theorem ayB {w:World} {a:Option Addr} {xs zs:List Ev} {pv:Value} (h:Es NT w (.slice a xs.length xs.length) xs) (hp:Es NT w pv zs) (yY:0<zs.length) (hlen:xs.length+zs.length≤1000000000):
  ∃ v' w',(Builtin.append_ #[57,57] 57 #[.slice a xs.length xs.length,pv]).run Tryz.prog w= .ok v' w'∧Es NT w' v' (xs++zs)∧Grow w w':=by
 obtain ⟨i,bK,hzz,hsz,cZ⟩:=info_parts Tryz.UE;have hs':Src Tryz.prog i.size 57 pv zs.length (zs.flatMap eJ) w:=by rw [hsz];exact hp.src
 have hold:(Builtin.firstCells i.size xs.length (.slice a xs.length xs.length)).run Tryz.prog w.drew= .ok (xs.flatMap eJ).toArray w.drew:=by rw [hsz];exact h.src.cellsD
 have hr:=run_append_grow_src w 57 57 57 60 i _ Tryz.underlying57 bK hzz a xs.length xs.length (xs.flatMap eJ) hold pv zs.length (zs.flatMap eJ) hs' (by omega) (by omega) (by rw [cZ];exact growslice_fits (by omega) (by omega));have iK:=grownCap_ge w (xs.length+zs.length) xs.length 60;have hcm:grownCap w (xs.length+zs.length) xs.length 60≤maxLen:=grownCap_le_maxLen w (xs.length+zs.length) xs.length 60 (by unfold maxLen;omega);have hgr:Grow w (w.drew.alloc (.cells (((xs.flatMap eJ++zs.flatMap eJ)).toArray++Builtin.zeroCells (Value.agg #[.string ByteArray.empty,.int .u64 0,.bool false,.slice none 0 0]).cells (grownCap w (xs.length+zs.length) xs.length 60-(xs.length+zs.length))) 60)):=⟨rfl,rfl,rfl,by simp,fun k hk=>heap_alloc_old w.drew _ hk⟩
 refine ⟨_,_,hr,⟨⟨_,_,by rw [List.length_append],by rw [List.length_append];exact iK,hcm,(fun e=>by cases e),.inr ⟨w.heap.size,0,rfl,True.intro,by simp,?_⟩⟩,fun x hx=> ?_⟩,hgr⟩
 ·intro j x hx c u hu
  have gO:=aw w.drew (.cells (((xs.flatMap eJ++zs.flatMap eJ)).toArray++Builtin.zeroCells (Value.agg #[.string ByteArray.empty,.int .u64 0,.bool false,.slice none 0 0]).cells (grownCap w (xs.length+zs.length) xs.length 60-(xs.length+zs.length))) 60);have rC:c<4:=by have:=(dQ.1 hu).1;rwa [Cx] at this
  have hj:j<(xs++zs).length:=(dQ.1 hx).1;have h5:=BI (enc:=eJ) Cx hx c rC;rw [hu,List.flatMap_append] at h5;have hlt:j*4+c<(xs.flatMap eJ++zs.flatMap eJ).length:=(dQ.1 h5).1;have hd:w.drew.heap.size=w.heap.size:=rfl;rw [hd] at gO;simp only [World.cell?,gO,Nat.zero_add];rw [Array.getElem?_append_left (by simpa using hlt)];simpa using h5
 ·rcases List.mem_append.1 hx with h1|h1
  ·exact (h.2 x h1).grow hgr
  ·exact (hp.2 x h1).grow hgr
theorem ayC {B:Nat} {w:World} {tv lv:Value} {ys zs:List Ev} (h:dt B NF w tv ys) (hp:dt B NF w lv zs) (yY:0<zs.length) (hB:B≤w.heap.size) (hlen:ys.length+zs.length≤1000000000):
  ∃ g cap w',(Builtin.append_ #[57,57] 57 #[tv,lv]).run Tryz.prog w= .ok (.slice (some ⟨g,0,none⟩) (ys.length+zs.length) cap) w'∧dt B NF w' (.slice (some ⟨g,0,none⟩) (ys.length+zs.length) cap) (ys++zs)∧w.grownBy w' tv.ownBlock:=by
 obtain ⟨i0,bK,hz0,hz1,hz2⟩:=info_parts Tryz.UE;have lj:∀ y∈ys++zs,nQ NF B w y:=fun y hy=>by
  rcases List.mem_append.1 hy with h1|h1
  ·exact h.2 y h1
  ·exact hp.2 y h1
 obtain ⟨g2,Fg,rfl,hr2⟩:∃ g2 Fg,lv= .slice (some ⟨g2,0,none⟩) zs.length Fg∧Rd w g2 0 eJ 4 zs:=by
  rcases id hp.1.2 with ⟨h1,h0⟩|⟨g,cap,cur,h1,hB,h3,h4,h5,h6⟩
  ·omega
  ·exact ⟨g,cap,h1,wO Cx (h1 ▸ hp.1)⟩
 have nj:∀ u∈zs.flatMap eJ,u.oneCell'=true:=fun u hu=>by
  obtain ⟨x,hx,PD⟩:=List.mem_flatMap.1 hu;obtain ⟨a,c,hv⟩:=(hp.2 x hx).slice;simp only [eJ,List.mem_cons,List.not_mem_nil,or_false] at PD;rcases PD with rfl|rfl|rfl|rfl
  ·rfl
  ·rfl
  ·rfl
  ·rw [hv];rfl
 obtain ⟨g,cap,w',hrun,hown,hgr,_,_⟩:=run_append_lies (P:=Tryz.prog) w 57 57 B 60 i0 _ 4 56 Tryz.underlying57 bK hz0 hz1 hz2 rfl (by decide) _ _ _ h.1
  ⟨g2,0,none⟩ zs.length Fg (zs.flatMap eJ) (PC zs) (fun j u hu=>by
   have hj:j<zs.length*4:=by
    have:=(dQ.1 hu).1;rw [PC] at this;exact this
   have hi:j / 4<zs.length:=by omega
   have hx1:=List.getElem?_eq_getElem hi;have h5:=BI (enc:=eJ) Cx hx1 (j%4) (Nat.mod_lt _ (by decide));rw [show j / 4*4+j%4=j by omega,hu] at h5;have h6:=hr2 (j / 4) _ hx1 (j%4) u h5.symm;rw [show 0+j / 4*4+j%4=0+j by omega] at h6;have h7:w.cell? ⟨g2,0+j,none⟩=some u:=h6;rw [show (Addr.add ⟨g2,0,none⟩ j)=⟨g2,0+j,none⟩ by by_cases ze:j=0<;>simp [Addr.add,ze]];exact h7) nj yY (by unfold maxLen;omega) (by omega) hB _ rfl
 refine ⟨g,cap,w',hrun,⟨?_,fun y hy=>(lj y hy).keep hgr.size (fun b hb=>hb.elim) (fun b cur f hb hc=> ?_)⟩,hgr⟩
 ·rw [List.length_append,List.flatMap_append]
  exact hown
 ·rw [hgr.block b (af hc) (fun e=> ?_)]
  ·exact hc
  ·obtain ⟨_,cur',h2⟩:=xC h e.symm
   rw [hc] at h2;exact absurd (cA (bB h2)).2.1 (by decide)
theorem xP {D P Q R:List UInt8} {i m:Nat} (hD:D=P++(Q++R)) (hi:P.length=i) (hm:Q.length=m):(D.drop i).take m=Q:=by
 subst hD hi hm;rw [List.drop_left,List.take_left]
structure SsP (gs:List (List En)) (n:Nat) (fl D:List UInt8) (a th en:Nat):Prop where
 at':a=(bN gs).length
 th':th=a+(bw aq (iR 0 gs)).length
 en':en=th+(bw aq fl).length
 len:D.length=en+28
 ending:(D.drop en).take (en+24-en)=iq a th n
 sum:(D.drop (en+24)).take (D.length-(en+24))=cm 4 (dB aq (iq a th n))
 n1:(D.drop en).take (en+8-en)=cm 8 a
 n2:(D.drop (en+8)).take (en+16-(en+8))=cm 8 th
 n3:(D.drop (en+16)).take (en+24-(en+16))=cm 8 n
 idx:(D.drop a).take (th-a)=bw aq (iR 0 gs)
 fil:(D.drop th).take (en-th)=bw aq fl
 blk:∀ g1 g2,gs=g1++g2→(D.drop (bN g1).length).take (a-(bN g1).length)=bN g2
theorem ayG (gs:List (List En)) (n:Nat) (fl:List UInt8):SsP gs n fl (fN gs n fl) (bN gs).length (dz gs).length ((dz gs).length+(bw aq fl).length):=by
 have sg:(dz gs).length=(bN gs).length+(bw aq (iR 0 gs)).length:=by unfold dz;rw [List.length_append]
 have h8:∀ v,(cm 8 v).length=8:=fun v=>kQ 8 v
 have vD:=Oa (bN gs).length (dz gs).length n;have h4:∀ v,(cm 4 v).length=4:=fun v=>kQ 4 v
 refine ⟨rfl,sg,rfl,?_,?_,?_,?_,?_,?_,?_,?_,fun g1 g2 hg=> ?_⟩
 ·unfold fN;simp only [List.length_append,vD,h4];omega
 ·exact xP (P:=dz gs++bw aq fl) (R:=cm 4 (dB aq (iq (bN gs).length (dz gs).length n))) (by simp [fN]) (by simp) (by rw [vD];omega)
 ·have e:fN gs n fl=(dz gs++bw aq fl++iq (bN gs).length (dz gs).length n)++(cm 4 (dB aq (iq (bN gs).length (dz gs).length n))++ []):=by simp [fN]
  refine xP e (by simp [vD];omega) ?_;rw [e];simp [vD];omega
 ·exact xP (P:=dz gs++bw aq fl) (R:=cm 8 (dz gs).length++(cm 8 n++cm 4 (dB aq (iq (bN gs).length (dz gs).length n)))) (by simp [fN,iq]) (by simp) (by rw [h8];omega)
 ·exact xP (P:=dz gs++bw aq fl++cm 8 (bN gs).length) (R:=cm 8 n++cm 4 (dB aq (iq (bN gs).length (dz gs).length n))) (by simp [fN,iq]) (by simp [h8];omega) (by rw [h8];omega)
 ·exact xP (P:=dz gs++bw aq fl++cm 8 (bN gs).length++cm 8 (dz gs).length) (R:=cm 4 (dB aq (iq (bN gs).length (dz gs).length n))) (by simp [fN,iq]) (by simp [h8];omega) (by rw [h8];omega)
 ·exact xP (P:=bN gs) (R:=bw aq fl++(iq (bN gs).length (dz gs).length n++cm 4 (dB aq (iq (bN gs).length (dz gs).length n)))) (by simp [fN,dz]) rfl (by omega)
 ·exact xP (P:=dz gs) (R:=iq (bN gs).length (dz gs).length n++cm 4 (dB aq (iq (bN gs).length (dz gs).length n))) (by simp [fN]) rfl (by omega)
 ·subst hg
  refine xP (P:=bN g1) (R:=bw aq (iR 0 (g1++g2))++(bw aq fl++(iq (bN (g1++g2)).length (dz (g1++g2)).length n++cm 4 (dB aq (iq (bN (g1++g2)).length (dz (g1++g2)).length n))))) ?_ rfl ?_
  ·simp [fN,dz,JJ]
  ·rw [JJ,List.length_append];omega
theorem ayH (g:List En) (gs:List (List En)) (h:(aZ g).length≤67108864):gC aq (bN (g::gs))=((aA (aZ g).length).length+4,(fj g).length,0):=by
 have:bN (g::gs)=fj g++bN gs:=by simp [bN]
 rw [this];exact ZI aq h _
theorem ayI (g:List En) (gs:List (List En)):((bN (g::gs)).drop ((aA (aZ g).length).length+4)).take ((fj g).length-((aA (aZ g).length).length+4))=aZ g:=by
 have hl:=kT aq (aZ g);have e:bN (g::gs)=(aA (aZ g).length++cm 4 (dB aq (aZ g)))++(aZ g++bN gs):=by simp [bN,fj,bw]
 refine xP e (by simp [kQ]) ?_;unfold fj;omega
end Go.Proofs.YtoolkdapflaeeaaGreatDoor
namespace Go.Proofs.YtoolkdapflaeeaaGreatDoor
open Go.RowKit Go.Gl Mn
theorem ahC {a b:List En}:cQ (a++b)↔cQ a∧cQ b∧∀ x∈a,∀ y∈b,gY x y:=List.pairwise_append
end Go.Proofs.YtoolkdapflaeeaaGreatDoor
namespace Go.Proofs.YtoolkdapflaeeaaGreatDoor
open Go.RowKit Go.Gl Go.aH Mn
def sI (B:Nat) (W:World) (tb:Nat) (l:List En):Prop:=
 ∃ (v fv:Value) (nb:Int) (ys:List Ev),W.heap[tb]?=some (.cells #[v,.int .i64 nb,fv] 251 (0,0))∧B≤tb∧ys.map Ev.e=l∧dt B NF W v ys
theorem dt.CX {B B':Nat} {W W':World} {v u:Value} {ys:List Ev} {xs:List Bk} (h:dt B NF W v ys) (hu:fU B' W u xs) (hg:W.grownBy W' u.ownBlock):dt B NF W' v ys:=
 h.keep hg.size (fun _ hb=>hb.elim) (fun b cur t f hB ht hc=>(hg.block b (af hc) (fun e=>by
  obtain ⟨_,_,cur',h3⟩:=hu.lt e.symm;rw [hc] at h3;have:=(cA (bB h3)).2.1;rcases ht with h|h
  ·rw [h] at this;exact absurd this (by decide)
  ·rw [h] at this;exact absurd this (by decide))).trans hc)
theorem fU.ayJ {B B':Nat} {w w':World} {v u:Value} {xs:List Bk} {ys:List Ev} (h:fU B w v xs) (hu:dt B' NF w u ys) (hg:w.grownBy w' u.ownBlock):fU B w' v xs:=
 h.keep fun g hb=>by
  obtain ⟨_,h2,cur,h3⟩:=h.lt hb;refine hg.block g h2 (fun he=> ?_);obtain ⟨_,cur',h4⟩:=xC hu he.symm;rw [h3] at h4;exact absurd (cA (bB h4)).2.1 (by decide)
def Wx (w:World) (gs:List (List En)) (tb:Nat) (kv iv:Value) (wr:World):Prop:=
 ∃ (g1 g2:List (List En)) (tv:Value) (ys:List Ev),gs=g1++g2∧iv= .int .i64 ((bN g1).length:Nat)∧fU w.heap.size wr kv (kH 0 g1)∧wr.heap[tb]?=some (.cells #[tv,.int .i64 0,.slice none 0 0] 251 (0,0))∧
  ys.map Ev.e=g1.flatten∧dt w.heap.size NF wr tv ys∧Below w.heap.size w wr
theorem ayK {a b c:List En} (h:cQ (a++(b++c))) (m:Nat):cQ (a.drop m++b):=by
 have h1:cQ ((a++b)++c):=by rw [List.append_assoc];exact h
 have h2:=(ahC.1 h1).1;rw [ahC] at h2 ⊢;exact ⟨List.Pairwise.sublist (List.drop_sublist _ _) h2.1,h2.2.1,fun x hx y hy=>h2.2.2 x (List.mem_of_mem_drop hx) y hy⟩
set_option maxRecDepth 1000000 in
theorem ayL {w:World} {bv:Value} {l:List En} {size:Nat} (h:Bv w bv (fN (dM size [] l) l.length (dn l))) (hne:l≠ []) (ho:cQ l) (iQ:CJ l) (rH:∀ x∈l,De x) (hlen:l.length≤1000000) (mQ:(aZ l).length+30*l.length≤50000000):
  Calls Tryz.prog 94 #[bv] w fun e w'=>∃ tb,e= .returned (.tuple #[.pointer (some ⟨tb,0,none⟩),.nilIface])∧sI w.heap.size w' tb l∧Grow w w':=by
 have hP:=ayG (dM size [] l) l.length (dn l);have fu:=JH size l [] hne;have Wy:=JI size l [];have wH:=Kr size l [];generalize dM size [] l=gs at*;rw [List.nil_append] at fu;generalize hD:fN gs l.length (dn l)=D at*;generalize ha:(bN gs).length=a at*;generalize sg:(dz gs).length=th at*;generalize hen:th+(bw aq (dn l)).length=en at*;have hbl:=Fx gs;rw [fu] at hbl;have dR:=OZ gs 0 Wy;rw [fu,CD] at dR;have oD:=kT aq (iR 0 gs);have hfn:=cf (iR 0 gs).length;have JK:=kT aq (dn l);have ayM:=cf (dn l).length;have dA:=JW l;have hfN:fP l≤2000000:=by
  have:=Fl l l.length;unfold fP;omega
 have hpl:=hP.len;have PE:=hP.th';have hDl:D.length≤300000000:=by omega
 have aGU:a<th:=by omega
 have aGV:th<en:=by omega
 have aGW:en+28≤D.length:=by omega
 obtain ⟨ba,bc,rfl⟩:=h.slice;have hle:D.length≤bc:=by obtain ⟨a',c',e',hc',_⟩:=h;cases e';exact hc'
 have HP:=ae hP;have HB:=ae h;have PF:=ae fu;have PG:=ae Wy;have Ha:=ae ha;have w1:IntKind.i64.wrap ((D.length:Int)-28)=(en:Int):=by rw [aR _ (by omega)];omega
 have PH:IntKind.i64.wrap ((en:Int)+24)=((en+24:Nat):Int):=by rw [aR _ (by omega)];omega
 have PI:IntKind.i64.wrap ((en:Int)+16)=((en+16:Nat):Int):=by rw [aR _ (by omega)];omega
 have w8:IntKind.i64.wrap ((en:Int)+8)=((en+8:Nat):Int):=by rw [aR _ (by omega)];omega
 obtain ⟨ad1,Wz⟩:∃ ad,(if bc=en then ba else ba.map (fun x=>x.add en))=ad:=⟨_,rfl⟩
 obtain ⟨nT,xQ⟩:∃ nT,nT=en+24:=⟨_,rfl⟩
 obtain ⟨um,xR⟩:∃ um,um=en+16:=⟨_,rfl⟩
 obtain ⟨e8,Ao⟩:∃ e8,e8=en+8:=⟨_,rfl⟩
 rw [←xQ] at PH;rw [←xR] at PI;rw [←Ao] at w8;obtain ⟨ad2,ahE⟩:∃ ad,(if bc=nT then ba else ba.map (fun x=>x.add nT))=ad:=⟨_,rfl⟩
 have hs1:=rA h (i:=en) (j:=nT) (by omega) (by omega);have hs2:=rA h (i:=nT) (j:=D.length) (by omega) (ay _);rw [Wz] at hs1;rw [ahE] at hs2;have p1:=hP.ending;have p2:=hP.sum;rw [←xQ] at p1 p2;rw [p1] at hs1;rw [p2] at hs2;have zo:=ae hs1;have oZ:=ae hs2;have He:=ae (ah xQ (ah xR Ao));have i1:(0:Int)≤(en:Int):=by omega
 have i2:(en:Int)≤(nT:Int):=by omega
 have i3:(nT:Int)≤(bc:Int):=by omega
 have i4:(0:Int)≤(nT:Int):=by omega
 have i5:(nT:Int)≤(D.length:Int):=by omega
 have Hf:=ae (ah oD (ah JK (ah dA (ah hpl (ah PE (ah hD (ah sg (ah hen wH))))))));clear h hP fu Wy ha oD JK dA hpl PE hs1 hs2 p1 p2 xQ xR Ao hD sg hen hbl dR hfn ayM hfN wH;go_enter Tryz.func94,Tryz.ntmps94
 go_upto_region 4 with fail
 refine bX (fun V=>Below w.heap.size w V) [(0,false),(1,false),(2,false),(3,false),(4,false),(8,false),(9,false),(10,false),(11,false),(5,true),(6,true),(7,false),(12,true),(13,false)] (by kernel_rfl) (by kernel_rfl) (fun c a d v w h=>by cases d<;>exact h) (by (repeat (first|exact Below.refl _ _|assumption|refine Below.drew ?_|refine cp ?_|refine Below.setCell ?_ (by first|omega|(simp<;>omega)) _|refine Below.alloc ?_ (by first|omega|(simp<;>omega)) _))) ?_;simp only [aP,nth]
 repeat (first|(refine aB (v:= ?_) (by rfl) ?_ ?_;rotate_left;(rintro W hW;go_simp;with_reducible rfl);simp only [ag,List.set])|(refine aC (by rfl) ?_;simp only [ag,List.set]))
 have hgd:=Grow.drew w;have jk:=aw w.drew (.cells #[.slice ad1 (nT-en) (bc-en)] 49);have hg1:=hgd.trans (Grow.alloc w.drew (.cells #[.slice ad1 (nT-en) (bc-en)] 49));refine fQ (by rfl) (fun K hK=> ?_);go_simp;refine hK _ _ ⟨hg1,?_⟩;clear hK K
 try first|simp only [ag,List.set]|simp only [aD]
 refine bj (by rfl) (by go_simp) (My jk (zo.out.grow hg1)) ?_;rintro e w2 ⟨rfl,hg2⟩;have my:=hg1.trans hg2;refine ⟨_,rfl,my,?_⟩
 try first|simp only [ag,List.set]|simp only [aD]
 have mo:=yH (iq a th l.length);generalize Kw:dB aq (iq a th l.length)=SM at*;have HSM:=ae Kw;have wS:=tW (n:=SM) (by omega);clear Kw
 repeat (first|(refine aB (v:= ?_) (by rfl) ?_ ?_;rotate_left;(rintro W hW;go_simp;with_reducible rfl);simp only [ag,List.set])|(refine aC (by rfl) ?_;simp only [ag,List.set]))
 have ie:=Oc (oZ.out.grow my) (by rw [kQ];decide);rw [Ob 4 _ (by omega)] at ie;refine bj (by rfl) (by go_simp) ie ?_;rintro e w3 ⟨rfl,hw3⟩;have KM:=hw3.symm;subst KM;clear hw3;refine ⟨_,rfl,my,?_⟩
 try first|simp only [ag,List.set]|simp only [aD]
 repeat (first|(refine aB (v:= ?_) (by rfl) ?_ ?_;rotate_left;(rintro W hW;go_simp;with_reducible rfl);simp only [ag,List.set])|(refine aC (by rfl) ?_;simp only [ag,List.set]))
 refine bm ?_;have jT:=ae my;clear my hg2 hg1 hgd jk ie mo wS ahE zo oZ i2 i3 i4 i5 w1 PH;obtain ⟨ad3,ahF⟩:∃ ad,(if bc=e8 then ba else ba.map (fun x=>x.add e8))=ad:=⟨_,rfl⟩
 obtain ⟨xQ,xR,Ao⟩:=He.out;have gQ:=rA HB.out (i:=en) (j:=e8) (by omega) (by omega);have km:=rA HB.out (i:=e8) (j:=um) (by omega) (by omega);rw [Wz] at gQ;rw [ahF] at km;have p1:=HP.out.n1;have p2:=HP.out.n2;rw [←Ao] at p1 p2;rw [←xR] at p2;rw [p1] at gQ;rw [p2] at km;have j1:(en:Int)≤(e8:Int):=by omega
 have j2:(e8:Int)≤(bc:Int):=by omega
 have j3:(0:Int)≤(e8:Int):=by omega
 have j4:(e8:Int)≤(um:Int):=by omega
 have j5:(um:Int)≤(bc:Int):=by omega
 have hc1:=fun W (hg:Grow w W)=>Oc (gQ.grow hg) (by rw [kQ];decide)
 have hc2:=fun W (hg:Grow w W)=>Oc (km.grow hg) (by rw [kQ];decide)
 rw [Ob 8 _ (by omega)] at hc1 hc2;have pn:=ae hc1;have BH:=ae hc2;clear hc1 hc2 gQ km p1 p2 xQ xR Ao
 go_upto_region 6 with fail
 refine bX (fun V=>Below w.heap.size w V) [(0,false),(1,false),(2,false),(3,false),(4,false),(6,false),(7,false),(8,false),(9,false),(10,false),(11,false),(5,true),(12,true),(13,false),(14,false)] (by kernel_rfl) (by kernel_rfl) (fun c a d v w h=>by cases d<;>exact h) (jT.out.trans (Grow.drew w2)) ?_;simp only [aP,nth]
 repeat (first|(refine aB (v:= ?_) (by rfl) ?_ ?_;rotate_left;(rintro W hW;go_simp;with_reducible rfl);simp only [ag,List.set])|(refine aC (by rfl) ?_;simp only [ag,List.set]))
 refine bj (by rfl) (by go_simp) (pn.out w2.drew (jT.out.trans (Grow.drew w2))) ?_;rintro e w3 ⟨rfl,hw3⟩;have KM:=hw3.symm;subst KM;clear hw3;refine ⟨_,rfl,(jT.out.trans (Grow.drew w2)),?_⟩
 try first|simp only [ag,List.set]|simp only [aD]
 refine bj (by rfl) (by go_simp) (BH.out w2.drew (jT.out.trans (Grow.drew w2))) ?_;rintro e w3 ⟨rfl,hw3⟩;have KM:=hw3.symm;subst KM;clear hw3;refine ⟨_,rfl,(jT.out.trans (Grow.drew w2)),?_⟩
 try first|simp only [ag,List.set]|simp only [aD]
 repeat (first|(refine aB (v:= ?_) (by rfl) ?_ ?_;rotate_left;(rintro W hW;go_simp;with_reducible rfl);simp only [ag,List.set])|(refine aC (by rfl) ?_;simp only [ag,List.set]))
 refine bm ?_;have Ai:=ae (jT.out.trans (Grow.drew w2));generalize w2.drew=w3 at*;have k1:decide (th≤a)=false:=by simp;omega
 have k2:decide (en≤th)=false:=by simp;omega
 have wen:=tW (n:=en) (by omega);have wia:IntKind.i64.wrap (a:Int)=(a:Int):=aR _ (by omega);clear jT Wz ahF j1 j2 j3 j4 j5 pn BH w8 PI i1;have ai:=Grow.alloc w3 (.cells #[.slice none 0 0,.int .i64 0,.slice none 0 0] 251);have dR:=aw w3 (.cells #[.slice none 0 0,.int .i64 0,.slice none 0 0] 251);have FB:=ae (Ai.out.trans ai);have xM:=ae dR;have hb3:=Ai.out.size;clear ai dR
 go_wp2_with fail
 have hst:Wx w gs w3.heap.size (.slice none 0 0) (.int .i64 0) (w3.alloc (.cells #[.slice none 0 0,.int .i64 0,.slice none 0 0] 251)):=⟨[],gs,.slice none 0 0,[],rfl,rfl,aeL _ _,xM.out,rfl,⟨World.ownsRow_nil _ _ _ _,fun y h=>by cases h⟩,FB.out⟩
 have bI:=ae hst;obtain ⟨tb,dp⟩:∃ tb,tb=w3.heap.size:=⟨_,rfl⟩
 rw [←dp] at bI ⊢;have PK:w.heap.size≤tb:=by rw [dp];exact hb3
 clear hst dp hb3 xM FB Ai
 go_loopw [8,9] (fun kv iv wr=>Wx w gs tb kv iv wr) (fun _ iv _=>a-(intOf iv).toNat)
 case atStart=>exact bI.out
 case round=>
  obtain ⟨g1,g2,tv,ys,ej,rfl,gR,lG,bJ,hrow,dG⟩:=hrel;obtain ⟨ka,kc,rfl⟩:=gR.slice;rw [qT] at gR ⊢;have bh:a=(bN g1).length+(bN g2).length:=by
   rw [←Ha.out,ej,JJ,List.length_append]
  have hblk:=HP.out.blk g1 g2 ej;have fu:=PF.out;rw [ej,List.flatten_append] at fu;generalize eu:(bN g1).length=fr at*;cases g2 with
  |nil=>
   have ayO:fr=a:=by rw [bh];simp [bN]
   subst ayO;rw [List.append_nil] at ej;subst ej;rw [List.flatten_nil,List.append_nil] at fu;rw [fu] at bJ;clear hblk bh eu;have dX:ys.length=l.length:=by have:=congrArg List.length bJ;rwa [List.length_map] at this
   obtain ⟨ta,tc,rfl⟩:=hrow.slice;have FA:=afe hrow.any (by omega) (fun y hy=>by
    have:=rH y.e (by rw [←bJ];exact List.mem_map.2 ⟨y,hy,rfl⟩);have:=this.key;omega)
   rw [bJ] at FA;have Ku:=ae FA;have t0:wr.cell? ⟨tb,0,none⟩=some (.slice ta ys.length tc):=by simp [World.cell?,lG]
   have WA:=af lG;have HS:=ae (ah gR (ah lG (ah bJ (ah hrow (ah dG dX)))));clear FA gR lG bJ hrow dG dX fu;have mm:decide ((fr:Int)<(fr:Int))=false:=by simp
   go_wp2_with fail
   (with_reducible refine Ku.out.mono ?_);rintro e w4 ⟨fv,rfl,qY,hg4⟩;obtain ⟨gR,lG,bJ,hrow,dG,dX⟩:=HS.out;obtain ⟨xS,xU,rfl⟩:=qY.slice;have xV:=hg4.heap lG;have cE:=Go.Gl.aI (Go.Gl.aI xV 1 (.int .i64 (gs.length:Int))) 2 (.slice xS (dn l).length xU);have Ap:GX tb w4 ((w4.setCell ⟨tb,1,none⟩ (.int .i64 (gs.length:Int))).setCell ⟨tb,2,none⟩ (.slice xS (dn l).length xU)):=(Go.Gl.iJ _ _ _ _).trans (Go.Gl.iJ _ _ _ _);have xW:Below w.heap.size w ((w4.setCell ⟨tb,1,none⟩ (.int .i64 (gs.length:Int))).setCell ⟨tb,2,none⟩ (.slice xS (dn l).length xU)):=((dG.trans (hg4.mono dG.size)).setCell (p:=⟨tb,1,none⟩) PK _).setCell (p:=⟨tb,2,none⟩) PK _;have oP:dt w.heap.size NF ((w4.setCell ⟨tb,1,none⟩ (.int .i64 (gs.length:Int))).setCell ⟨tb,2,none⟩ (.slice xS (dn l).length xU)) (.slice ta ys.length tc) ys:=(dt.grow hrow hg4 (fun b h=>h.elim)).gx Ap (fun cur t f hc=>by
    rw [xV] at hc;have:=(cA (bB hc)).2.1;subst this;exact ⟨by decide,by decide⟩)
   have Dg:fU w.heap.size ((w4.setCell ⟨tb,1,none⟩ (.int .i64 (gs.length:Int))).setCell ⟨tb,2,none⟩ (.slice xS (dn l).length xU)) (.slice ka gs.length kc) (kH 0 gs):=by
    have hk4:=gR.grow hg4;exact hk4.keep (fun g hg=>Ap.block g (hk4.lt hg).2.1 (fun e=>by
     obtain ⟨_,_,cur,h3⟩:=hk4.lt hg;cases e;rw [xV] at h3;exact absurd (cA (bB h3)).2.1 (by decide)))
   have Dh:aG w.heap.size ((w4.setCell ⟨tb,1,none⟩ (.int .i64 (gs.length:Int))).setCell ⟨tb,2,none⟩ (.slice xS (dn l).length xU)) (.slice xS (dn l).length xU) (dn l):=by
    have h1:=qY.mono dG.size;exact h1.keep (fun g hg=>Ap.block g (h1.lt hg).2 (fun e=>by
     obtain ⟨cur,h3⟩:=h1.block hg;cases e;rw [xV] at h3;exact absurd (cA (bB h3)).2.1 (by decide)))
   have t1:w4.cell? ⟨tb,1,none⟩=some (.int .i64 0):=by simp [World.cell?,xV]
   have t2:w4.cell? ⟨tb,2,none⟩=some (.slice none 0 0):=by simp [World.cell?,xV]
   have lt4:=af xV;have ft4:∀ i,w4.frozen? ⟨tb,i,none⟩=false:=fun i=>by simp [World.frozen?,xV]
   have H5:=ae (ah cE (ah xW (ah oP (ah Dg (ah Dh (ah bJ dX))))));clear cE Ap xW oP Dg Dh xV gR lG bJ hrow dG dX qY hg4 HS Ku t0 WA
   go_upto_region 21 with fail
   obtain ⟨w5,oq⟩:∃ W,(w4.setCell ⟨tb,1,none⟩ (.int .i64 (gs.length:Int))).setCell ⟨tb,2,none⟩ (.slice xS (dn l).length xU)=W:=⟨_,rfl⟩
   rw [oq] at H5 ⊢;clear oq t1 t2 lt4 ft4;obtain ⟨cE,xW,oP,Dg,Dh,bJ,dX⟩:=H5.out;obtain ⟨ad6,ahH⟩:∃ ad,Option.map (fun x=>Addr.add x fr) ba=ad:=⟨_,rfl⟩
   have WB:=Pn (HB.out.grow (w':=w5) xW) (i:=fr) (j:=th) (k:=th) (by omega) (by omega) (ay _) (by omega);rw [if_neg (show ¬ th=fr by omega),ahH,HP.out.idx] at WB;have ayR:(if th=fr then ba else ad6)=ad6:=if_neg (by omega);have hbl:=Fx gs;rw [PF.out] at hbl;obtain ⟨oD,JK,dA,hpl,PE,hD,sg,hen,wH⟩:=Hf.out;have dR:=OZ gs 0 PG.out;rw [PF.out,CD] at dR;have Fy:∀ g∈gs,(aZ g).length≤(aZ l).length:=fun g hg=>by
    rw [←PF.out,←agh];exact VI (List.mem_map.2 ⟨g,hg,rfl⟩)
   have jU:=VG gs 0 (fun g hg=>⟨PG.out g hg,by have:=Fy g hg;omega⟩) (by rw [Ha.out];omega);have nX:=fun W (hg:Grow w5 W)=>aeP (Dg.grow hg) jU (by rw [qT];omega) (by rw [CD];omega)
   rw [CD] at nX;have zY:=ae nX;have Di:=ae WB;have c1:(0:Int)≤(fr:Int):=by omega
   have c2:(fr:Int)≤(th:Int):=by omega
   have c3:(th:Int)≤(bc:Int):=by omega
   have kO:(iR 0 gs).length≤67108864:=by omega
   clear nX WB hbl oD JK dA hpl PE hD sg hen wH dR Fy jU cE xW oP Dg Dh bJ dX;refine bX (fun V=>Below w5.heap.size w5 V) [(0,false),(1,false),(2,false),(3,false),(4,false),(5,false),(6,true),(7,true),(8,true),(9,false),(10,false)] (by kernel_rfl) (by kernel_rfl) (fun c a d v w h=>by cases d<;>exact h) (by (repeat (first|exact Below.refl _ _|assumption|refine Below.drew ?_|refine cp ?_|refine Below.setCell ?_ (by first|omega|(simp<;>omega)) _|refine Below.alloc ?_ (by first|omega|(simp<;>omega)) _))) ?_;simp only [aP,nth]
   repeat (first|(refine aB (v:= ?_) (by rfl) ?_ ?_;rotate_left;(rintro W hW;go_simp;with_reducible rfl);simp only [ag,List.set])|(refine aC (by rfl) ?_;simp only [ag,List.set]))
   clear c1 c2 c3 ahH ayR;have hgd:=Grow.drew w5;refine bj (by rfl) (by go_simp) (zY.out w5.drew hgd) ?_;rintro e w6 ⟨xv,rfl,oK,cM⟩;have Dj:=hgd.trans cM;refine ⟨_,rfl,Dj,?_⟩
   try first|simp only [ag,List.set]|simp only [aD]
   refine bj (by rfl) (by go_simp) (Bf (cy oK) kO) ?_;rintro e w7 ⟨WC,rfl,Dm,cF⟩;have Aq:=Dj.trans cF;refine ⟨_,rfl,Aq,?_⟩
   try first|simp only [ag,List.set]|simp only [aD]
   refine bj (by rfl) (by go_simp) (RQ (Di.out.grow Aq) (cy Dm)) ?_;rintro e w8 ⟨rfl,cx⟩;have WD:=Aq.trans cx;refine ⟨_,rfl,WD,?_⟩
   try first|simp only [ag,List.set]|simp only [aD]
   try rw [decide_eq_true (rfl:bw aq (iR 0 gs)=bw aq (iR 0 gs))]
   obtain ⟨CE,xL,CF,rfl⟩:∃ a L c,xv= .slice a L c:=by obtain ⟨a,c,h⟩:=oK.slice;exact ⟨_,_,_,h⟩
   obtain ⟨yya,yL,yyc,rfl⟩:∃ a L c,WC= .slice a L c:=by obtain ⟨a,c,h⟩:=Dm.slice;exact ⟨_,_,_,h⟩
   repeat (first|(refine aB (v:= ?_) (by rfl) ?_ ?_;rotate_left;(rintro W hW;go_simp;with_reducible rfl);simp only [ag,List.set])|(refine aC (by rfl) ?_;simp only [ag,List.set]))
   refine bm ?_;have PM:=ae WD;clear WD cx Aq cF Dj cM hgd oK Dm zY Di kO
   go_upto_region 23 with fail
   obtain ⟨cE,xW,oP,Dg,Dh,bJ,dX⟩:=H5.out;have oQ:=PM.out.heap cE;have sJ:=xW.trans (PM.out.mono xW.size);have pW:=dt.grow oP PM.out (fun b h=>h.elim);have ahI:=Dh.grow PM.out;obtain ⟨ad7,ahK⟩:∃ ad,Option.map (fun x=>Addr.add x th) ba=ad:=⟨_,rfl⟩
   have ayU:(if en=th then ba else ad7)=ad7:=if_neg (by omega);have ES:=Pn (HB.out.grow (w':=w8) sJ) (i:=th) (j:=en) (k:=en) (by omega) (by omega) (ay _) (by omega);rw [if_neg (show ¬ en=th by omega),ahK,HP.out.fil] at ES;have dA:=Hf.out.2.2.1;have ahL:(dn l).length≤67108864:=by
    rw [dA];have:=Fl l l.length;unfold fP;omega
   have s0:w8.cell? ⟨tb,0,none⟩=some (.slice ta ys.length tc):=by simp [World.cell?,oQ]
   have s2:w8.cell? ⟨tb,2,none⟩=some (.slice xS (dn l).length xU):=by simp [World.cell?,oQ]
   have lt8:=af oQ;have HC7:=ae ES;have ahO:=ae ahI;have H8:=ae (ah oQ (ah sJ (ah pW (ah bJ dX))));have c1:(0:Int)≤(th:Int):=by omega
   have c2:(th:Int)≤(en:Int):=by omega
   have c3:(en:Int)≤(bc:Int):=by omega
   have ayV:=Grow.cells (w:=w8);clear cE xW oP Dg Dh oQ sJ pW ahI ES dA bJ dX s0;refine bX (fun V=>Below w8.heap.size w8 V) [(0,false),(1,false),(2,false),(3,false),(4,false),(5,false),(6,false),(7,false),(8,false),(9,true),(10,true),(11,false),(12,false)] (by kernel_rfl) (by kernel_rfl) (fun c a d v w h=>by cases d<;>exact h) (by (repeat (first|exact Below.refl _ _|assumption|refine Below.drew ?_|refine cp ?_|refine Below.setCell ?_ (by first|omega|(simp<;>omega)) _|refine Below.alloc ?_ (by first|omega|(simp<;>omega)) _))) ?_;simp only [aP,nth]
   repeat (first|(refine aB (v:= ?_) (by rfl) ?_ ?_;rotate_left;(rintro W hW;go_simp;with_reducible rfl);simp only [ag,List.set])|(refine aC (by rfl) ?_;simp only [ag,List.set]))
   clear c1 c2 c3 ahK ayU s2 lt8 ayV;have hgd:=Grow.drew w8;refine bj (by rfl) (by go_simp) (Bf (cy (ahO.out.grow hgd)) ahL) ?_;rintro e w9 ⟨WC,rfl,Dm,fW⟩;have nU:=hgd.trans fW;refine ⟨_,rfl,nU,?_⟩
   try first|simp only [ag,List.set]|simp only [aD]
   refine bj (by rfl) (by go_simp) (RQ (HC7.out.grow nU) (cy Dm)) ?_;rintro e lZ ⟨rfl,Aj⟩;have WE:=nU.trans Aj;refine ⟨_,rfl,WE,?_⟩
   try first|simp only [ag,List.set]|simp only [aD]
   try rw [decide_eq_true (rfl:bw aq (dn l)=bw aq (dn l))]
   obtain ⟨yya,yL,yyc,rfl⟩:∃ a L c,WC= .slice a L c:=by obtain ⟨a,c,h⟩:=Dm.slice;exact ⟨_,_,_,h⟩
   repeat (first|(refine aB (v:= ?_) (by rfl) ?_ ?_;rotate_left;(rintro W hW;go_simp;with_reducible rfl);simp only [ag,List.set])|(refine aC (by rfl) ?_;simp only [ag,List.set]))
   refine bm ?_;have WG:=ae WE;clear WE Aj nU fW hgd Dm HC7 ahO ahL
   go_upto_region 25 with fail
   obtain ⟨oQ,sJ,pW,bJ,dX⟩:=H8.out;obtain ⟨xQ,xR,Ao⟩:=He.out;have FW:=sJ.trans (WG.out.mono sJ.size);obtain ⟨ad8,ahP⟩:∃ ad,(if bc=um then ba else ba.map (fun x=>x.add um))=ad:=⟨_,rfl⟩
   have nJ:=rA (HB.out.grow (w':=lZ) FW) (i:=um) (j:=nT) (by omega) (by omega);have p3:=HP.out.n3;rw [←xR,←xQ] at p3;rw [ahP,p3] at nJ;have ie:=fun W (hg:Grow lZ W)=>Oc (nJ.grow hg) (by rw [kQ];decide)
   rw [Ob 8 _ (by omega)] at ie;have lJ:=ae ie;have FX:=WG.out.heap oQ;have s0:lZ.cell? ⟨tb,0,none⟩=some (.slice ta ys.length tc):=by simp [World.cell?,FX]
   have adQ:=af FX;have PN:=dt.grow pW WG.out (fun b h=>h.elim);have H10:=ae (ah FX (ah FW (ah PN bJ)));rw [dX] at s0;have PI:IntKind.i64.wrap ((en:Int)+16)=(um:Int):=by rw [aR _ (by omega)];omega
   have PH:IntKind.i64.wrap ((en:Int)+24)=(nT:Int):=by rw [aR _ (by omega)];omega
   have wul:=tW (n:=l.length) (by omega);have c1:(0:Int)≤(um:Int):=by omega
   have c2:(um:Int)≤(nT:Int):=by omega
   have c3:(nT:Int)≤(bc:Int):=by omega
   have ayY:=Grow.cells (w:=lZ);clear oQ sJ pW bJ dX xQ xR Ao FW nJ p3 ie FX PN;refine bX (fun V=>Below lZ.heap.size lZ V) [(0,false),(1,false),(2,false),(3,false),(4,false),(5,false),(7,false),(8,false),(9,false),(10,false),(11,false),(12,false),(6,true),(13,false),(14,false)] (by kernel_rfl) (by kernel_rfl) (fun c a d v w h=>by cases d<;>exact h) (by (repeat (first|exact Below.refl _ _|assumption|refine Below.drew ?_|refine cp ?_|refine Below.setCell ?_ (by first|omega|(simp<;>omega)) _|refine Below.alloc ?_ (by first|omega|(simp<;>omega)) _))) ?_;simp only [aP,nth]
   repeat (first|(refine aB (v:= ?_) (by rfl) ?_ ?_;rotate_left;(rintro W hW;go_simp;with_reducible rfl);simp only [ag,List.set])|(refine aC (by rfl) ?_;simp only [ag,List.set]))
   clear c1 c2 c3 ahP s0 adQ ayY PI PH wul;refine bj (by rfl) (by go_simp) (lJ.out lZ.drew (Grow.drew lZ)) ?_;rintro e qZ ⟨rfl,ahQ⟩;have ayZ:=ahQ.symm;subst ayZ;clear ahQ;refine ⟨_,rfl,Grow.drew lZ,?_⟩
   try first|simp only [ag,List.set]|simp only [aD]
   repeat (first|(refine aB (v:= ?_) (by rfl) ?_ ?_;rotate_left;(rintro W hW;go_simp;with_reducible rfl);simp only [ag,List.set])|(refine aC (by rfl) ?_;simp only [ag,List.set]))
   refine bm ?_;go_wp2;go_ret2;obtain ⟨FX,FW,PN,bJ⟩:=H10.out;exact ⟨tb,rfl,⟨_,_,_,ys,(Grow.drew lZ).heap FX,PK,bJ,dt.grow PN (Grow.drew lZ) (fun b h=>h.elim)⟩,FW.trans ((Grow.drew lZ).mono FW.size)⟩
  |cons g g2=>
   have wH:g≠ []:=PG.out g (by rw [ej];simp);have Fy:(aZ g).length≤(aZ l).length:=by
    rw [←fu,List.flatten_cons,qQ,qQ,List.length_append,List.length_append];omega
   have aHc:g.length≤l.length:=by rw [←fu];simp;omega
   have sG:ys.length≤l.length:=by
    have h1:=congrArg List.length bJ;rw [List.length_map] at h1;rw [h1,←fu];simp
   have hyg:ys.length+g.length≤l.length:=by
    have h1:=congrArg List.length bJ;rw [List.length_map] at h1;rw [h1,←fu];simp
   have aHe:fr<a:=by
    have:=GQ aq (aZ g);rw [bh];simp only [bN,List.flatMap_cons,List.length_append,fj];omega
   obtain ⟨ad4,aza⟩:∃ ad,Option.map (fun x=>Addr.add x fr) ba=ad:=⟨_,rfl⟩
   have hcb:=Pn (HB.out.grow (w':=wr) dG) (i:=fr) (j:=a) (k:=a) (by omega) (by omega) (ay _) (by omega);rw [if_neg (show ¬ a=fr by omega),aza,hblk] at hcb;have mE:(bN (g::g2)).length=a-fr:=by omega
   have og:=ayz (by rw [←mE] at hcb;exact hcb) (ayH g g2 (by omega)) (by have:=kT aq (aZ g);unfold fj;omega) (by simp [bN]) (by omega);rw [ayI,mE] at og;have lh:=ae og;have m1:(fr:Int)≤(a:Int):=by omega
   have m2:(a:Int)≤(bc:Int):=by omega
   have m0:(0:Int)≤(fr:Int):=by omega
   have m3:(fr:Int)<(a:Int):=by omega
   have HS:=ae (ah ej (ah gR (ah lG (ah bJ (ah hrow (ah dG (ah fu eu)))))));clear hcb og hblk bh ej gR lG bJ hrow dG fu eu mE
   go_wp2_with fail
   (with_reducible refine lh.out.mono ?_);rintro e w4 ⟨pv,rfl,hop,hg4⟩;have vO:=ayx (cy hop) wH (fun x hx=>rH x (by rw [←HS.out.2.2.2.2.2.2.1];simp [hx])) (by omega) (by omega);have CZ:=ae vO;obtain ⟨pa,pc,rfl⟩:=hop.slice;have KN:=ae hg4;clear hop vO hg4 lh
   go_wp2_with fail
   (with_reducible refine CZ.out.mono ?_);rintro e w5 ⟨ev,zs,rfl,hzs,WH,aO⟩;obtain ⟨ej,gR,lG,bJ,hrow,dG,fu,eu⟩:=HS.out;have Ar:=KN.out.trans aO;have hzl:zs.length=g.length:=by have:=congrArg List.length hzs;rwa [List.length_map] at this
   have hgp:0<g.length:=List.length_pos_iff.2 wH;have oP:dt w.heap.size NF w5 tv ys:=dt.grow hrow Ar (fun b h=>h.elim);have FY:dt w.heap.size NF w5 ev zs:=WH.mono (aN dG.size KN.out.size);have Dn:=Ar.heap lG;obtain ⟨ta,tc,rfl⟩:=hrow.slice;obtain ⟨za,zc,rfl⟩:=WH.slice;have t0:w5.cell? ⟨tb,0,none⟩=some (.slice ta ys.length tc):=by simp [World.cell?,Dn]
   have im:=af Dn;obtain ⟨m,hm⟩:∃ m,m=ys.length-1:=⟨_,rfl⟩
   have hmx:max (IntKind.i64.wrap ((ys.length:Int)-1)) 0=(m:Int):=by rw [aR _ (by omega)];omega
   have PO:IntKind.i64.wrap ((ys.length:Int)-1)=(ys.length:Int)-1:=aR _ (by omega);have azb:max ((ys.length:Int)-1) 0=(m:Int):=by omega
   have hyc:ys.length≤tc:=by
    obtain ⟨⟨_,_,he,hl,_⟩,_⟩:=oP.any;cases he;exact hl
   obtain ⟨ad5,ahR⟩:∃ ad,(if ys.length=m then ta else ta.map (fun x=>x.add (m*4)))=ad:=⟨_,rfl⟩
   have hcut:=auP oP.any (i:=m) (j:=ys.length) (k:=ys.length) (by omega) (ay _) (ay _) hyc;rw [ahR] at hcut;have aQ:((ys.drop m).take (ys.length-m))=ys.drop m:=List.take_of_length_le (by simp);rw [aQ] at hcut;have fS:(ys.drop m).length=ys.length-m:=by simp
   rw [←fS] at hcut;have ahS:cQ ((ys.drop m++zs).map Ev.e):=by
    rw [List.map_append,List.map_drop,bJ,hzs];rw [←fu,List.flatten_cons] at ho;exact ayK ho m
   have ahT:CJ ((ys.drop m++zs).map Ev.e):=by
    rw [List.map_append,List.map_drop,bJ,hzs];intro x hx;refine iQ x ?_;rw [←fu,List.flatten_cons];rcases List.mem_append.1 hx with h1|h1
    ·exact List.mem_append_left _ (List.mem_of_mem_drop h1)
    ·exact mg _ (List.mem_append_left _ h1)
   have aY:∀ W,Grow w5 W→∃ v' w',(Builtin.append_ #[57,57] 57 #[.slice ad5 (ys.length-m) (ys.length-m),.slice za g.length zc]).run Tryz.prog W= .ok v' w'∧Es NT w' v' (ys.drop m++zs)∧Grow W w':=fun W hg=>by
    have:=ayB (hcut.grow hg) (FY.any.grow hg) (by omega) (by simp;omega);rw [fS] at this;rw [←hzl];exact this
   have HRd:=ae aY;have Hop:=ae (ah ahS ahT);have HW5:=ae (ah oP (ah FY (ah Dn (ah Ar (ah hzs hzl)))));have n0:(0:Int)≤(m:Int):=by omega
   have n1:(m:Int)≤(ys.length:Int):=by omega
   have n2:(ys.length:Int)≤(tc:Int):=by omega
   have Hm:=ae hm;clear ej gR lG bJ hrow dG fu eu oP FY Dn hcut aQ fS ahS ahT aY WH Ar aO hzs CZ hm;have aze:=Grow.cells (w:=w5)
   go_upto_region 15 with fail
   refine bX (fun V=>Below w5.heap.size w5 V) [(0,false),(1,false),(2,false),(3,false),(4,false),(5,false),(6,false),(7,false),(8,false),(9,false),(10,false),(11,false),(12,false),(13,false),(14,false),(15,false),(16,false),(17,false),(18,false),(19,false),(20,false),(21,false),(22,false),(23,false),(24,false),(25,false),(26,false),(27,false),(28,false),(29,false),(30,true),(31,true),(32,false),(33,false)] (by kernel_rfl) (by kernel_rfl) (fun c a d v w h=>by cases d<;>exact h) (by (repeat (first|exact Below.refl _ _|assumption|refine Below.drew ?_|refine cp ?_|refine Below.setCell ?_ (by first|omega|(simp<;>omega)) _|refine Below.alloc ?_ (by first|omega|(simp<;>omega)) _))) ?_;simp only [aP,nth]
   repeat (first|(refine aB (v:= ?_) (by rfl) ?_ ?_;rotate_left;(rintro W hW;go_simp;with_reducible rfl);simp only [ag,List.set])|(refine aC (by rfl) ?_;simp only [ag,List.set]))
   clear t0 im aze;have hgd:=Grow.drew w5;obtain ⟨av,w6,r1,WI,cM⟩:=HRd.out w5.drew hgd;have Dj:=hgd.trans cM;refine ry (by rfl) (GH rfl rfl rfl r1) Dj ?_
   try first|simp only [ag,List.set]|simp only [aD]
   refine bj (by rfl) (by go_simp) (agf WI (by simp;have:=HW5.out.2.2.2.2.2;omega) Hop.out.1 Hop.out.2) ?_;rintro e w7 ⟨rfl,cF⟩;have Aq:=Dj.trans cF;refine ⟨_,rfl,Aq,?_⟩
   try first|simp only [ag,List.set]|simp only [aD]
   obtain ⟨aa,aL,ac,rfl⟩:∃ a L c,av= .slice a L c:=by obtain ⟨a,c,h⟩:=WI.slice;exact ⟨_,_,_,h⟩
   repeat (first|(refine aB (v:= ?_) (by rfl) ?_ ?_;rotate_left;(rintro W hW;go_simp;with_reducible rfl);simp only [ag,List.set])|(refine aC (by rfl) ?_;simp only [ag,List.set]))
   refine bm ?_;have KO:=ae Aq;clear Aq Dj hgd cM cF WI r1 HRd Hop n0 n1 n2 ahR hmx PO azb;obtain ⟨ej,gR,lG,bJ,hrow,dG,fu,eu⟩:=HS.out;obtain ⟨oP,FY,Dn,Ar,hzs,WJ⟩:=HW5.out;have ahW:=dt.grow oP KO.out (fun b h=>h.elim);have PQ:=dt.grow FY KO.out (fun b h=>h.elim);have PR:=KO.out.heap Dn;have FZ:fU w.heap.size w7 (.slice ka g1.length kc) (kH 0 g1):=gR.grow (Ar.trans KO.out);have PS:Below w.heap.size w w7:=dG.trans ((Ar.trans KO.out).mono dG.size);have ahX:=PQ.any;rw [WJ] at ahX;have ahY:=PQ.any;obtain ⟨x,xb,xo,xc',xa,xcc,hx0,dm,gi,_,_,q0,_,_,_⟩:=ahY.read (Grow.refl w7) (i:=0) (by omega);cases dm;rw [show xo+0*4=xo by omega] at q0;have hfk:x.e.key=jX g:=by
    rw [←hzs];cases zs with
    |nil=>simp at hx0
    |cons z zs=>simp at hx0;subst hx0;rfl
   rw [hfk] at q0;have aHj:g1.length≤1000000:=by
    have h1:=qT g1 0;have h2:∀ (gg:List (List En)),(∀ u∈gg,u≠ [])→gg.length≤gg.flatten.length:=by
     intro gg
     induction gg with
     |nil=>intro _;simp
     |cons u gg ih=>
      intro hu;have h3:=ih (fun v hv=>hu v (gz _ hv));have h4:0<u.length:=List.length_pos_iff.2 (hu u (eQ ..));rw [List.flatten_cons,List.length_append,List.length_cons];omega
    have h3:=h2 g1 (fun u hu=>PG.out u (by rw [ej];exact List.mem_append_left _ hu));have h4:g1.flatten.length≤l.length:=by rw [←fu];simp
    omega
   obtain ⟨kg,VM,w8,r8,EB,vU⟩:=aeM FZ ⟨jX g,fr,(fj g).length⟩ PS.size (by rw [qT];omega);rw [qT] at r8 EB;dsimp only [Fi,fj] at r8;have pW:=ahW.CX FZ vU;have aia:=PQ.CX FZ vU;have sJ:Below w.heap.size w w8:=Below.grown PS vU PS.size (fun g hg=>(FZ.lt hg).1);have oQ:w8.heap[tb]?=some (.cells #[.slice ta ys.length tc,.int .i64 0,.slice none 0 0] 251 (0,0)):=(vU.block tb (af PR) (fun e=>by
    obtain ⟨_,_,cur,h3⟩:=FZ.lt e.symm;rw [PR] at h3;exact absurd (cA (bB h3)).2.1 (by decide))).trans PR
   obtain ⟨eg,WK,w9,r9,KP,PT⟩:=ayC pW aia (by omega) sJ.size (by omega);rw [WJ] at r9 KP;have PU:=EB.ayJ pW PT;have aib:Below w.heap.size w w9:=Below.grown sJ PT sJ.size (fun g hg=>(xC pW hg).1);have Dp:w9.heap[tb]?=some (.cells #[.slice ta ys.length tc,.int .i64 0,.slice none 0 0] 251 (0,0)):=(PT.block tb (af oQ) (fun e=>by
    obtain ⟨_,cur,h3⟩:=xC pW e.symm;rw [oQ] at h3;exact absurd (cA (bB h3)).2.1 (by decide))).trans oQ
   have aic:=Go.Gl.aI Dp 0 (.slice (some ⟨eg,0,none⟩) (ys.length+g.length) WK);have Ap:GX tb w9 (w9.setCell ⟨tb,0,none⟩ (.slice (some ⟨eg,0,none⟩) (ys.length+g.length) WK)):=Go.Gl.iJ _ _ _ _;have hrel:Wx w gs tb (.slice (some ⟨kg,0,none⟩) (g1.length+1) VM) (.int .i64 ((fr:Int)+((fj g).length:Int))) (w9.setCell ⟨tb,0,none⟩ (.slice (some ⟨eg,0,none⟩) (ys.length+g.length) WK)):=by
    refine ⟨g1++ [g],g2,_,ys++zs,by rw [ej];simp,?_,?_,aic,?_,?_,aib.setCell (p:=⟨tb,0,none⟩) PK _⟩
    ·rw [JJ,List.length_append,eu];simp [bN,fj]
    ·rw [UQ,eu,Nat.zero_add]
     exact PU.keep (fun g hg=>Ap.block g (PU.lt hg).2.1 (fun e=>by
      obtain ⟨_,_,cur,h3⟩:=PU.lt hg;cases e;rw [Dp] at h3;exact absurd (cA (bB h3)).2.1 (by decide)))
    ·rw [List.map_append,bJ,hzs];simp
    ·exact KP.gx Ap (fun cur t f hc=>by
      rw [Dp] at hc;have:=(cA (bB hc)).2.1;subst this;exact ⟨by decide,by decide⟩)
   have R8:=ae r8;have R9:=ae r9;have bq:=ae hrel;have qH:w8.cell? ⟨tb,0,none⟩=some (.slice ta ys.length tc):=by simp [World.cell?,oQ]
   have lt8:=af oQ;have vV:w9.cell? ⟨tb,0,none⟩=some (.slice ta ys.length tc):=by simp [World.cell?,Dp]
   have TA:=af Dp;have TB:∀ i,w9.frozen? ⟨tb,i,none⟩=false:=fun i=>by simp [World.frozen?,Dp]
   have aHk:(fj g).length≤60000000:=by
    have h1:=VE g;omega
   have aHl:0<(fj g).length:=GQ aq (aZ g);have wfr:IntKind.i64.wrap ((fr:Int)+((fj g).length:Int))=(fr:Int)+((fj g).length:Int):=aR _ (by omega);have hg0:(0:Int)<(g.length:Int):=by omega
   clear ej gR lG bJ hrow dG fu eu oP FY Dn Ar hzs WJ ahW PQ PR FZ PS ahX ahY hx0 hfk r8 EB vU pW aia sJ oQ r9 KP PT PU aib Dp aic Ap hrel hzl
   go_upto_region 18 with (at_builtin;refine fC rfl rfl rfl rfl R8.out ?_)
   go_wp2_with (at_builtin;refine fC rfl rfl rfl rfl R9.out ?_)
   go_roundw
   case rel=>exact bq.out
   case measure=>simp [intOf];omega
abbrev encI:Int→Value:=Value.int .i64
structure PV (w:World) (tm:Nat) (g:Int→Option Value) (m n:Nat) (l:List En) (w':World) (tb:Nat):Prop where
 map:fA w' tm encI (vT g (n:Int) (.pointer (some ⟨tb,0,none⟩))) (m+1)
 sst:sI w.heap.size w' tb l
 gx:GX tm w w'
theorem sI.gx {B:Nat} {W W':World} {tb r:Nat} {l:List En} (h:sI B W tb l) (hg:GX r W W') (hr:∀ cur t f,W.heap[r]?≠some (.cells cur t f)):sI B W' tb l:=by
 obtain ⟨v,fv,nb,ys,h1,h2,h3,h4⟩:=h;refine ⟨v,fv,nb,ys,hg.heap h1 (fun e=>hr _ _ _ (e ▸ h1)),h2,h3,h4.keep hg.size (fun _ hb=>hb.elim) (fun b cur t f _ _ hc=>hg.heap hc (fun e=>hr _ _ _ (e ▸ hc)))⟩
theorem fA.WL {w:World} {r:Nat} {enc:Int→Value} {g:Int→Option Value} {m:Nat} (h:fA w r enc g m):∀ cur t f,w.heap[r]?≠some (.cells cur t f):=by
 obtain ⟨l,c,h1,_⟩:=h;intro cur t f e;unfold Go.Gl.MapAt at h1;rw [h1] at e;cases e
theorem aie {N Z B:Nat} {w:World} {p r:Nat} {f:Lk} {T K:Nat} {F:Nat→Prop} {db sb:Nat} {o:Od} {drv lv:Value} {mb tm seq hm:Nat} {tv:Value} {V:bu} {k:Int} (hC:dT w db sb o drv lv mb tm seq hm) (hS:dy w sb p tv V k) (hD:Dl Z B w p r f T K F) (hN:cI N B w) {n:Nat} (hn:n<N) (h6:n<1000000)
  {l:List En} {size:Nat} (hf:f (dF n)=some (fN (dM size [] l) l.length (dn l),(fN (dM size [] l) l.length (dn l)).length)) (hne:l≠ []) (ho:cQ l) (iQ:CJ l) (rH:∀ x∈l,De x) (hlen:l.length≤1000000) (mQ:(aZ l).length+30*l.length≤50000000)
  {g:Int→Option Value} {m:Nat} (hM:fA w tm encI g m):
  Calls Tryz.prog 51 #[.pointer (some ⟨db,0,none⟩),.int .i64 (n:Int)] w fun e w'=>e= .returned .nilIface∧∃ tb,PV w tm g m n l w' tb:=by
 have Hf:=ae hf;have hop:=fun (W:World) (bv:Value) (hb:Bv W bv (fN (dM size [] l) l.length (dn l)))=>ayL hb hne ho iQ rH hlen mQ
 have Hop:=ae hop;obtain ⟨c0,_,_,_,_,_,_,bA⟩:=hC.cells;obtain ⟨s0,_,_,_,_,_,lM⟩:=hS.cells;have HC:=ae hC;have HS:=ae hS;have HD:=ae hD;have HN:=ae hN;have HM:=ae hM;clear hC hS hD hN hM hf hop ho iQ rH mQ;generalize fN (dM size [] l) l.length (dn l)=D at*;go_enter Tryz.func51,Tryz.ntmps51
 go_wp2_with fail
 refine bX (fun W=>W.cell? ⟨db,0,none⟩=some (.pointer (some ⟨sb,0,none⟩))∧db<W.heap.size∧W.cell? ⟨sb,0,none⟩=some (.pointer (some ⟨p,0,none⟩))∧sb<W.heap.size) [(0,false),(1,false),(2,false),(3,false),(4,false),(5,false),(6,false),(7,false),(8,true),(9,true),(10,false),(11,false),(12,false),(13,false),(14,false)] (by kernel_rfl) (by kernel_rfl) (fun c a d v w h=>by cases d<;>exact h) ⟨by simpa using c0,by simpa using bA,by simpa using s0,by simpa using lM⟩ ?_;simp only [aP,nth];clear c0 bA s0 lM
 repeat (first|(refine aB (v:= ?_) (by rfl) ?_ ?_;rotate_left;(rintro W ⟨hW0,hW1,hW2,hW3⟩;go_simp;with_reducible rfl);simp only [ag,List.set])|(refine aC (by rfl) ?_;simp only [ag,List.set]))
 have hgd:=Grow.drew w;refine bj (by rfl) (by go_simp) (VW (HN.out.grow hgd HD.out.base) hn h6) ?_;rintro e w1 ⟨rfl,hg1⟩;have KQ:=hgd.trans hg1;obtain ⟨c0,_,_,_,_,_,_,bA⟩:=(HC.out.grow KQ).cells;obtain ⟨s0,_,_,_,_,_,lM⟩:=(HS.out.grow KQ).cells;refine ⟨_,rfl,⟨c0,bA,s0,lM⟩,?_⟩
 try first|simp only [ag,List.set]|simp only [aD]
 have aY:=II (HD.out.grow KQ) (dF n);rw [Hf.out] at aY;refine bj (by rfl) (by go_simp) aY ?_;rintro e w2 ⟨⟨bv,rfl,bg⟩,hg2⟩;have nV:=KQ.trans hg2;obtain ⟨c0,_,_,_,_,_,_,bA⟩:=(HC.out.grow nV).cells;obtain ⟨s0,_,_,_,_,_,lM⟩:=(HS.out.grow nV).cells;refine ⟨_,rfl,⟨c0,bA,s0,lM⟩,?_⟩;have Hc:=ae (Hop.out w2 bv (cy bg));obtain ⟨ba,bL,bc,rfl⟩:∃ a L c,bv= .slice a L c:=by obtain ⟨a,c,h⟩:=bg.slice;exact ⟨_,_,_,h⟩
 have PW:=ae nV;clear aY bg hg2 nV KQ hg1 hgd c0 bA s0 lM
 try first|simp only [ag,List.set]|simp only [aD]
 repeat (first|(refine aB (v:= ?_) (by rfl) ?_ ?_;rotate_left;(rintro W ⟨hW0,hW1,hW2,hW3⟩;go_simp;with_reducible rfl);simp only [ag,List.set])|(refine aC (by rfl) ?_;simp only [ag,List.set]))
 refine bm ?_
 go_wp2_with fail
 (with_reducible refine Hc.out.mono ?_);rintro e w3 ⟨tb,rfl,hst,hg3⟩;have xX:=PW.out.trans hg3;obtain ⟨_,_,_,_,c9,_,_,bA⟩:=(HC.out.grow xX).cells;obtain ⟨w4,xN,xm,hgx⟩:=ayv Wt Tryz.underlying90 (HM.out.grow xX) (n:Int) (.pointer (some ⟨tb,0,none⟩));have BD:=(HM.out.grow xX).WL;obtain ⟨sv,sfv,snb,sys,sh1,sh2,sh3,PX⟩:=hst;have aij:sI w.heap.size w3 tb l:=⟨sv,sfv,snb,sys,sh1,aN PW.out.size sh2,sh3,⟨⟨PX.1.1,by
  rcases PX.1.2 with h1|⟨g',cap,cur,h1,hB,jO⟩
  ·exact .inl h1
  ·exact .inr ⟨g',cap,cur,h1,aN PW.out.size hB,jO⟩⟩,fun y hy=>by
   obtain ⟨q1,q2⟩:=PX.2 y hy;exact ⟨q1,q2.imp id (fun q3 b hb=>(q3 b hb).imp id (fun q4=>⟨aN PW.out.size q4.1,q4.2⟩))⟩⟩⟩
 have hl:PV w tm g m n l w4 tb:=⟨xm,aij.gx hgx BD,(GX.of xX).trans hgx⟩
 have Hl:=ae hl;clear aij hl xm hgx BD hg3 xX sh1 sh2 sh3 PX;go_wp2;go_ret;exact ⟨rfl,tb,Hl.out⟩
end Go.Proofs.YtoolkdapflaeeaaGreatDoor
