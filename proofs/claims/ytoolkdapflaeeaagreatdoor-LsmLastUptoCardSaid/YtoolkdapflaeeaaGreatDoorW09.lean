/- Helpers. -/
import Derived.Deep.CutRange
import Derived.Deep.DeepCutAuto
import Derived.Test.YtoolkdapflaeeaaGreatDoorW08
import Derived.Test.YtoolkdapflaeeaaGreatDoorW07
import Derived.Test.YtoolkdapflaeeaaGreatDoorW00
set_option maxRecDepth 100000
set_option maxHeartbeats 16000000
namespace Go.Proofs.YtoolkdapflaeeaaGreatDoor
open Go.RowKit Go.Gl Go.aH Mn
def BZ (B tb:Nat) (bv:Value) (L:List UInt8) (n4:Nat) (f2 f3:ByteArray) (j:Nat) (v:Value) (W:World):Prop:=
 match j with
 |0=>v=bv
 |1=>v= .pointer (some ⟨tb,2,none⟩)
 |2=>v= .string f2
 |3=>Bv W v f2.data.toList
 |4=>∃ (q:Nat) (pv:Value),v= .slice (some ⟨q,0,none⟩) 1 1∧W.heap[q]?=some (.cells #[pv] 49 (0,0))∧Bv W pv f2.data.toList
 |5=>aG B W v (L++aU f2.data.toList)
 |6=>v= .pointer (some ⟨tb,3,none⟩)
 |7=>v= .string f3
 |8=>Bv W v f3.data.toList
 |9=>∃ (q:Nat) (pv:Value),v= .slice (some ⟨q,0,none⟩) 1 1∧W.heap[q]?=some (.cells #[pv] 49 (0,0))∧Bv W pv f3.data.toList
 |10=>aG B W v (L++aU f2.data.toList++aU f3.data.toList)
 |11=>v= .pointer (some ⟨tb,4,none⟩)
 |12=>v= .int .i64 (n4:Int)
 |13=>v= .int .u64 (n4:Int)
 |14=>aG B W v (L++aU f2.data.toList++aU f3.data.toList++aA n4)
 |15=>aG B W v (L++aU f2.data.toList++aU f3.data.toList++aA n4)
 |_=>True
theorem BZ.keep {B tb:Nat} {bv:Value} {L:List UInt8} {n4:Nat} {f2 f3:ByteArray}:∀ (j:Nat) (v:Value) (W W':World),Grow W W'→BZ B tb bv L n4 f2 f3 j v W→BZ B tb bv L n4 f2 f3 j v W':=by
 intro j v W W' hR h;unfold BZ at h
 split at h<;>first
  |exact h
  |exact Bv.grow h hR
  |exact Row1.grow h hR
  |(obtain ⟨q,pv,h1,h2,h3⟩:=h;exact ⟨q,pv,h1,hR.heap h2,h3.grow hR⟩)
  |(unfold BZ;split<;>first|trivial|(exfalso;simp_all))
def lB (w5:World) (bv:Value) (l:Array Bool) (a:Act) (W:World):Prop:=Grow w5 W∧(l.getD 15 false=false→a.tmps[3]?=some bv)
theorem lB.next {w5:World} {bv:Value} {l:Array Bool} {a:Act} {W W':World} {i d:Nat} {v:Value} (h:lB w5 bv l a W) (hi:i≠15) (hd:d≠3) (hg:Grow W W'):lB w5 bv (l.setIfInBounds i true) (a.put (some d) v) W':=
 ⟨h.1.trans hg,fun hl=>ix hd (h.2 (by rw [getD_set_ne false hi] at hl;exact hl))⟩
theorem lO (x:List UInt8):(aU x).length≤x.length+10:=by
 have:=cf x.length;simp only [aU,List.length_append];omega
def TJ (w:World) (l:List Tb) (pre:List UInt8) (bv iv:Value) (wr:World):Prop:=
 ∃ i:Nat,iv= .int .i64 i∧i≤l.length∧aG w.heap.size wr bv (pre++(l.take i).flatMap il)∧Grow w wr
def TK (w:World) (l:List Int) (pre:List UInt8) (bv iv:Value) (wr:World):Prop:=
 ∃ i:Nat,iv= .int .i64 i∧i≤l.length∧aG w.heap.size wr bv (pre++(l.take i).flatMap jQ)∧Grow w wr
theorem TL {α:Type} {l:List α} {i:Nat} {x:α} (f:α→List UInt8) (h:l[i]?=some x):(l.take (i+1)).flatMap f=(l.take i).flatMap f++f x:=by
 rw [BK h,List.flatMap_append];simp
theorem tK {n:Nat} (h:n<18446744073709551616):IntKind.u64.wrap (n:Int)=(n:Int):=by simp [IntKind.wrap,IntKind.bits,IntKind.signed];omega
theorem asF {w:World} {av dv:Value} {E:cr} (hf:zm E) (hA:rV w av E.add) (hD:Ints w dv E.drop) (hk:iC E.add≤1000000000):
  Calls Tryz.prog 112 #[.agg (cV av dv E.seq E.next E.aj)] w fun e w'=>∃ v,e= .returned v∧aG w.heap.size w' v (cP E)∧Grow w w':=by
 obtain ⟨aa,ac,rfl,qI⟩:=hA;obtain ⟨da,dc,rfl,zx,hdr⟩:=hD;have vg:=aw w (.cells (cV (.slice aa E.add.length ac) (.slice da E.drop.length dc) E.seq E.next E.aj) 148);have ai:Grow w (w.alloc (.cells (cV (.slice aa E.add.length ac) (.slice da E.drop.length dc) E.seq E.next E.aj) 148)):=Grow.alloc _ _;have np:=hf.MR;have fS:=hf.MS;have wu:=tK (n:=E.add.length) (by omega);have ie:=nd (w:=w.alloc (.cells (cV (.slice aa E.add.length ac) (.slice da E.drop.length dc) E.seq E.next E.aj) 148)) (bv:= .slice none 0 0) (l:= []) ⟨none,0,rfl,ay _,bk _,fun _=>rfl,.inl rfl⟩ (by simp) (n:=E.add.length) (by omega);obtain ⟨e0,e1,e2,e3,e4⟩:=cw vg;have le:=af vg;have lJ:=ae ie;have Nj:=ae vg;have bT:=ae ai;have TM:=ae qI;have pz:=ae hdr;have Hf:=ae hf;clear vg ai qI hdr ie hf;go_enter Tryz.func112,Tryz.ntmps112
 go_wp2_with fail
 generalize w.alloc (.cells (cV (.slice aa E.add.length ac) (.slice da E.drop.length dc) E.seq E.next E.aj) 148)=w1 at*;(with_reducible refine lJ.out.mono ?_);rintro e w2 ⟨nv,rfl,eU,hg2⟩;have hb2:=hg2.heap Nj.out;clear e0 e1 e2 e3 e4 le;obtain ⟨e0,e1,e2,e3,e4⟩:=cw hb2;have Je:=af hb2;have bI:Hid (TJ w1 E.add (aA E.add.length) nv (.int .i64 0) w2):=ae ⟨0,rfl,bk _,by simpa using eU,hg2⟩;obtain ⟨na,nc,rfl⟩:=eU.slice;clear eU hg2 hb2 lJ
 go_wp2_with fail
 go_loopw [3,16] (fun bv iv wr=>TJ w1 E.add (aA E.add.length) bv iv wr) (fun _ iv _=>E.add.length-(intOf iv).toNat)
 case atStart=>exact bI.out
 case round=>
  obtain ⟨i,rfl,hi,hown,hg⟩:=hrel;clear e0 e1 e2 e3 e4 Je;have eI:=hg.heap Nj.out;by_cases hlt:i<E.add.length
  ·obtain ⟨t,ht⟩:∃ t,E.add[i]?=some t:=⟨E.add[i],by simp [hlt]⟩
   obtain ⟨b,o,rfl,hbl,aY⟩:∃ b o,aa=some ⟨b,o,none⟩∧b<w.heap.size∧Rd w b o ig 5 E.add:=by
    rcases TM.out with h1|h1
    ·rw [h1] at hlt;simp at hlt
    ·exact h1
   have gh:=bT.out.trans hg;have gW:=aY.grow hbl gh i t ht;have oY:=Hf.out.adds t (dY ht);have df:=TL il ht;have EF:=abP (dY ht);have hpl:((E.add.take i).flatMap il).length≤50*i+iC E.add:=by
    have h1:=MX (E.add.take i);have h2:=arI E.add i;rw [List.length_take] at h1;omega
   obtain ⟨f0,f1,f2,f3,f4⟩:=t;obtain ⟨n0,rfl⟩:∃ n:Nat,f0=n:=⟨f0.toNat,(Int.toNat_of_nonneg oY.file.1).symm⟩
   obtain ⟨n1,rfl⟩:∃ n:Nat,f1=n:=⟨f1.toNat,(Int.toNat_of_nonneg oY.level.1).symm⟩
   obtain ⟨n4,rfl⟩:∃ n:Nat,f4=n:=⟨f4.toNat,(Int.toNat_of_nonneg oY.size.1).symm⟩
   have m0:n0≤1099511627776:=by have:=oY.file.2;exact Int.ofNat_le.1 this
   have m1:n1≤1099511627776:=by have:=oY.level.2;exact Int.ofNat_le.1 this
   have m4:n4≤1099511627776:=by have:=oY.size.2;exact Int.ofNat_le.1 this
   have m2:f2.size≤67108864:=oY.first;have m3:f3.size≤67108864:=oY.last;have m2':f2.data.toList.length≤67108864:=by rw [Array.length_toList];exact m2
   have m3':f3.data.toList.length≤67108864:=by rw [Array.length_toList];exact m3
   have k2:=lO f2.data.toList;have k3:=lO f3.data.toList;have acM:(E.add.take (i+1)).flatMap il=(E.add.take i).flatMap il++(aA n0++(aA n1++(aU f2.data.toList++(aU f3.data.toList++aA n4)))):=df;have lQ:=ae acM;have a0:=gW 0 _ rfl;have a1:=gW 1 _ rfl;have a2:=gW 2 _ rfl;have a3:=gW 3 _ rfl;have a4:=gW 4 _ rfl;simp only [Nat.add_zero] at a0;dsimp only at a0 a1 a2 a3 a4;have lb:b<wr.heap.size:=cj hbl gh.size;have dJ:(i:Int)<(E.add.length:Int):=by omega
   have bK:(0:Int)≤(i:Int):=by omega
   have eE:IntKind.i64.wrap ((i:Int)+1)=(i:Int)+1:=aR _ (by omega);have wu0:=tK (n:=n0) (by omega);have wu1:=tK (n:=n1) (by omega);have wu4:=tK (n:=n4) (by omega);have dp:(wr.alloc (.cells #[.int .i64 (n0:Int),.int .i64 (n1:Int),.string f2,.string f3,.int .i64 (n4:Int)] 101)).heap[wr.heap.size]?=some (.cells #[.int .i64 (n0:Int),.int .i64 (n1:Int),.string f2,.string f3,.int .i64 (n4:Int)] 101 (0,0)):=aw _ _;have aM:Grow wr (wr.alloc (.cells #[.int .i64 (n0:Int),.int .i64 (n1:Int),.string f2,.string f3,.int .i64 (n4:Int)] 101)):=Grow.alloc _ _;obtain ⟨PL,zy⟩:∃ x,x=aA E.add.length++(E.add.take i).flatMap il:=⟨_,rfl⟩
   rw [←zy] at hown;have eT:=ae (hown.grow aM);obtain ⟨ba,bc,rfl⟩:=hown.slice;have aDY:PL.length≤5000000000:=by rw [zy];have:=cf E.add.length;simp only [List.length_append];omega
   have TN:=ae zy;have HG:=ae (hg.trans aM);clear hown hg gh aY gW df acM EF hpl oY ht zy eI
   go_upto_region 5 with fail
   clear a0 a1 a2 a3 a4 lb aM;generalize wr.alloc (.cells #[.int .i64 (n0:Int),.int .i64 (n1:Int),.string f2,.string f3,.int .i64 (n4:Int)] 101)=w3 at*;generalize wr.heap.size=tb at*;obtain ⟨t0,t1,t2,t3,t4⟩:=cw dp;have Ja:=af dp;have aQ:=Grow.cells (w:=w3);have fw:=ae dp;clear dp;refine bX (fun W=>Below w3.heap.size w3 W) [(0,false),(1,false),(2,false),(3,false),(5,false),(6,false),(7,false),(4,true),(8,true),(9,false)] (by kernel_rfl) (by kernel_rfl) (fun c a d v w h=>by cases d<;>exact h) (Grow.drew _) ?_;simp only [aP,nth]
   repeat (first|(refine aB (v:= ?_) (by rfl) ?_ ?_;rotate_left;(rintro W hW;go_simp;with_reducible rfl);simp only [ag,List.set])|(refine aC (by rfl) ?_;simp only [ag,List.set]))
   have hgd:=Grow.drew w3;refine bj (by rfl) (by go_simp) (nd (cy (eT.out.grow hgd)) (by omega) (n:=n0) (by omega)) ?_;rintro e w4 ⟨v4,rfl,jr,hg4⟩;refine ⟨_,rfl,hgd.trans hg4,?_⟩
   try first|simp only [ag,List.set]|simp only [aD]
   refine bj (by rfl) (by go_simp) (nd (cy jr) (by have:=cf n0;simp;omega) (n:=n1) (by omega)) ?_;rintro e w5 ⟨v5,rfl,fE,aO⟩;have wW:Grow w3 w5:=(hgd.trans hg4).trans aO;refine ⟨_,rfl,wW,?_⟩
   try first|simp only [ag,List.set]|simp only [aD]
   obtain ⟨L5,Nk⟩:∃ x,x=PL++aA n0++aA n1:=⟨_,rfl⟩
   rw [←Nk] at fE;have aDZ:L5.length≤6000000000:=by rw [Nk];have:=cf n0;have:=cf n1;simp only [List.length_append];omega
   have HL5:=ae Nk;obtain ⟨va,vL,vc,rfl⟩:∃ a L c,v5= .slice a L c:=by obtain ⟨a,c,h⟩:=fE.slice;exact ⟨_,_,_,h⟩
   repeat (first|(refine aB (v:= ?_) (by rfl) ?_ ?_;rotate_left;(rintro W hW;go_simp;with_reducible rfl);simp only [ag,List.set])|(refine aC (by rfl) ?_;simp only [ag,List.set]))
   refine bm ?_;have Nl:=wW.heap fw.out;have Jf:=ae fE;have HG5:=ae (HG.out.trans wW);clear jr hg4 hgd Nk fE wW t0 t1 t2 t3 t4 Ja aQ;obtain ⟨t0,t1,t2,t3,t4⟩:=cw Nl;have im:=af Nl;have TP:=ae Nl;clear Nl
   go_wp2_with fail
   refine uD (fun a0 ha0=> ?_);have F3:a0.tmps[3]?=some (.slice va vL vc):=by rw [ha0];rfl
   have F5:a0.tmps[5]?=some (.pointer (some ⟨tb,0,none⟩)):=by rw [ha0];rfl
   have hsz:a0.tmps.size=75:=by rw [ha0];rfl
   have mC:=ae ha0;clear ha0;refine uG (BZ w5.heap.size tb (.slice va vL vc) L5 n4 f2 f3) (lB w5 (.slice va vL vc)) Grow [3,29,30,31,32,33,34,35,36,37,38,39,40,41,42,43] (by kernel_rfl) (by kernel_rfl) (by rw [hsz];rfl) BZ.keep ⟨Grow.drew _,fun _=>F3⟩ ?_ (fun a1 W1 hf=> ?_);rotate_left
   ·obtain ⟨v,hv,hq⟩:=hf.slot 15 3 (by rfl) (by rfl)
    have hG:Grow w5 W1:=hf.world.1;have hq':aG w5.heap.size W1 v (L5++aU f2.data.toList++aU f3.data.toList++aA n4):=hq;have e:=hf.alike.fill;rw [mC.out] at e;simp only [List.foldl_cons,List.foldl_nil,Act.put,List.setIfInBounds_toArray,List.set_cons_zero,List.set_cons_succ] at e;have h3:a1.tmps.getD 3 undef=v:=by rw [fI,hv];rfl
    obtain ⟨u29,zA⟩:∃ u,a1.tmps.getD 29 undef=u:=⟨_,rfl⟩
    obtain ⟨u30,zB⟩:∃ u,a1.tmps.getD 30 undef=u:=⟨_,rfl⟩
    obtain ⟨u31,zC⟩:∃ u,a1.tmps.getD 31 undef=u:=⟨_,rfl⟩
    obtain ⟨u32,zD⟩:∃ u,a1.tmps.getD 32 undef=u:=⟨_,rfl⟩
    obtain ⟨u33,zE⟩:∃ u,a1.tmps.getD 33 undef=u:=⟨_,rfl⟩
    obtain ⟨u34,Jg⟩:∃ u,a1.tmps.getD 34 undef=u:=⟨_,rfl⟩
    obtain ⟨u35,h35⟩:∃ u,a1.tmps.getD 35 undef=u:=⟨_,rfl⟩
    obtain ⟨u36,h36⟩:∃ u,a1.tmps.getD 36 undef=u:=⟨_,rfl⟩
    obtain ⟨u37,h37⟩:∃ u,a1.tmps.getD 37 undef=u:=⟨_,rfl⟩
    obtain ⟨u38,h38⟩:∃ u,a1.tmps.getD 38 undef=u:=⟨_,rfl⟩
    obtain ⟨u39,Jh⟩:∃ u,a1.tmps.getD 39 undef=u:=⟨_,rfl⟩
    obtain ⟨u40,Ji⟩:∃ u,a1.tmps.getD 40 undef=u:=⟨_,rfl⟩
    obtain ⟨u41,Jj⟩:∃ u,a1.tmps.getD 41 undef=u:=⟨_,rfl⟩
    obtain ⟨u42,Jk⟩:∃ u,a1.tmps.getD 42 undef=u:=⟨_,rfl⟩
    obtain ⟨u43,Jl⟩:∃ u,a1.tmps.getD 43 undef=u:=⟨_,rfl⟩
    rw [h3,zA,zB,zC,zD,zE,Jg,h35,h36,h37,h38,Jh,Ji,Jj,Jk,Jl] at e;clear h3 hv hq hf zA zB zC zD zE Jg h35 h36 h37 h38 Jh Ji Jj Jk Jl;rw [e];clear e mC F3 F5 hsz;obtain ⟨xa,xL,xc,rfl⟩:∃ a L c,v= .slice a L c:=by obtain ⟨a,c,h⟩:=hq'.slice;exact ⟨_,_,_,h⟩
    have bq:Hid (TJ w1 E.add (aA E.add.length) (.slice xa xL xc) (.int .i64 ((i:Int)+1)) W1):=ae ⟨i+1,by simp,hlt,by
     have h1:=hq'.mono HG5.out.size;rw [HL5.out,TN.out] at h1;rw [lQ.out];simpa [List.append_assoc] using h1,HG5.out.trans hG⟩
    clear hq' hG t0 t1 t2 t3 t4 im;go_wp2;go_roundw
    case rel=>exact bq.out
    case measure=>simp [intOf];omega
   refine ⟨?_,?_,?_,?_,?_,?_,?_,?_,?_,?_,?_,?_,?_,?_,?_,?_,True.intro⟩
   ·intro listed a W hf ar ak
    have hs1:a.tmps.size=75:=hf.alike.size.trans hsz;have hT:=hf.world;have hG:Grow w5 W:=hT.1;have asO:=dZ hf.closed (n:=8) (e:=15) (i:=0) (by kernel_rfl) ar;have G3:a.tmps[3]'(by rw [hs1];decide)= .slice va vL vc:=ax (hT.2 asO) _;refine aX rfl (by rfl) (fun K' hK'=> ?_);go_simp;exact hK' _ _ ⟨_,rfl,(fun _ _=>rfl),Grow.refl _,lB.next hT (by decide) (by decide) (Grow.refl _)⟩
   ·intro listed a W hf ar ak
    have hs1:a.tmps.size=75:=hf.alike.size.trans hsz;have hT:=hf.world;have hG:Grow w5 W:=hT.1;have G5:a.tmps[5]'(by rw [hs1];decide)= .pointer (some ⟨tb,0,none⟩):=ax ((hf.alike.same 5 (by decide)).trans F5) _;refine aX rfl (by rfl) (fun K' hK'=> ?_);go_simp;exact hK' _ _ ⟨_,rfl,(fun _ _=>rfl),Grow.refl _,lB.next hT (by decide) (by decide) (Grow.refl _)⟩
   ·intro listed a W hf ar ak
    have hs1:a.tmps.size=75:=hf.alike.size.trans hsz;have hT:=hf.world;have hG:Grow w5 W:=hT.1;obtain ⟨v1,s1,q1⟩:=hf.slot 1 30 rfl (aJ ak 1 (by kernel_rfl));have kn:v1=_:=q1;subst kn;have G30:=ax s1 (by rw [hs1];decide);have hb:=hG.heap TP.out;obtain ⟨Ca,Cb,Cc,TQ,t4'⟩:=cw hb;have lb:=af hb;refine aX rfl (by rfl) (fun K' hK'=> ?_);go_simp;exact hK' _ _ ⟨_,rfl,(fun _ _=>rfl),Grow.refl _,lB.next hT (by decide) (by decide) (Grow.refl _)⟩
   ·intro listed a W hf ar ak
    have hs1:a.tmps.size=75:=hf.alike.size.trans hsz;have hT:=hf.world;have hG:Grow w5 W:=hT.1;obtain ⟨v2,s2,q2⟩:=hf.slot 2 31 rfl (aJ ak 2 (by kernel_rfl));have od:v2=_:=q2;subst od;have G31:=ax s2 (by rw [hs1];decide);obtain ⟨cap,W2,zt,bg,hg2⟩:=yZ f2 (by omega) W;refine aX rfl (by rfl) (fun K' hK'=> ?_);go_simp;exact hK' _ _ ⟨_,rfl,(fun _ _=>bg),hg2,lB.next hT (by decide) (by decide) hg2⟩
   ·intro listed a W hf ar ak
    have hs1:a.tmps.size=75:=hf.alike.size.trans hsz;have hT:=hf.world;have hG:Grow w5 W:=hT.1;obtain ⟨v3,s3,q3⟩:=hf.slot 3 32 rfl (aJ ak 3 (by kernel_rfl));have G32:=ax s3 (by rw [hs1];decide);have pG:Bv W v3 f2.data.toList:=q3;obtain ⟨xa,xc,rfl⟩:=pG.slice;have hg2:Grow W (W.alloc (.cells #[.slice xa f2.data.toList.length xc] 49)):=Grow.alloc _ _;refine Bc rfl (by rfl) (ru (v:= .slice xa f2.data.toList.length xc) rfl Tryz.underlying131 Tryz.wE rfl (by show a.tmps.getD 32 undef=_;rw [fI,s3];rfl) rfl) ?_;exact ⟨_,rfl,(fun _ _=>⟨W.heap.size,_,rfl,aw _ _,pG.grow hg2⟩),hg2,lB.next hT (by decide) (by decide) hg2⟩
   ·intro listed a W hf ar ak
    have hs1:a.tmps.size=75:=hf.alike.size.trans hsz;have hT:=hf.world;have hG:Grow w5 W:=hT.1;obtain ⟨v0,s0,q0⟩:=hf.slot 0 29 rfl (aJ ak 0 (by kernel_rfl));have kZ:v0=_:=q0;subst kZ;have G29:=ax s0 (by rw [hs1];decide);obtain ⟨v4,s4,qb,pv,q4,qJ,mY⟩:=hf.slot 4 33 rfl (aJ ak 4 (by kernel_rfl));subst q4;have G33:=ax s4 (by rw [hs1];decide);refine jc rfl (by rfl) (by go_simp) (BG (cy (Jf.out.grow hG)) (by omega) qJ mY (by omega)) ?_;rintro e W2 ⟨v,rfl,ho,hg2⟩;exact ⟨_,rfl,_,rfl,(fun _ _=>ho.mono hG.size),hg2,lB.next hT (by decide) (by decide) hg2⟩
   ·intro listed a W hf ar ak
    have hs1:a.tmps.size=75:=hf.alike.size.trans hsz;have hT:=hf.world;have hG:Grow w5 W:=hT.1;have G5:a.tmps[5]'(by rw [hs1];decide)= .pointer (some ⟨tb,0,none⟩):=ax ((hf.alike.same 5 (by decide)).trans F5) _;refine aX rfl (by rfl) (fun K' hK'=> ?_);go_simp;exact hK' _ _ ⟨_,rfl,(fun _ _=>rfl),Grow.refl _,lB.next hT (by decide) (by decide) (Grow.refl _)⟩
   ·intro listed a W hf ar ak
    have hs1:a.tmps.size=75:=hf.alike.size.trans hsz;have hT:=hf.world;have hG:Grow w5 W:=hT.1;obtain ⟨v6,s6,q6⟩:=hf.slot 6 35 rfl (aJ ak 6 (by kernel_rfl));have Bj:v6=_:=q6;subst Bj;have G35:=ax s6 (by rw [hs1];decide);have hb:=hG.heap TP.out;obtain ⟨Ca,Cb,Cc,TQ,t4'⟩:=cw hb;have lb:=af hb;refine aX rfl (by rfl) (fun K' hK'=> ?_);go_simp;exact hK' _ _ ⟨_,rfl,(fun _ _=>rfl),Grow.refl _,lB.next hT (by decide) (by decide) (Grow.refl _)⟩
   ·intro listed a W hf ar ak
    have hs1:a.tmps.size=75:=hf.alike.size.trans hsz;have hT:=hf.world;have hG:Grow w5 W:=hT.1;obtain ⟨v7,s7,q7⟩:=hf.slot 7 36 rfl (aJ ak 7 (by kernel_rfl));have BV:v7=_:=q7;subst BV;have G36:=ax s7 (by rw [hs1];decide);obtain ⟨cap,W2,zt,bg,hg2⟩:=yZ f3 (by omega) W;refine aX rfl (by rfl) (fun K' hK'=> ?_);go_simp;exact hK' _ _ ⟨_,rfl,(fun _ _=>bg),hg2,lB.next hT (by decide) (by decide) hg2⟩
   ·intro listed a W hf ar ak
    have hs1:a.tmps.size=75:=hf.alike.size.trans hsz;have hT:=hf.world;have hG:Grow w5 W:=hT.1;obtain ⟨v8,s8,q8⟩:=hf.slot 8 37 rfl (aJ ak 8 (by kernel_rfl));have G37:=ax s8 (by rw [hs1];decide);have pG:Bv W v8 f3.data.toList:=q8;obtain ⟨xa,xc,rfl⟩:=pG.slice;have hg2:Grow W (W.alloc (.cells #[.slice xa f3.data.toList.length xc] 49)):=Grow.alloc _ _;refine Bc rfl (by rfl) (ru (v:= .slice xa f3.data.toList.length xc) rfl Tryz.underlying131 Tryz.wE rfl (by show a.tmps.getD 37 undef=_;rw [fI,s8];rfl) rfl) ?_;exact ⟨_,rfl,(fun _ _=>⟨W.heap.size,_,rfl,aw _ _,pG.grow hg2⟩),hg2,lB.next hT (by decide) (by decide) hg2⟩
   ·intro listed a W hf ar ak
    have hs1:a.tmps.size=75:=hf.alike.size.trans hsz;have hT:=hf.world;have hG:Grow w5 W:=hT.1;obtain ⟨v5,s5,q5⟩:=hf.slot 5 34 rfl (aJ ak 5 (by kernel_rfl));have G34:=ax s5 (by rw [hs1];decide);have asQ:aG w5.heap.size W v5 (L5++aU f2.data.toList):=q5;obtain ⟨v9,s9,qb,pv,q9,qJ,mY⟩:=hf.slot 9 38 rfl (aJ ak 9 (by kernel_rfl));subst q9;have G38:=ax s9 (by rw [hs1];decide);refine jc rfl (by rfl) (by go_simp) (BG (cy asQ) (by rw [List.length_append];omega) qJ mY (by omega)) ?_;rintro e W2 ⟨v,rfl,ho,hg2⟩;exact ⟨_,rfl,_,rfl,(fun _ _=>ho.mono hG.size),hg2,lB.next hT (by decide) (by decide) hg2⟩
   ·intro listed a W hf ar ak
    have hs1:a.tmps.size=75:=hf.alike.size.trans hsz;have hT:=hf.world;have hG:Grow w5 W:=hT.1;have G5:a.tmps[5]'(by rw [hs1];decide)= .pointer (some ⟨tb,0,none⟩):=ax ((hf.alike.same 5 (by decide)).trans F5) _;refine aX rfl (by rfl) (fun K' hK'=> ?_);go_simp;exact hK' _ _ ⟨_,rfl,(fun _ _=>rfl),Grow.refl _,lB.next hT (by decide) (by decide) (Grow.refl _)⟩
   ·intro listed a W hf ar ak
    have hs1:a.tmps.size=75:=hf.alike.size.trans hsz;have hT:=hf.world;have hG:Grow w5 W:=hT.1;obtain ⟨v11,yJ,tr⟩:=hf.slot 11 40 rfl (aJ ak 11 (by kernel_rfl));have TR:v11=_:=tr;subst TR;have G40:=ax yJ (by rw [hs1];decide);have hb:=hG.heap TP.out;obtain ⟨Ca,Cb,Cc,TQ,t4'⟩:=cw hb;have lb:=af hb;refine aX rfl (by rfl) (fun K' hK'=> ?_);go_simp;exact hK' _ _ ⟨_,rfl,(fun _ _=>rfl),Grow.refl _,lB.next hT (by decide) (by decide) (Grow.refl _)⟩
   ·intro listed a W hf ar ak
    have hs1:a.tmps.size=75:=hf.alike.size.trans hsz;have hT:=hf.world;have hG:Grow w5 W:=hT.1;obtain ⟨v12,s12,wF⟩:=hf.slot 12 41 rfl (aJ ak 12 (by kernel_rfl));have GY:v12=_:=wF;subst GY;have G41:=ax s12 (by rw [hs1];decide);refine aX rfl (by rfl) (fun K' hK'=> ?_);go_simp;exact hK' _ _ ⟨_,rfl,(fun _ _=>rfl),Grow.refl _,lB.next hT (by decide) (by decide) (Grow.refl _)⟩
   ·intro listed a W hf ar ak
    have hs1:a.tmps.size=75:=hf.alike.size.trans hsz;have hT:=hf.world;have hG:Grow w5 W:=hT.1;obtain ⟨v10,tq,mU⟩:=hf.slot 10 39 rfl (aJ ak 10 (by kernel_rfl));have G39:=ax tq (by rw [hs1];decide);obtain ⟨v13,TS,vh⟩:=hf.slot 13 42 rfl (aJ ak 13 (by kernel_rfl));have TT:v13=_:=vh;subst TT;have G42:=ax TS (by rw [hs1];decide);have vk:aG w5.heap.size W v10 (L5++aU f2.data.toList++aU f3.data.toList):=mU;refine jc rfl (by rfl) (by go_simp) (nd (cy vk) (by rw [List.length_append,List.length_append];omega) (n:=n4) (by omega)) ?_;rintro e W2 ⟨v,rfl,ho,hg2⟩;exact ⟨_,rfl,_,rfl,(fun _ _=>ho.mono hG.size),hg2,lB.next hT (by decide) (by decide) hg2⟩
   ·intro listed a W hf ar ak
    have hs1:a.tmps.size=75:=hf.alike.size.trans hsz;have hT:=hf.world;have hG:Grow w5 W:=hT.1;obtain ⟨v14,TU,Ce⟩:=hf.slot 14 43 rfl (aJ ak 14 (by kernel_rfl));have G43:=ax TU (by rw [hs1];decide);have qE:listed.size=16:=hf.size;refine aX rfl (by rfl) (fun K' hK'=> ?_);go_simp;exact hK' _ _ ⟨_,rfl,(fun _ _=>Ce),Grow.refl _,⟨hG,fun h=>by rw [mO (by rw [qE];decide)] at h;cases h⟩⟩
  ·obtain rfl:i=E.add.length:=by omega
   have hown':=hown;rw [List.take_length] at hown';obtain ⟨P1,Np⟩:∃ x,x=aA E.add.length++E.add.flatMap il:=⟨_,rfl⟩
   rw [←Np] at hown';have aEe:P1.length≤5000000000:=by
    rw [Np];have h1:=MX E.add;have h2:=cf E.add.length;simp only [List.length_append];omega
   have HP1:=ae Np;have gQ:¬ ((E.add.length:Int)<(E.add.length:Int)):=by omega
   obtain ⟨e0,e1,e2,e3,e4⟩:=cw eI;have Je:=af eI;have wud:=tK (n:=E.drop.length) (by omega);have lJ:=ae (nd (cy hown') (by omega) (n:=E.drop.length) (by omega));obtain ⟨ba,bc,bg⟩:=hown'.slice;subst bg;have HG:=ae hg;clear hown hown' Np hg eI
   go_wp2_with fail
   (with_reducible refine lJ.out.mono ?_);rintro e w3 ⟨nv3,rfl,kX,hg3⟩;have jS:=HG.out.trans hg3;have hb3:=jS.heap Nj.out;clear e0 e1 e2 e3 e4 Je;obtain ⟨e0,e1,e2,e3,e4⟩:=cw hb3;have Nq:=af hb3;have Nr:=kX.mono HG.out.size;obtain ⟨P2,Ns⟩:∃ x,x=P1++aA E.drop.length:=⟨_,rfl⟩
   rw [←Ns] at Nr;have aEg:P2.length≤6000000000:=by rw [Ns];have:=cf E.drop.length;simp only [List.length_append];omega
   have HP2:=ae Ns;have Nt:Hid (TK w1 E.drop P2 nv3 (.int .i64 0) w3):=ae ⟨0,rfl,bk _,by simpa using Nr,jS⟩;obtain ⟨na3,nL3,nc3,rfl⟩:∃ a L c,nv3= .slice a L c:=by obtain ⟨a,c,h⟩:=Nr.slice;exact ⟨_,_,_,h⟩
   clear kX Nr Ns hg3 jS hb3 lJ
   go_wp2_with fail
   go_loopw [3,54] (fun bv iv wr=>TK w1 E.drop P2 bv iv wr) (fun _ iv _=>E.drop.length-(intOf iv).toNat)
   case atStart=>exact Nt.out
   case round=>
    obtain ⟨j,rfl,hj,hown,hg⟩:=hrel;clear e0 e1 e2 e3 e4 Nq;have eI:=hg.heap Nj.out;have DY:((E.drop.take j).flatMap jQ).length≤10*j:=by
     have h1:=Tq (E.drop.take j);rw [List.length_take] at h1;omega
    by_cases lR:j<E.drop.length
    ·obtain ⟨k,hk⟩:∃ k,E.drop[j]?=some k:=⟨E.drop[j],by simp [lR]⟩
     obtain ⟨b,o,rfl,hbl,aY⟩:∃ b o,da=some ⟨b,o,none⟩∧b<w.heap.size∧∀ (j:Nat) (k:Int),E.drop[j]?=some k→w.cell? ⟨b,o+j,none⟩=some (.int .i64 k):=by
      rcases pz.out with h1|h1
      ·rw [h1] at lR;simp at lR
      ·exact h1
     have gh:=bT.out.trans hg;have a0:=aY j k hk;rw [←Grow.cells _ _ _ gh hbl] at a0;have lb:=cj hbl gh.size;have hN:=Hf.out.drops k (dY hk);obtain ⟨n,rfl⟩:∃ n:Nat,k=n:=⟨k.toNat,(Int.toNat_of_nonneg hN.1).symm⟩
     have mn:n≤1099511627776:=by have:=hN.2;exact Int.ofNat_le.1 this
     have df:(E.drop.take (j+1)).flatMap jQ=(E.drop.take j).flatMap jQ++aA n:=TL jQ hk;have lQ:=ae df;have Ep:(j:Int)<(E.drop.length:Int):=by omega
     have ze:(0:Int)≤(j:Int):=by omega
     have hwj:IntKind.i64.wrap ((j:Int)+1)=(j:Int)+1:=aR _ (by omega);have wun:=tK (n:=n) (by omega);obtain ⟨PJ,Nu⟩:∃ x,x=P2++(E.drop.take j).flatMap jQ:=⟨_,rfl⟩
     rw [←Nu] at hown;have aEl:PJ.length≤7000000000:=by rw [Nu];simp only [List.length_append];omega
     have HPJ:=ae Nu;have lJ:=ae (nd (cy hown) (by omega) (n:=n) (by omega));obtain ⟨va,vc,bg⟩:=hown.slice;subst bg;have jT:=ae hg;clear hown hg gh aY hk df hN eI DY Nu
     go_wp2_with fail
     (with_reducible refine lJ.out.mono ?_);rintro e w4 ⟨v4,rfl,jr,hg4⟩;have bq:Hid (TK w1 E.drop P2 v4 (.int .i64 ((j:Int)+1)) w4):=ae ⟨j+1,by simp,lR,by rw [lQ.out,←List.append_assoc,←HPJ.out];exact jr.mono jT.out.size,jT.out.trans hg4⟩;obtain ⟨xa,xL,xc,rfl⟩:∃ a L c,v4= .slice a L c:=by obtain ⟨a,c,h⟩:=jr.slice;exact ⟨_,_,_,h⟩
     clear jr hg4 a0 lb;go_wp2;go_roundw
     case rel=>exact bq.out
     case measure=>simp [intOf];omega
    ·obtain rfl:j=E.drop.length:=by omega
     rw [List.take_length] at hown DY;obtain ⟨P3,Nv⟩:∃ x,x=P2++E.drop.flatMap jQ:=⟨_,rfl⟩
     rw [←Nv] at hown;have aEm:P3.length≤7000000000:=by rw [Nv];simp only [List.length_append];omega
     have HP3:=ae Nv;have km:¬ ((E.drop.length:Int)<(E.drop.length:Int)):=by omega
     obtain ⟨sq,dh⟩:∃ n:Nat,E.seq=n:=⟨E.seq.toNat,(Int.toNat_of_nonneg Hf.out.seq.1).symm⟩
     obtain ⟨nx,fT⟩:∃ n:Nat,E.next=n:=⟨E.next.toNat,(Int.toNat_of_nonneg Hf.out.next.1).symm⟩
     obtain ⟨wl,kD⟩:∃ n:Nat,E.aj=n:=⟨E.aj.toNat,(Int.toNat_of_nonneg Hf.out.aj.1).symm⟩
     have q1:sq<18446744073709551616:=by have:=Hf.out.seq.2;rw [dh] at this;omega
     have q2:nx≤1099511627776:=by have:=Hf.out.next.2;rw [fT] at this;omega
     have q3:wl≤1099511627776:=by have:=Hf.out.aj.2;rw [kD] at this;omega
     have wu2:=tK (n:=nx) (by omega);have wu3:=tK (n:=wl) (by omega);have TD:Hid (cP E=P3++aA sq++aA nx++aA wl):=ae (by
      rw [HP3.out,HP2.out,HP1.out];unfold cP;rw [dh,fT,kD];simp [List.append_assoc])
     rw [dh,fT,kD] at eI;obtain ⟨e0,e1,e2,e3,e4⟩:=cw eI;have leb:=af eI;have eT:=ae hown;obtain ⟨va,vc,bg⟩:=hown.slice;subst bg;have jT:=ae hg;have Hsw:=ae (ah dh (ah fT kD));clear hown hg Nv DY eI dh fT kD
     go_upto_region 14 with fail
     have aQ:=Grow.cells (w:=wr);refine bX (fun W=>Below wr.heap.size wr W) [(0,false),(1,false),(2,false),(4,false),(5,false),(6,false),(8,false),(9,false),(10,false),(3,true),(7,true),(11,true),(12,false)] (by kernel_rfl) (by kernel_rfl) (fun c a d v w h=>by cases d<;>exact h) (Grow.drew _) ?_;simp only [aP,nth]
     repeat (first|(refine aB (v:= ?_) (by rfl) ?_ ?_;rotate_left;(rintro W hW;go_simp;with_reducible rfl);simp only [ag,List.set])|(refine aC (by rfl) ?_;simp only [ag,List.set]))
     have hgd:=Grow.drew wr;refine bj (by rfl) (by go_simp) (nd (cy (eT.out.grow hgd)) (by omega) (n:=sq) q1) ?_;rintro e w4 ⟨v4,rfl,jr,hg4⟩;refine ⟨_,rfl,hgd.trans hg4,?_⟩
     try first|simp only [ag,List.set]|simp only [aD]
     refine bj (by rfl) (by go_simp) (nd (cy jr) (by have:=cf sq;simp only [List.length_append];omega) (n:=nx) (by omega)) ?_;rintro e w5 ⟨v5,rfl,fE,aO⟩;refine ⟨_,rfl,(hgd.trans hg4).trans aO,?_⟩
     try first|simp only [ag,List.set]|simp only [aD]
     refine bj (by rfl) (by go_simp) (nd (cy fE) (by have:=cf sq;have:=cf nx;simp only [List.length_append];omega) (n:=wl) (by omega)) ?_;rintro e w6 ⟨v6,rfl,kC,cM⟩;have Cf:=((hgd.trans hg4).trans aO).trans cM;refine ⟨_,rfl,Cf,?_⟩
     try first|simp only [ag,List.set]|simp only [aD]
     obtain ⟨xa,xL,xc,rfl⟩:∃ a L c,v6= .slice a L c:=by obtain ⟨a,c,h⟩:=kC.slice;exact ⟨_,_,_,h⟩
     repeat (first|(refine aB (v:= ?_) (by rfl) ?_ ?_;rotate_left;(rintro W hW;go_simp;with_reducible rfl);simp only [ag,List.set])|(refine aC (by rfl) ?_;simp only [ag,List.set]))
     refine bm ?_;have cS:Hid (aG w.heap.size w6 (.slice xa xL xc) (cP E)∧Grow w w6):=ae ⟨by
      rw [TD.out];exact kC.mono (aN (aN (aN (aN bT.out.size jT.out.size) hgd.size) hg4.size) aO.size),(bT.out.trans jT.out).trans Cf⟩
     clear jr fE kC hg4 aO cM Cf hgd aQ;go_wp2;go_ret;exact ⟨_,rfl,cS.out⟩
end Go.Proofs.YtoolkdapflaeeaaGreatDoor
namespace Go.Proofs.YtoolkdapflaeeaaGreatDoor.Mn
open Go.RowKit Go.Gl
structure jH (w:World) (B1:Nat) (tv:Value) (tabs:List Tb) (V:bu) (E:cr) (av dv:Value) (b1 b2 b3:Bool) (W:World):Prop where
 own:Own B1 W tv tabs
 vb:W.heap[w.heap.size]?=some (.cells (bz tv (cond b1 (cJ E.seq V.seq) V.seq) (cond b2 (cJ E.next V.next) V.next) (cond b3 (cJ E.aj V.aj) V.aj)) 85 (0,0))
 eb:W.heap[w.heap.size+1]?=some (.cells (cV av dv E.seq E.next E.aj) 148 (0,0))
 rb:W.heap[w.heap.size+1+1]?=some (.cells (bz (.slice none 0 0) 0 0 0) 85 (0,0))
 below:Below w.heap.size w W
section
variable {w:World} {B1:Nat} {tv:Value} {tabs:List Tb} {V:bu} {E:cr} {av dv:Value} {b1 b2 b3:Bool} {W W':World}
theorem jH.grow (h:jH w B1 tv tabs V E av dv b1 b2 b3 W) (hg:Grow W W'):jH w B1 tv tabs V E av dv b1 b2 b3 W':=
 ⟨ek h.own hg,hg.heap h.vb,hg.heap h.eb,hg.heap h.rb,h.below.trans (hg.mono h.below.size)⟩
theorem jH.asV (h:jH w B1 tv tabs V E av dv b1 b2 b3 W):jH w B1 tv tabs V E av dv true b2 b3 (W.setCell ⟨w.heap.size,1,none⟩ (.int .u64 (cJ E.seq V.seq))):=
 ⟨pA h.own h.vb (by decide),aI h.vb 1 _,(aK _ _ _ _ (by show w.heap.size+1≠w.heap.size;omega)).trans h.eb,(aK _ _ _ _ (by show w.heap.size+1+1≠w.heap.size;omega)).trans h.rb,h.below.setCell (ay _) _⟩
theorem jH.asW (h:jH w B1 tv tabs V E av dv b1 b2 b3 W):jH w B1 tv tabs V E av dv b1 true b3 (W.setCell ⟨w.heap.size,2,none⟩ (.int .i64 (cJ E.next V.next))):=
 ⟨pA h.own h.vb (by decide),aI h.vb 2 _,(aK _ _ _ _ (by show w.heap.size+1≠w.heap.size;omega)).trans h.eb,(aK _ _ _ _ (by show w.heap.size+1+1≠w.heap.size;omega)).trans h.rb,h.below.setCell (ay _) _⟩
theorem jH.asX (h:jH w B1 tv tabs V E av dv b1 b2 b3 W):jH w B1 tv tabs V E av dv b1 b2 true (W.setCell ⟨w.heap.size,3,none⟩ (.int .i64 (cJ E.aj V.aj))):=
 ⟨pA h.own h.vb (by decide),aI h.vb 3 _,(aK _ _ _ _ (by show w.heap.size+1≠w.heap.size;omega)).trans h.eb,(aK _ _ _ _ (by show w.heap.size+1+1≠w.heap.size;omega)).trans h.rb,h.below.setCell (ay _) _⟩
end
def dD (w:World) (B1:Nat) (tv:Value) (tabs:List Tb) (V:bu) (E:cr) (av dv:Value) (l:Array Bool) (_:Act) (W:World):Prop:=jH w B1 tv tabs V E av dv (l.getD 19 false) (l.getD 21 false) (l.getD 23 false) W
section
variable {w:World} {B1:Nat} {tv:Value} {tabs:List Tb} {V:bu} {E:cr} {av dv:Value} {W W':World} {l:Array Bool} {a a':Act}
theorem dD.other (i:Nat) (h1:i≠19) (h2:i≠21) (h3:i≠23) (h:dD w B1 tv tabs V E av dv l a W):dD w B1 tv tabs V E av dv (l.setIfInBounds i true) a' W:=by
 unfold dD;rw [getD_set_ne false h1,getD_set_ne false h2,getD_set_ne false h3];exact h
theorem dD.grow (h:dD w B1 tv tabs V E av dv l a W) (hg:Grow W W'):dD w B1 tv tabs V E av dv l a W':=jH.grow h hg
theorem dD.st1 (hs:19<l.size) (h:dD w B1 tv tabs V E av dv l a W):dD w B1 tv tabs V E av dv (l.setIfInBounds 19 true) a' (W.setCell ⟨w.heap.size,1,none⟩ (.int .u64 (cJ E.seq V.seq))):=by
 unfold dD;rw [mO hs,getD_set_ne false (show 19≠21 by decide),getD_set_ne false (show 19≠23 by decide)];exact jH.asV h
theorem dD.st2 (hs:21<l.size) (h:dD w B1 tv tabs V E av dv l a W):dD w B1 tv tabs V E av dv (l.setIfInBounds 21 true) a' (W.setCell ⟨w.heap.size,2,none⟩ (.int .i64 (cJ E.next V.next))):=by
 unfold dD;rw [mO hs,getD_set_ne false (show 21≠19 by decide),getD_set_ne false (show 21≠23 by decide)];exact jH.asW h
theorem dD.st3 (hs:23<l.size) (h:dD w B1 tv tabs V E av dv l a W):dD w B1 tv tabs V E av dv (l.setIfInBounds 23 true) a' (W.setCell ⟨w.heap.size,3,none⟩ (.int .i64 (cJ E.aj V.aj))):=by
 unfold dD;rw [mO hs,getD_set_ne false (show 23≠19 by decide),getD_set_ne false (show 23≠21 by decide)];exact jH.asX h
theorem dD.wX (h:dD w B1 tv tabs V E av dv l a W):W.heap[w.heap.size]?=some (.cells (bz tv (cond (l.getD 19 false) (cJ E.seq V.seq) V.seq) (cond (l.getD 21 false) (cJ E.next V.next) V.next) (cond (l.getD 23 false) (cJ E.aj V.aj) V.aj)) 85 (0,0)):=jH.vb h
theorem dD.eb (h:dD w B1 tv tabs V E av dv l a W):W.heap[w.heap.size+1]?=some (.cells (cV av dv E.seq E.next E.aj) 148 (0,0)):=jH.eb h
end
def Rest (vb:Nat) (W W':World):Prop:=∀ b o,b≠vb→W.heap[b]?=some o→W'.heap[b]?=some o
theorem Rest.refl (vb:Nat) (W:World):Rest vb W W:=fun _ _ _ h=>h
theorem Rest.grow {vb:Nat} {W W':World} (h:Grow W W'):Rest vb W W':=fun _ _ _ hb=>h.heap hb
theorem Rest.set (vb:Nat) (W:World) (i:Nat) (v:Value):Rest vb W (W.setCell ⟨vb,i,none⟩ v):=fun _ _ hb h=>(aK _ _ _ _ hb).trans h
def Cg (w:World) (V:bu) (E:cr) (i:Nat) (v:Value) (W:World):Prop:=
 match i with
 |0=>v= .pointer (some ⟨w.heap.size+1,2,none⟩)
 |1=>v= .int .u64 E.seq
 |2=>v= .pointer (some ⟨w.heap.size,1,none⟩)
 |3=>v= .int .u64 V.seq
 |4=>∃ b,b≠w.heap.size∧v= .slice (some ⟨b,0,none⟩) 2 2∧W.heap[b]?=some (.cells #[.int .u64 E.seq,.int .u64 V.seq] 37 (0,0))
 |5=>v= .int .u64 (cJ E.seq V.seq)
 |6=>v= .pointer (some ⟨w.heap.size+1,3,none⟩)
 |7=>v= .int .i64 E.next
 |8=>v= .pointer (some ⟨w.heap.size,2,none⟩)
 |9=>v= .int .i64 V.next
 |10=>∃ b,b≠w.heap.size∧v= .slice (some ⟨b,0,none⟩) 2 2∧W.heap[b]?=some (.cells #[.int .i64 E.next,.int .i64 V.next] 3 (0,0))
 |11=>v= .int .i64 (cJ E.next V.next)
 |12=>v= .pointer (some ⟨w.heap.size+1,4,none⟩)
 |13=>v= .int .i64 E.aj
 |14=>v= .pointer (some ⟨w.heap.size,3,none⟩)
 |15=>v= .int .i64 V.aj
 |16=>∃ b,b≠w.heap.size∧v= .slice (some ⟨b,0,none⟩) 2 2∧W.heap[b]?=some (.cells #[.int .i64 E.aj,.int .i64 V.aj] 3 (0,0))
 |17=>v= .int .i64 (cJ E.aj V.aj)
 |18=>v= .pointer (some ⟨w.heap.size,1,none⟩)
 |20=>v= .pointer (some ⟨w.heap.size,2,none⟩)
 |22=>v= .pointer (some ⟨w.heap.size,3,none⟩)
 |_=>True
theorem Cg.keep {w:World} {V:bu} {E:cr}:∀ (j:Nat) (v:Value) (W W':World),Rest w.heap.size W W'→Cg w V E j v W→Cg w V E j v W':=by
 intro j v W W' hR h;unfold Cg at h
 split at h<;>first
  |exact h
  |(obtain ⟨b,hb,hv,hc⟩:=h;exact ⟨b,hb,hv,hR _ _ hb hc⟩)
  |(unfold Cg;split<;>first|trivial|(exfalso;simp_all))
end Go.Proofs.YtoolkdapflaeeaaGreatDoor.Mn
