/- What is proved: LsmOwn returns true for all options and rows of writes, and its arguments read behind the call as they did before; the conditions are the statement's own (what came in is of bulk at most 1048576; the listed package variables hold what the program's text lays). -/
import Derived.Deep.CutRange
import Derived.Deep.DeepCutAuto
import Derived.Test.YtoolkdapflaeeaaGreatDoorW0G
import Derived.Test.YtoolkdapflaeeaaGreatDoorRows
import Derived.Deep.Slices
import Derived.Lib.SmallJoins
import Derived.ProofKit
import Derived.Test.YtoolkdapflaeeaaGreatDoorW0C
import Derived.Test.YtoolkdapflaeeaaGreatDoorW06
import Derived.Shelf.LaysM
import Derived.Lib.LaidTab
import Derived.Lib.ItoaMem
import Derived.Test.YtoolkdapflaeeaaGreatDoorW02
import Derived.Test.YtoolkdapflaeeaaGreatDoorW01
import Derived.Test.YtoolkdapflaeeaaGreatDoorCards
import Derived.Test.YtoolkdapflaeeaaGreatDoorTie
import Derived.WalkKit
import Derived.OpenShut
import Derived.Deep.DeepHandedRow
import Derived.SevenTiedAt
import Derived.Lay
import Derived.Stop.LaidErr
import Derived.MakeChecks
set_option maxRecDepth 100000
set_option maxHeartbeats 16000000
set_option linter.unusedSimpArgs false
open Go
variable{A B C K T Z am c fuel i m m' mm n o seq wb:Nat}{N:Nat→Prop}{W wr:World}{cs:Array Value}{ds:List Int}{e t:TypeId}{hv ov v xv:Value}
namespace Go.Proofs.YtoolkdapflaeeaaGreatDoor
open Go.RowKit Go.Gl Go.aF Mn
section
variable{Nn:Nat}{w:World}
theorem aJQ(w:World):(Instr.buildSlice 49 0 #[]).run Tryz.prog w=.ok (.slice (some ⟨w.heap.size,0,none⟩) 0 0) (w.alloc (.cells #[] 5)):=by kernel_rfl
theorem aJR{d:List UInt8}(b:Bv wr xv d)(a:d.length<=1000000):∃(v':Value)(W:World),(Builtin.append_ #[49,49] 49 #[.slice (some ⟨wr.heap.size,0,none⟩) 0 0,xv]).run Tryz.prog (wr.alloc (.cells #[] 5))=.ok v' W/\aI wr.heap.size W v' d/\Grow wr W:=by have a:=ar wr (.cells #[] 5);have c:aI wr.heap.size (wr.alloc (.cells #[] 5)) (.slice (some ⟨wr.heap.size,0,none⟩) 0 0) []:=ajE (L:=[]) (aw _) (ax _ _) (by decide);obtain⟨v',W,d,e,f,_⟩:=rB c (b.grow a) a.size (by rw[iJ];omega);exact⟨v',W,d,e,a.grown f a.size (λa a=>by cases a;exact aw _)⟩
theorem im.asN{t:Tr}{drv:Value}{M:TM}{c:ByteArray->Option Nat}{d:List Hd}(a:im N B W t wb mm am drv hv ov seq M c d m)(b:m<=m'):im N B W t wb mm am drv hv ov seq M c d m':=
 {a with map:=by obtain⟨c,d,e⟩:=a.map;exact⟨c,d.more b,e⟩,dK:=a.dK.more b,olds:=λf g=>by obtain⟨c,d,e⟩:=a.olds f g;exact⟨c,d.more b,e⟩}
theorem cY.aJS{Nn:Nat}{t:Tr}{a:Lk}{s:di}(b:cY Z B Nn A C i W t a T K s){x:En}(d:x∈cJ s):x.val.length<=C:=by
 have c:∀a:List En,x∈a->x.val.length<=costs a:=λa f=>by obtain⟨g,g,e⟩:=ry f;rw[e,TH];simp only[costs,iH,cr,List.sum_cons];omega
 have e:=b.lim.cost;rcases dn.1 d with b|b
 .have:=c _ b;omega
 .obtain⟨a,d,e⟩:=List.mem_flatten.1 b;obtain⟨a,b,rfl⟩:=aV.1 d;have d:=c _ e;have c:costs (s.aB a.file)<=(s.V.tabs.map λx=>costs (s.aB x.file)).sum:=Kh (aV.2 ⟨a,b,rfl⟩);omega
theorem aJT(hN:df Nn w.heap.size w)(Bi:1000<=Nn){o:Od}{drv:Value}{ys:List Wv}(hdr:Iw N w drv ds)(hW:Ws N w v ys)(hNs:∀b,N b->b<w.heap.size)(bQ:ys.length+bj (ys.map (·.x))<=1000000000000):
  Calls Tryz.prog 4 #[vr o drv,v] w λe w'=>e=.returned (.bool true)/\Grow w w':=by
 have ai:=ar w (.cells #[.int .i64 o.mem,.int .i64 o.block,.int .i64 o.zero,.int .i64 o.base,.int .i64 o.table,drv] 26);have iE:=ax w (.cells #[.int .i64 o.mem,.int .i64 o.block,.int .i64 o.zero,.int .i64 o.base,.int .i64 o.table,drv] 26);have qL:=ae hdr;have HW:=ae hW;have HN:=ae hN;have Hb:=ae (ag Bi (ag hNs bQ));obtain⟨va,vc,rfl⟩:=hW.slice;obtain⟨da,dc,rfl,ir,_⟩:=id hdr;have Hdl:=ae ir;clear hdr hW hN Bi hNs bQ ir;go_enter Tryz.func4,Tryz.ntmps4
 go_upto_region 1 with fail
 generalize w.alloc (.cells #[.int .i64 o.mem,.int .i64 o.block,.int .i64 o.zero,.int .i64 o.base,.int .i64 o.table,.slice da ds.length dc] 26)=w1 at*;obtain⟨xb,Bc⟩:∃xb,xb=w.heap.size:=⟨_,rfl⟩
 rw[<-Bc]at iE ⊢;have wN:=ae iE;have cn:=ae ai;have Hk:=ae (aHT w1);clear Bc iE ai
 go_wp2_with fail
 (with_reducible refine Hk.out.mono ?_);rintro e w2 ⟨rfl,hg2⟩;have hb1:=aJf;have dB:=ax w2 (.cells #[.int .i64 0,.slice va ys.length vc,.slice none 0 0,.int .i64 0] 31);have hg3:=ar w2 (.cells #[.int .i64 0,.slice va ys.length vc,.slice none 0 0,.int .i64 0] 31);have AO:=(cn.out.trans hg2).trans hg3;have asP:=aJg (N:=λb=>N b\/b=w2.heap.size) (a:=⟨0,.slice va ys.length vc,.slice none 0 0,0,ys,[]⟩) dB (.inr rfl) ((HW.out.grow AO).mono (λb hb=>.inl hb)) ⟨none,0,rfl,aY _,.inl rfl⟩;have hfw:=aIa asP (by have:=Hb.out.2.2;simp only[cr,List.map_nil,List.sum_cons,List.sum_nil,sB,iJ];omega) (by simp);have Hfw:=ae hfw;have hx3:=(hg2.trans hg3).heap wN.out;have Py:=ae hx3;have aJU:=ae AO;clear dB hg3 AO asP hfw hx3 hg2 Hk
 go_wp2_with fail
 (with_reducible refine Hfw.out.mono ?_);rintro e w4 ⟨rfl,hg4⟩;have qV:=hg4.heap Py.out;obtain⟨⟨x0,x1,x2,x3,x4,x5⟩,lx⟩:=Ge qV;have AL:=ae (aJU.out.trans hg4);have Hx4:=ae qV;have VA:=ae (aFI o da ds.length dc w4);clear qV hg4 Hfw hb1;by_cases BL:Bh [⟨0,.slice va ys.length vc,.slice none 0 0,0,ys,[]⟩];rotate_left
 .rw[decide_eq_false BL];clear BL;go_wp2;go_ret;exact⟨rfl,AL.out⟩
 rw[decide_eq_true BL];have Rb:=ae (aJh BL);clear BL
 go_wp2_with fail
 (with_reducible refine VA.out.mono ?_);rintro e w5 ⟨rfl,bm⟩;have vz:=ae (AL.out.trans bm);have zM:=bm.heap Hx4.out;clear x0 x1 x2 x3 x4 x5 lx;obtain⟨⟨x0,x1,x2,x3,x4,x5⟩,lx⟩:=Ge zM;clear bm zM VA;by_cases hrt:sw o/\ds.length<=1000;rotate_left
 .rw[decide_eq_false hrt];clear hrt;go_wp2;go_ret;exact⟨rfl,vz.out⟩
 rw[decide_eq_true hrt];have Hrt:=ae hrt;clear hrt;by_cases hz:ys.length<=100;rotate_left
 .have e0:(100:Int)<(ys.length:Int):=by omega
  clear hz;go_wp2;go_ret;exact⟨rfl,vz.out⟩
 have e0:¬(100:Int)<(ys.length:Int):=by omega
 have Hz:=ae hz;clear hz;have hbg:Calls Tryz.prog 13 #[.int .i64 4194304,vr o (.slice da ds.length dc)] w5 (ada 4194304 Nn w5 o (.slice da ds.length dc) ds):=aIk (Z:=4194304) (by decide) (by decide) (HN.out.up vz.out.size (λb hb=>vz.out.block b hb)) (by have:=Hb.out.1;omega) (qL.out.kp (.bO vz.out)) (λb hb=>by have:=Hb.out.2.1 b hb;have:=vz.out.size;omega) Hrt.out.1;have Hbg:=ae hbg;clear hbg
 go_wp2_with fail
 (with_reducible refine Hbg.out.mono ?_);rintro e w6 hp;have Gx:Grow w w6:=by obtain⟨_,_,_,_,_,_,_,_,_,_,_,_,_,_,_,_,_,_,_,_,_,_,_,_,_,_,_,_,_,_,_,_,_,_,_,_,hgr⟩:=id hp;exact vz.out.trans hgr
 obtain⟨wb,B,mm,am,rfl,hwB,hst⟩:=Bo.begun Hb.out.2.1 vz.out (qL.out.kp (.bO Gx)) hp;have bz:=ae hst;have Qj:=ae hwB;clear hp hst hwB Gx x0 x1 x2 x3 x4 x5 lx e0 Hbg
 go_wp2_with fail
 go_loopw [7] (λiv wr=>∃k:Nat,iv=.int .i64 (k:Int)/\k<=ys.length/\Bo B Nn N w wb mm am (.slice da ds.length dc) k (bj ((ys.map (·.x)).take k)) wr) (λiv _=>ys.length-(intOf iv).toNat)
 case atStart=>exact⟨0,rfl,aY _,bz.out⟩
 case round=>
  clear bz;obtain⟨k,rfl,hk,t,f,T,K,s,M,ats,h,hl,ht,dG,hP,hg⟩:=hrel;obtain⟨w7,hw7⟩:∃W,W=wr:=⟨_,rfl⟩
  subst hw7;by_cases hlt:k<ys.length
  .obtain⟨y,hy⟩:∃y,ys[k]?=some y:=⟨ys[k],by simp[hlt]⟩
   have zb:=HW.out.grow hg;obtain⟨b,o',c,jV,hNb,hbl,bq⟩:=zb.addr hy;cases jV;obtain⟨a0,a1,a2⟩:=JK bq hy;have fu:pz N w7 y:=zb.get hy;have Vr:y.x∈ys.map (·.x):=aV.2 ⟨y,dm hy,rfl⟩;have dN:(ys.map (·.x)).take (k+1)=(ys.map (·.x)).take k++[y.x]:=take_one (by rw[gQ,hy];rfl);have hS:bj ((ys.map (·.x)).take (k+1))=bj ((ys.map (·.x)).take k)+bj [y.x]:=by rw[dN,JL]
   have iD:bj ((ys.map (·.x)).take (k+1))<=8192:=aJ (NV _ _) Rb.out.2.1;have hkey:y.x.key.size<=60000:=Rb.out.2.2.2 y (dm hy);obtain⟨⟨yk,yg,yd⟩,yv⟩:=y;dsimp only at a0 a1 a2 dN hS hkey;have bD:Bv w7 yv yd:=fu.1;obtain⟨xa,xc,rfl⟩:=bD.slice;have pC:bj [(⟨yk,yg,yd⟩:Wr)]=yk.size+yd.length:=by simp[bj]
   obtain⟨mv,wa,hrun,Bb,Ir⟩:=aJR bD (by omega);obtain⟨ma,mc,rfl⟩:=Bb.slice;have lV:(k:Int)<(ys.length:Int):=by omega
   have jZ:(0:Int)<=(k:Int):=by omega
   have yF:IntKind.i64.wrap ((k:Int)+1)=(k:Int)+1:=aQ _ (by have:=Hz.out;omega);have A6:∀W,Grow w7 W->W.cell? ⟨b,o'+k*3,none⟩=some (.string yk)/\W.cell? ⟨b,o'+k*3+1,none⟩=some (.bool yg)/\W.cell? ⟨b,o'+k*3+2,none⟩=some (.slice xa yd.length xc)/\b<W.heap.size:=λW lD=>
    ⟨(Grow.cells _ _ _ lD hbl).trans a0,(Grow.cells _ _ _ lD hbl).trans a1,(Grow.cells _ _ _ lD hbl).trans a2,bF hbl lD.size⟩
   have hb0:=aJQ;have HA6:=ae A6;have cU:=ae hrun;have GA:=ae Bb;have Hgm:=ae Ir;have PF:=ae (ag h (ag hl (ag ht (ag dG (ag hP hg)))));have HS:=ae (ag hS (ag iD (ag hkey pC)));have Hin:=ae fu;have KP:=ae hNb;have iy:=ae hlt;obtain⟨n0,n1,n2,nl⟩:=A6 _ (ar w7 (.cells #[] 5));clear A6 hrun Bb Ir h hl ht dG hP hg hS iD hkey pC fu zb bq hNb hlt Vr dN bD hy
   go_upto_region 12 with(at_builtin;refine fP rfl rfl rfl rfl cU.out ?_)
   clear n0 n1 n2 nl hb0;obtain⟨n0,n1,n2,nl⟩:=HA6.out _ Hgm.out;have hb1:=asH;have ai:=ar wa (.cells #[.string yk,.bool yg,.slice xa yd.length xc] 51);have mZ:=ax wa (.cells #[.string yk,.bool yg,.slice xa yd.length xc] 51);have jc:=Hgm.out.trans ai;obtain⟨h,hl,ht,dG,hP,hg⟩:=PF.out;have aJX:=af hl.self;have aJY:=hl.map.lt;have halt:=hl.dK.lt;have bT:=(hl.tX _ (.inl rfl)).2;have gz:=(hl.maps _ (.inl rfl)).2.2;have ha1:=(hl.maps _ (.inr (.inl rfl))).2.2;have Df:=h.tree.aS.base;have aJZ:=Hgm.out.size;have xu:∀q,N q->q<w7.heap.size/\¬FX t wb mm am q:=λq hq=>by
    have h9:=hl.low q hq;refine⟨by omega,?_⟩;rintro(h8|rfl|rfl|rfl)
    .have:=h.tree.base q h8;omega
    .omega
    .omega
    .omega
   have HZ:∀q,w7.heap.size<=q->¬FX t wb mm am q:=λq hq=>by
    rintro(h8|rfl|rfl|rfl)
    .have:=h.tree.lt h8;omega
    .omega
    .omega
    .omega
   have abW:Ws (λq=>q=wa.heap.size\/N q) (wa.alloc (.cells #[.string yk,.bool yg,.slice xa yd.length xc] 51)) (.slice (some ⟨wa.heap.size,0,none⟩) 1 1) [⟨⟨yk,yg,yd⟩,.slice xa yd.length xc⟩]:=asI mZ (.inl rfl) (Bw.mono (Bw.kp Hin.out (.bO jc)) (λb hb=>.inr hb));obtain⟨hS,iD,hkey,pC⟩:=HS.out;have hap:=aJF (h.grow jc) (hl.grow jc) (Na:=λq=>q=wa.heap.size\/N q) (λq hq=>hq.elim (λe=>⟨by rw[e];simp,HZ q (by omega)⟩) (λhq=>⟨bF (xu q hq).1 jc.size,(xu q hq).2⟩)) abW (λy hy=>by rw[cZ.1 hy];exact Bw.kp Hin.out (.bO jc)) (ws:=[(⟨yk,yg,yd⟩:Wr)].map kW) rfl (by simp) (by have:=UG [(⟨yk,yg,yd⟩:Wr)];omega) (by have:=Hz.out;simp;omega) (by have:=Hz.out;have:=UG [(⟨yk,yg,yd⟩:Wr)];simp only[bA,List.length_singleton];omega) (by have:=Hz.out;have:=Hb.out.1;omega) (by have:=Hz.out;omega) (by have:=Hz.out;omega);have fC:=ae hap;have Hqb:=ae (ag xu (ag HZ jc));clear hap abW xu HZ jc mZ h hl ht dG hP hg hS iD hkey pC aJX aJY halt bT gz ha1 Df aJZ ai
   go_wp2_with fail
   (with_reducible refine fC.out.mono ?_);rintro e w8 hp;obtain⟨h,hl,ht,dG,hP,hg⟩:=PF.out;obtain⟨xu,HZ,jc⟩:=Hqb.out;obtain⟨hS,iD,hkey,pC⟩:=HS.out;obtain⟨rfl,t1,f1,T1,K1,s1,h1,dE,Ia,Qk,Ql,wA,iq,fQ⟩:=Bo.first h ht hP (by have:=Hz.out;omega) (by rw[<-hS];exact iD) hkey hp;have A8:∀W,Grow w8 W->W.cell? ⟨b,o'+k*3,none⟩=some (.string yk)/\W.cell? ⟨b,o'+k*3+1,none⟩=some (.bool yg)/\b<W.heap.size:=λW lD=>by
    have e9:W.heap[b]?=w7.heap[b]?:=by rw[lD.block b (bF (xu b KP.out).1 (aJ jc.size iq.size)),iq.out b (bF (xu b KP.out).1 jc.size) (xu b KP.out).2,jc.block b (xu b KP.out).1]
    obtain⟨z0,z1,_,_⟩:=HA6.out w7 (aW _);refine⟨?_,?_,?_⟩
    .rw[<-z0];simp only[World.cell?,e9]
    .rw[<-z1];simp only[World.cell?,e9]
    .have:=(xu b KP.out).1;have:=jc.size;have:=iq.size;have:=lD.size;omega
   have asV:aI w7.heap.size w8 (.slice ma yd.length mc) yd:=by have h9:=GA.out.grow (show Grow wa (wa.alloc (.cells #[.string yk,.bool yg,.slice xa yd.length xc] 51))from ar _ _);exact h9.keep (λq hq=>iq.out q (h9.lt hq).2 (HZ q (h9.lt hq).1))
   have cW:Grow w w8:=by
    have h9:Below B (wa.alloc (.cells #[.string yk,.bool yg,.slice xa yd.length xc] 51)) w8:=iq.below (λq hq=>by
     rcases hq with h8|rfl|rfl|rfl
     .exact h.tree.base q h8
     .exact(hl.tX _ (.inl rfl)).2
     .exact(hl.maps _ (.inl rfl)).2.2
     .exact(hl.maps _ (.inr (.inl rfl))).2.2) (aJ h.tree.aS.base jc.size)
    exact Below.trans (hg.trans jc) (h9.mono Qj.out)
   have hFn:∀q,w7.heap.size<=q->q<(wa.alloc (.cells #[.string yk,.bool yg,.slice xa yd.length xc] 51)).heap.size->¬FX t1 wb mm am q/\¬t1.N q:=λq jO iU=>⟨λh9=>(iq.foot q h9).elim (HZ q jO) (λh8=>by omega),λh9=>(fQ q h9).elim (λh8=>by have:=(h.tree.apart q h8).1;omega) (λh8=>by omega)⟩
   have HA8:=ae A8;have KQ:=ae asV;have HFn:=ae hFn;have zO:=ae cW;have H1:=ae (ag h1 (ag dE (ag Ia (ag Qk (ag Ql (ag wA dG))))));obtain⟨p0,p1,pl⟩:=A8 w8 (aW _);clear A8 asV hFn cW h1 dE Ia Qk Ql wA iq fQ h hl ht dG hP hg xu HZ jc hS iD hkey pC hp fC n0 n1 n2 nl hb1;cases yg with
   |true=>
    go_wp2;go_roundw
    case rel=>obtain⟨h1,dE,Ia,Qk,Ql,wA,dG⟩:=H1.out;have hS:=HS.out.1;exact⟨k+1,by simp,iy.out,t1,f1,T1,K1,s1,_,_,by rw[hS];exact h1.wide (by omega) (by omega) (by omega),dE.asN (by omega),Ia,by omega,by rw[hS];omega,zO.out⟩
    case measure=>simp[intOf];have:=iy.out;omega
   |false=>
    have WY:IntKind.u64.wrap ((t1.seq:Int)+1)=((t1.seq+1:Nat):Int):=by have h9:=H1.out.1.rr;have:=Hz.out;rw[IntWalk.u64_in _ (by omega)];omega
    obtain⟨xw,jK⟩:∃q,q=t1.seq+1:=⟨_,rfl⟩
    rw[<-jK]at WY;have hb1:=asH;have hgd:=ay w8;have S15:∀W,Grow w8 W->(W.cell? ⟨wb,7,none⟩=some (.pointer (some ⟨t1.db,0,none⟩))/\wb<W.heap.size)/\W.cell? ⟨b,o'+k*3,none⟩=some (.string yk)/\b<W.heap.size:=λW lD=>by obtain⟨_,c7,_,_,_,_,_,gY⟩:=vA (H1.out.2.1.grow lD).self;obtain⟨z0,z1,zl⟩:=HA8.out W lD;exact⟨⟨c7,gY⟩,z0,zl⟩
    have ai:=ar w8.drew (.cells #[.string yk,.bool false,.slice ma yd.length mc] 51);have adQ:=ax w8.drew (.cells #[.string yk,.bool false,.slice ma yd.length mc] 51);have py:=hgd.trans ai;have tE:∀q,(q<(w8.drew.alloc (.cells #[.string yk,.bool false,.slice ma yd.length mc] 51)).heap.size/\¬FT t1 q)->q<(w8.drew.alloc (.cells #[.string yk,.bool false,.slice ma yd.length mc] 51)).heap.size/\¬FT t1 q:=λq hq=>hq
    have PI:Ws (λq=>q<(w8.drew.alloc (.cells #[.string yk,.bool false,.slice ma yd.length mc] 51)).heap.size/\¬FT t1 q) (w8.drew.alloc (.cells #[.string yk,.bool false,.slice ma yd.length mc] 51)) (.slice (some ⟨w8.drew.heap.size,0,none⟩) 1 1) [⟨⟨yk,false,yd⟩,.slice ma yd.length mc⟩]:=by
     refine asI adQ ⟨af adQ,λh9=>?_⟩ ⟨cE (KQ.out.grow py),.inr (λq hq=>⟨?_,λh9=>?_⟩)⟩
     .exact absurd (H1.out.1.tree.lt h9) (Nat.lt_irrefl _)
     .exact bF (KQ.out.lt hq).2 py.size
     .exact(HFn.out q (KQ.out.lt hq).1 (bF (GA.out.lt hq).2 (by simp))).1 (.inl h9)
    obtain⟨hS,iD,hkey,pC⟩:=HS.out;have hap:=UH (H1.out.1.grow py) tE PI (ws:=[(⟨yk,false,yd⟩:Wr)]) rfl (by simp) (by omega) (by have:=Hz.out;simp only[List.length_singleton];omega) (by have:=Hz.out;simp only[List.length_singleton];omega) (by have:=Hz.out;have:=Hb.out.1;omega) (by have:=Hz.out;omega) (by have:=H1.out.2.2.2.2.1;have:=H1.out.2.2.2.2.2.2;have:=Hz.out;omega);have asZ:=ae hap;have ata:=ae S15;have atb:=ae jK;have uW:=ae py;clear hap S15 PI tE adQ jK hS iD hkey pC
    go_upto_region 15 with fail
    clear p0 p1 pl;refine cN (λW=>(W.cell? ⟨wb,7,none⟩=some (.pointer (some ⟨t1.db,0,none⟩))/\wb<W.heap.size)/\W.cell? ⟨b,o'+k*3,none⟩=some (.string yk)/\b<W.heap.size) [11,0] (by kernel_rfl) (bB λ_ _ _ _ _ h=>h) (ata.out _ hgd) ?_;simp only[ct]
    repeat ((first|(apply az;rfl;rintro W ⟨⟨hW0,hW1⟩,hW2,hW3⟩;go_simp;with_reducible rfl)|(apply aA;rfl));simp only[ah,List.set])
    refine fK (by rfl) (λK hK=>?_);go_simp;refine hK _ _ ⟨ata.out _ uW.out,?_⟩;clear hK K
    try simp only[ah,List.set,aC]
    refine bw (by rfl) (by go_simp) asZ.out ?_;rintro e ix hp;obtain⟨hS,iD,hkey,pC⟩:=HS.out;obtain⟨h1,dE,Ia,Qk,Ql,wA,dG⟩:=H1.out;obtain⟨rfl,t2,f2,T2,K2,s2,kx,h2,lG,jK,pF,nR⟩:=Bo.second (h1.grow uW.out) Ia (by omega) wA (by have:=Hz.out;omega) rfl (by rw[<-hS];exact iD) hkey hp;have hl2:=(dE.grow uW.out).turn (h1.grow uW.out).tree kx;have A10:∀W,Sep (λq=>q=wb\/q=am) ix W (λq=>q=wb\/q=am)->W.cell? ⟨b,o'+k*3,none⟩=some (.string yk)/\b<W.heap.size:=λW Qm=>by
     obtain⟨z0,_,zl⟩:=HA8.out _ uW.out;have hbB:=hl2.low b KP.out;have e9:W.heap[b]?=(w8.drew.alloc (.cells #[.string yk,.bool false,.slice ma yd.length mc] 51)).heap[b]?:=by rw[Qm.out b (bF zl kx.sep.size) (λh9=>h9.elim (λh8=>by have:=(hl2.tX _ (.inl rfl)).2;omega) (λh8=>by have:=(hl2.maps _ (.inr (.inl rfl))).2.2;omega)),kx.sep.out b zl (λh9=>by have:=h1.tree.base b h9;omega)]
     exact⟨by rw[<-z0];simp only[World.cell?,e9],bF (bF zl kx.sep.size) Qm.size⟩
    have atc:(ix.cell? ⟨wb,7,none⟩=some (.pointer (some ⟨t1.db,0,none⟩))/\wb<ix.heap.size)/\ix.cell? ⟨b,o'+k*3,none⟩=some (.string yk)/\b<ix.heap.size:=by obtain⟨_,c7,_,_,_,_,_,gY⟩:=vA hl2.self;rw[kx.db]at c7;exact⟨⟨c7,gY⟩,A10 ix (Sep.refl _ _)⟩
    rw[<-atb.out];refine⟨_,rfl,atc,?_⟩;have atd:aI w7.heap.size ix (.slice ma yd.length mc) yd:=by have h9:=KQ.out.grow uW.out;exact h9.keep (λq hq=>kx.sep.out q (h9.lt hq).2 (λh8=>(HFn.out q (h9.lt hq).1 (bF (GA.out.lt hq).2 (by simp))).1 (.inl h8)))
    have Qn:∀q,(Value.slice ma yd.length mc).ownBlock=some q->¬FT t2 q/\¬t2.N q:=λq hq=>by have z1:=HFn.out q (KQ.out.lt hq).1 (bF (GA.out.lt hq).2 (by simp));have z2:=(KQ.out.lt hq).2;have z3:=uW.out.size;exact⟨λh9=>(kx.sep.foot q h9).elim (λh8=>z1.1 (.inl h8)) (λh8=>by omega),λh9=>(kx.new q h9).elim z1.2 (λh8=>by omega)⟩
    have qZ:Grow w ix:=Below.trans (zO.out.trans uW.out) ((cR.below (h1.grow uW.out).tree kx).mono Qj.out);have fR:=aJO (t.seq+1) (t1.seq+1) [(⟨yk,false,yd⟩:Wr)] M;have mQ:=aJP (t1.seq+1) ⟨yk,false,yd⟩ (iI (t.seq+1) [(⟨yk,false,yd⟩:Wr)] M) rfl;have mz:=asg (t1.seq+1) [] ⟨yk,false,yd⟩ (oJ (t.seq+1) [(⟨yk,false,yd⟩:Wr)] ats);rw[iK,ash]at mz;rw[<-atb.out]at fR mQ mz lG jK;have lS:=ae hl2;have H2:=ae (ag h2 (ag lG (ag jK (ag pF (ag nR (ag atd (ag Qn (ag qZ (ag fR (ag mQ mz))))))))));have aKb:=ae A10;clear atd Qn qZ fR mQ mz hl2 h2 lG jK pF nR kx A10 atc h1 dE Ia Qk Ql wA dG hS iD hkey pC hp asZ ai hgd py hb1
    try simp only[ah,List.set,aC]
    repeat ((first|(apply az;rfl;rintro W ⟨⟨hW0,hW1⟩,hW2,hW3⟩;go_simp;with_reducible rfl)|(apply aA;rfl));simp only[ah,List.set])
    refine bg ?_;obtain⟨_,c7,_,c9,c10,_,_,gY⟩:=vA lS.out.self;have fr:=bG lS.out.self;have jU:=lS.out.asl xw;have ate:Sep (λq=>q=wb\/q=am) ix (ix.setCell ⟨wb,10,none⟩ (.int .u64 (xw:Int))) (λq=>q=wb\/q=am):=⟨rfl,rfl,rfl,by simp,λq _ hn=>aN _ _ _ _ (λe=>hn (.inl e)),λq hq=>.inl hq⟩
    have Qo:=ae jU;have atf:=ae ate;clear jU ate
    go_upto_region 17 with fail
    generalize ix.setCell ⟨wb,10,none⟩ (.int .u64 (xw:Int))=nV at*;clear c7 c9 c10 gY fr;have hgd:=ay nV;obtain⟨lR,vk,Ns,hgx⟩:=asi (Qo.out.dK.grow hgd) yk xw;have oY:Sep (λq=>q=wb\/q=am) ix lR (λq=>q=wb\/q=am):=by have z1:=atf.out;have z2:=Sep.AX ((GX.of (g:=am) hgd).trans hgx);exact⟨z2.os.trans z1.os,z2.tape.trans z1.tape,z2.output.trans z1.output,aJ z1.size z2.size,λq hq hn=>(z2.out q (bF hq z1.size) (λe=>hn (.inr e))).trans (z1.out q hq hn),λq hq=>.inl hq⟩
    have hsm:Sep (λq=>q=mm\/q=am) nV lR (λq=>q=mm\/q=am):=by have z2:=Sep.AX ((GX.of (g:=am) hgd).trans hgx);exact⟨z2.os,z2.tape,z2.output,z2.size,λq hq hn=>z2.out q hq (λe=>hn (.inr e)),λq hq=>.inl hq⟩
    have hNm:∀q,N q->q≠am:=λq hq e=>by have z1:=lS.out.low q hq;have z2:=(lS.out.maps _ (.inr (.inl rfl))).2.2;omega
    have ath:jd N lR mm (iI xw [(⟨yk,false,yd⟩:Wr)] (iI (t.seq+1) [(⟨yk,false,yd⟩:Wr)] M)) (2*k+1):=by have z1:=Qo.out.map.grow hgd;exact(z1.keep (hgx.block mm z1.lt (λe=>lS.out.apart.1 (by cases e;rfl))) (VJ hgx (λh9=>hNm _ h9 rfl))).congr H2.out.2.2.2.2.2.2.2.2.1
    have hl4:im N B lR t2 wb mm am (.slice da ds.length dc) (.slice none 0 0) (.slice none 0 0) xw (iI xw [(⟨yk,false,yd⟩:Wr)] (iI (t.seq+1) [(⟨yk,false,yd⟩:Wr)] M)) (oJ xw [(⟨yk,false,yd⟩:Wr)] (oJ (t.seq+1) [(⟨yk,false,yd⟩:Wr)] ats)) [] (2*k+1+1):=by refine Qo.out.asm hsm (by obtain⟨g,q1,q2⟩:=ath;exact⟨g,q1.more (by omega),q2⟩) ?_ (by omega);rw[H2.out.2.2.2.2.2.2.2.2.2.2];exact Ns
    have h4:=H2.out.1.side oY (λq hq=>by
     have hl2:=lS.out;rcases hq with rfl|rfl
     .exact⟨hl2.off H2.out.1.tree (.inl rfl),(hl2.tX _ (.inl rfl)).1,(hl2.tX _ (.inl rfl)).2,λcur fz hc=>by rw[hl2.self]at hc;exact absurd (cp (bh hc)).2.1 (by decide)⟩
     .exact⟨hl2.off H2.out.1.tree (.inr (.inr (.inl rfl))),(hl2.maps _ (.inr (.inl rfl))).2.1,(hl2.maps _ (.inr (.inl rfl))).2.2,λcur fz hc=>hl2.dK.Dz _ _ _ hc⟩)
    have Gy:∀W,Sep (λq=>q=wb\/q=am) ix W (λq=>q=wb\/q=am)->W.heap[wb]?=lR.heap[wb]?->(W.cell? ⟨wb,7,none⟩=some (.pointer (some ⟨t2.db,0,none⟩))/\W.cell? ⟨wb,9,none⟩=some (.map (some am))/\W.cell? ⟨wb,10,none⟩=some (.int .u64 (xw:Int))/\wb<W.heap.size)/\W.cell? ⟨b,o'+k*3,none⟩=some (.string yk)/\b<W.heap.size:=λW z1 z2=>by obtain⟨_,c7,_,c9,c10,_,_,gY⟩:=vA (z2.trans hl4.self);exact⟨⟨c7,c9,c10,gY⟩,aKb.out W z1⟩
    have ati:=Gy nV.drew (by have z1:=atf.out;exact⟨z1.os,z1.tape,z1.output,z1.size,z1.out,z1.foot⟩) ((hgx.block wb (af Qo.out.self) (λe=>Qo.out.GW (.inr (.inl rfl)) (by cases e;rfl))).symm);have atj:=Gy lR oY rfl;have nO:Grow w lR:=by have z1:=oY.below (B:=B) (λq hq=>hq.elim (λe=>by rw[e];exact(lS.out.tX _ (.inl rfl)).2) (λe=>by rw[e];exact(lS.out.maps _ (.inr (.inl rfl))).2.2)) H2.out.1.tree.aS.base;exact Below.trans H2.out.2.2.2.2.2.2.2.1 (z1.mono Qj.out)
    have Qp:aI w7.heap.size lR (.slice ma yd.length mc) yd:=H2.out.2.2.2.2.2.1.keep (λq hq=>oY.out q (H2.out.2.2.2.2.2.1.lt hq).2 (λe=>by
     obtain⟨cur,hc⟩:=H2.out.2.2.2.2.2.1.block hq;rcases e with rfl|rfl
     .rw[lS.out.self]at hc;exact absurd (cp (bh hc)).2.1 (by decide)
     .exact lS.out.dK.Dz _ _ _ hc))
    have H4:=ae (ag h4 (ag hl4 (ag nO Qp)));have Kw:=ae Gy;have VL:=ae oY;clear ath hsm hNm Ns hgx h4 hl4 nO Qp Gy oY;refine cN (λW=>(W.cell? ⟨wb,7,none⟩=some (.pointer (some ⟨t2.db,0,none⟩))/\W.cell? ⟨wb,9,none⟩=some (.map (some am))/\W.cell? ⟨wb,10,none⟩=some (.int .u64 (xw:Int))/\wb<W.heap.size)/\W.cell? ⟨b,o'+k*3,none⟩=some (.string yk)/\b<W.heap.size) [13] (by kernel_rfl) (bB λ_ _ _ _ _ h=>h) ati ?_;simp only[ct];clear ati
    repeat ((first|(apply az;rfl;rintro W ⟨⟨hW0,hW1,hW2,hW3⟩,jR,nj⟩;go_simp;with_reducible rfl)|(apply aA;rfl));simp only[ah,List.set])
    refine fK (by rfl) (λK hK=>?_);go_simp;refine hK _ _ ⟨atj,?_⟩;clear hK K vk hgd
    try simp only[ah,List.set,aC]
    refine bg ?_;clear atj
    go_upto_region 18 with fail
    have hgd:=ay lR;have atk:=Kw.out lR.drew (by have z1:=VL.out;exact⟨z1.os,z1.tape,z1.output,z1.size,z1.out,z1.foot⟩) rfl;have vq:=Vl (H4.out.1.grow hgd) (by have:=Hz.out;omega) yk;refine cN (λW=>(W.cell? ⟨wb,7,none⟩=some (.pointer (some ⟨t2.db,0,none⟩))/\W.cell? ⟨wb,9,none⟩=some (.map (some am))/\W.cell? ⟨wb,10,none⟩=some (.int .u64 (xw:Int))/\wb<W.heap.size)/\W.cell? ⟨b,o'+k*3,none⟩=some (.string yk)/\b<W.heap.size) [9] (by kernel_rfl) (bB λ_ _ _ _ _ h=>h) atk ?_;simp only[ct]
    repeat ((first|(apply az;rfl;rintro W ⟨⟨hW0,hW1,hW2,hW3⟩,jR,nj⟩;go_simp;with_reducible rfl)|(apply aA;rfl));simp only[ah,List.set])
    refine bw (by rfl) (by go_simp) vq ?_;rintro e tI hp;obtain⟨x,dy,hxg,_,cI⟩:=asp H2.out.2.1 H2.out.2.2.2.2.2.2.2.2.2.1;rw[dy]at hp;obtain⟨hp,mi⟩:=hp;obtain⟨gv,rfl,hgo⟩:∃v,e=.returned (.tuple #[v,.bool true])/\aI lR.drew.heap.size tI v x.val:=by simpa[hxg]using hp
    rw[cI]at hgo;obtain⟨ga,gc,rfl⟩:=hgo.slice;have Ib:=hgd.trans mi;have adS:=Kw.out tI (VL.out.trans (Sep.bO Ib)) (Ib.block wb (af H4.out.2.1.self));refine⟨_,rfl,adS,?_⟩;obtain⟨h4,hl4,nO,Qp⟩:=H4.out;have Qq:=Qp.grow Ib;obtain⟨h2,_,jK,pF,nR,_,Qn,_⟩:=H2.out;have mS:=h4.tree.aS.base;have hB7:B<=w7.heap.size:=PF.out.1.tree.aS.base;have Qr:∀q o,ma=some ⟨q,o,none⟩->yd.length≠0->GF N B t2 tI q:=λq o e _=>by
     have hq:(Value.slice ma yd.length mc).ownBlock=some q:=by rw[e];rfl
     have z1:=Qn q hq;exact⟨z1.1,z1.2,aJ hB7 (Qq.lt hq).1,Qq.block hq⟩
    have Qs:∀q o,ga=some ⟨q,o,none⟩->yd.length≠0->GF N B t2 tI q:=λq o e _=>by
     have hq:(Value.slice ga yd.length gc).ownBlock=some q:=by rw[e];rfl
     have z1:=(hgo.lt hq).1;have z2:lR.heap.size<=q:=z1;exact⟨λh9=>by have:=h4.tree.lt h9;omega,λh9=>by have:=(h4.tree.apart q h9).1;omega,aJ mS z2,hgo.block hq⟩
    obtain⟨_,_,em,Qt⟩:=adM (cE Qq) (λ_ q hq=>Qq.block hq);cases em;obtain⟨_,_,eg,Qu⟩:=adM (cE hgo) (λ_ q hq=>hgo.block hq);cases eg;have tW:=h4.grow Ib;have Qv:=hl4.grow Ib;have H13:=ae (ag tW (ag Qv (ag (nO.trans Ib) (ag pF (ag nR (ag H2.out.2.1 jK))))));have Hum:=ae (ag Qt Qr);have Hug:=ae (ag Qu Qs);have aPA:=ae adS;clear hp dy hxg cI hgo Ib atk vq hgd mi h4 hl4 nO Qp Qq h2 jK pF nR Qn mS hB7 Qr Qs Qt Qu tW Qv
    try simp only[ah,List.set,aC]
    repeat ((first|(apply az;rfl;rintro W ⟨⟨hW0,hW1,hW2,hW3⟩,jR,nj⟩;go_simp;with_reducible rfl)|(apply aA;rfl));simp only[ah,List.set])
    refine bg ?_;clear adS
    go_wp2_with fail
    go_loopw [13] (λiv W=>zq (GF N B t2 tI) tI yd.length iv W) (λiv _=>yd.length-(intOf iv).toNat)
    case atStart=>exact⟨0,rfl,aY _,Sep.refl _ _,λ_ _ _ h=>h⟩
    case round=>
     obtain⟨j,rfl,hj,hsj,sD⟩:=hrel;by_cases jA:j<yd.length
     .obtain⟨Qt,Qr⟩:=Hum.out
      obtain⟨q,oq,rfl,DB⟩:∃g o,ma=some ⟨g,o,none⟩/\qy tI g o yd.length:=Qt.elim (λe=>by omega) id
      have DC:=Qr q oq rfl (by omega);obtain⟨x,hx,dV,KR⟩:=(sD _ _ _ DB).cell jA;have lO:=adN x;have uB:(j:Int)<(yd.length:Int):=by omega
      have rM:(0:Int)<=(j:Int):=by omega
      have LZ:IntKind.i64.wrap ((j:Int)+1)=(j:Int)+1:=aQ _ (by have:=HS.out.2.1;have:=HS.out.2.2.2;have:=HS.out.1;omega);have aR:=ae (zq.next hsj sD jA DC (oq+j) (x+1));clear Qt Qr DB DC hsj sD;go_wp2;go_roundw
      case rel=>exact aR.out
      case measure=>simp[intOf];omega
     .obtain rfl:j=yd.length:=by omega
      have e1:¬(yd.length:Int)<(yd.length:Int):=by omega
      have Ap:=ae (ag hsj sD);clear hsj sD Hum;obtain⟨w14,aKd⟩:∃W,W=wr:=⟨_,rfl⟩
      subst aKd
      go_wp2_with fail
      go_loopw [14] (λiv W=>zq (GF N B t2 tI) tI yd.length iv W) (λiv _=>yd.length-(intOf iv).toNat)
      case atStart=>exact⟨0,rfl,aY _,Ap.out.1,Ap.out.2⟩
      case round=>
       obtain⟨j,rfl,hj,hsj,sD⟩:=hrel;by_cases jA:j<yd.length
       .obtain⟨Qu,Qs⟩:=Hug.out
        obtain⟨q,oq,rfl,DB⟩:∃g o,ga=some ⟨g,o,none⟩/\qy tI g o yd.length:=Qu.elim (λe=>by omega) id
        have DC:=Qs q oq rfl (by omega);obtain⟨x,hx,dV,KR⟩:=(sD _ _ _ DB).cell jA;have lO:=adN x;have uB:(j:Int)<(yd.length:Int):=by omega
        have rM:(0:Int)<=(j:Int):=by omega
        have LZ:IntKind.i64.wrap ((j:Int)+1)=(j:Int)+1:=aQ _ (by have:=HS.out.2.1;have:=HS.out.2.2.2;have:=HS.out.1;omega);have aR:=ae (zq.next hsj sD jA DC (oq+j) (x+1));clear Qu Qs DB DC hsj sD e1;go_wp2;go_roundw
        case rel=>exact aR.out
        case measure=>simp[intOf];omega
       .obtain rfl:j=yd.length:=by omega
        obtain⟨NU,aKe⟩:∃W,W=wr:=⟨_,rfl⟩
        subst aKe;obtain⟨tW,Qv,mi,pF,nR,lG,jK⟩:=H13.out;have oN:=tW.free hsj;have KS:=Qv.free hsj;obtain⟨_,c7,_,_,_,_,_,gY⟩:=vA KS.self;have hsc:=ase oN (by have:=Hz.out;omega) ⟨#[]⟩ ⟨#[]⟩ 5;have np:Grow w NU:=Below.trans mi ((hsj.below (λq hq=>hq.2.2.1) tW.tree.aS.base).mono Qj.out);have H15:=ae (ag oN (ag KS (ag np (ag pF (ag nR (ag lG jK))))));have Qe:=ae hsc;clear tW Qv mi pF nR lG jK oN KS hsc np hsj sD Hug Ap
        go_wp2_with fail
        (with_reducible refine Qe.out.mono ?_);rintro e kY ⟨xv,zs,R,rfl,hrow,ke,bQ,uR⟩;obtain⟨oN,KS,np,pF,nR,lG,jK⟩:=H15.out;have hzl:zs.length<=5:=by have z1:=congrArg List.length bQ;rw[bA]at z1;rw[z1];exact List.length_take_le ..
        have hval:∀z∈zs,z.e.val.length<=100000000:=λz hz=>by have z1:z.e∈zs.map Ev.e:=aV.2 ⟨z,hz,rfl⟩;rw[bQ]at z1;have z2:=(Cx ((ke.mem _).1 (List.mem_of_mem_take z1)).1).1;have z3:=oN.aJS z2;have z4:=HS.out.2.1;have z5:=HS.out.1;have z6:=Hz.out;have z7:=HS.out.2.2.2;omega
        have hes:Es (λb=>NU.heap.size<=b) kY xv zs:=hrow.es (λb hb=>hb.elim (λh9=>h9.elim) id);have hEv:=hrow.2;have Df:=oN.tree.aS.base;have hGx:∀z∈zs,∃a c,z.v=.slice a z.e.val.length c/\(z.e.val.length=0\/∃g o,a=some ⟨g,o,none⟩/\GF N B t2 kY g/\qy kY g o z.e.val.length):=λz hz=>by
         obtain⟨z1,z2⟩:=hEv z hz;obtain⟨a,c,z3,z4⟩:=adM z1 (λhne q hq=>by
          rcases z2 with z2|z2
          .exact absurd z2 hne
          .rcases z2 q hq with z5|⟨_,cur,fz,z5,rfl⟩
           .exact z5.elim
           .exact⟨cur,z5⟩)
         by_cases hne:z.e.val=[]
         .exact⟨a,c,z3,.inl (by rw[hne];rfl)⟩
         refine⟨a,c,z3,z4.imp id (λ⟨g,o9,z5,z6⟩=>⟨g,o9,z5,?_,z6⟩)⟩;rcases z2 with z2|z2
         .exact absurd z2 hne
         .rcases z2 g (by rw[z3,z5];rfl)with z7|⟨z7,cur,fz,z8,rfl⟩
          .exact z7.elim
          .exact⟨λh9=>by have:=oN.tree.lt h9;omega,λh9=>by have:=(oN.tree.apart g h9).1;omega,aJ Df z7,cur,z8⟩
        obtain⟨la,lc,rfl⟩:=hrow.slice;have eW:=λg hg=>(sg hrow (g:=g) hg).2
        have Dc:=ae hes;have HGx:=ae (ag hGx eW);have Hzv:=ae (ag hzl hval);have H16:=ae (ag (oN.grow uR) (ag (KS.grow uR) (ag (np.trans uR) (ag pF (ag nR (ag lG jK))))));clear hes hGx hzl hval hrow ke bQ uR hEv Df oN KS np pF nR lG jK Qe H15 c7 gY eW
        go_wp2_with fail
        go_loopw [16] (λiv W=>zq (GF N B t2 kY) kY zs.length iv W) (λiv _=>zs.length-(intOf iv).toNat)
        case atStart=>exact⟨0,rfl,aY _,Sep.refl _ _,λ_ _ _ h=>h⟩
        case round=>
         obtain⟨j,rfl,hj,hsj,sD⟩:=hrel;obtain⟨w17,aKh⟩:∃W,W=wr:=⟨_,rfl⟩
         subst aKh;by_cases jA:j<zs.length
         .obtain⟨z,hz⟩:∃z,zs[j]?=some z:=⟨zs[j],by simp[jA]⟩
          obtain⟨a,c,hzv,hzu⟩:=HGx.out.1 z (dm hz);obtain⟨b3,o3,c3,hv3,_,hb3,atw⟩:=Dc.out.addr hz;cases hv3;obtain⟨_,_,_,e3⟩:=Cw atw hz;rw[hzv]at e3;obtain⟨axF,hc3⟩:=HGx.out.2 b3 rfl;obtain⟨zn,KN⟩:∃n,n=z.e.val.length:=⟨_,rfl⟩
          have hzb:=Hzv.out.2 z (dm hz);rw[<-KN]at hzu e3 hzb;have uB:(j:Int)<(zs.length:Int):=by omega
          have rM:(0:Int)<=(j:Int):=by omega
          have LZ:IntKind.i64.wrap ((j:Int)+1)=(j:Int)+1:=aQ _ (by have:=Hzv.out.1;omega);have R3:∀W,Sep (GF N B t2 kY) kY W (GF N B t2 kY)->W.cell? ⟨b3,o3+j*4+3,none⟩=some (.slice a zn c)/\b3<W.heap.size:=λW Qm=>by
           have e9:=Qm.out b3 hb3 (λh9=>by obtain⟨aPB,h8⟩:=h9.2.2.2;rw[hc3]at h8;exact absurd (cp (bh h8)).2.1 (by decide))
           exact⟨by rw[<-e3];simp only[World.cell?,e9],bF hb3 Qm.size⟩
          have HR3:=ae R3;have Hzu:=ae hzu;have Hjl:=ae jA;have Ap:=ae (ag hsj sD);clear hzv atw e3 hc3 R3 hzu KN hz hb3 hsj sD
          go_wp2_with fail
          go_loopw [17] (λiv W=>zq (GF N B t2 kY) kY zn iv W) (λiv _=>zn-(intOf iv).toNat)
          case atStart=>exact⟨0,rfl,aY _,Ap.out.1,Ap.out.2⟩
          case round=>
           obtain⟨i2,rfl,Lh,kn,VN⟩:=hrel;obtain⟨e3,l3⟩:=HR3.out wr kn;by_cases lz:i2<zn
           .obtain⟨q,oq,rfl,DC,DB⟩:∃g o,a=some ⟨g,o,none⟩/\GF N B t2 kY g/\qy kY g o zn:=Hzu.out.elim (λe=>by omega) id
            have Ph:Sep (GF N B t2 kY) kY wr.drew (GF N B t2 kY):=⟨kn.os,kn.tape,kn.output,kn.size,kn.out,kn.foot⟩
            have hud:∀g o m,qy kY g o m->qy wr.drew g o m:=λg o m h9=>VN g o m h9
            obtain⟨x,hx,dV,KR⟩:=(hud _ _ _ DB).cell lz;have lO:=adN x;have aPC:(i2:Int)<(zn:Int):=by omega
            have aPD:(0:Int)<=(i2:Int):=by omega
            have fT:IntKind.i64.wrap ((i2:Int)+1)=(i2:Int)+1:=aQ _ (by omega);have aR:=ae (zq.next Ph hud lz DC (oq+i2) (x+1));have hS:(wr.drew.cell? ⟨b3,o3+j*4+3,none⟩=some (.slice (some ⟨q,oq,none⟩) zn c)/\b3<wr.drew.heap.size)/\wr.drew.cell? ⟨q,oq+i2,none⟩=some (.int .u8 (x.toNat:Int))/\q<wr.drew.heap.size:=⟨⟨e3,l3⟩,hx,KR⟩
            have Gj:=ae (ag hS dV);clear DB DC kn VN Ph hud hx KR dV
            go_upto_region 36 with fail
            refine ue (λW=>(W.cell? ⟨b3,o3+j*4+3,none⟩=some (.slice (some ⟨q,oq,none⟩) zn c)/\b3<W.heap.size)/\W.cell? ⟨q,oq+i2,none⟩=some (.int .u8 (x.toNat:Int))/\q<W.heap.size) [(0,false),(1,false),(2,false),(3,false),(4,false),(5,false),(6,false),(7,false),(8,false),(9,false),(10,false),(11,false),(12,false),(13,false),(14,false),(15,false)] 16 (by kernel_rfl) (by kernel_rfl) (bB λ_ _ _ _ _ h=>h) hS ?_;clear e3 l3 hS;simp only[cm,nth]
            repeat ((first|(apply az;rfl;rintro W ⟨⟨hW0,hW1⟩,hW2,hW3⟩;go_simp;with_reducible rfl)|(apply aA;rfl));simp only[ah,List.set])
            refine bg (uf (by rfl) (λK hK=>?_));obtain⟨⟨⟨e3,l3⟩,hx,KR⟩,dV⟩:=Gj.out;go_simp;refine hK _ _ ?_;clear hK K e3 l3 hx KR dV
            try simp only[ah,List.set,aC]
            go_wp2;go_roundw
            case rel=>exact aR.out
            case measure=>simp[intOf];omega
           .obtain rfl:i2=zn:=by omega
            have e1:¬(i2:Int)<(i2:Int):=by omega
            have aR:Hid (zq (GF N B t2 kY) kY zs.length (.int .i64 ((j:Int)+1)) wr):=ae ⟨j+1,by simp,Hjl.out,kn,VN⟩;clear kn VN;go_wp2;go_roundw
            case rel=>exact aR.out
            case measure=>simp[intOf];have:=Hjl.out;omega
         .obtain rfl:j=zs.length:=by omega
          have e1:¬(zs.length:Int)<(zs.length:Int):=by omega
          obtain⟨GL,aty,uR,pF,nR,lG,jK⟩:=H16.out;have hrel:Bo B Nn N w wb mm am (.slice da ds.length dc) (k+1) (bj ((ys.map (·.x)).take (k+1))) w17:=by have hS:=HS.out.1;refine⟨t2,f2,T2,K2,s2,_,_,by rw[hS];exact GL.free hsj,?_,lG,pF,by rw[hS];exact nR,Below.trans uR ((hsj.below (λq hq=>hq.2.2.1) GL.tree.aS.base).mono Qj.out)⟩;rw[jK];exact(aty.free hsj).asN (by omega)
          have aR:=ae hrel;clear GL aty uR pF nR lG jK hsj sD hrel;go_wp2;go_roundw
          case rel=>exact⟨k+1,by simp,iy.out,aR.out⟩
          case measure=>simp[intOf];have:=iy.out;omega
  .obtain rfl:k=ys.length:=by omega
   have e1:¬(ys.length:Int)<(ys.length:Int):=by omega
   have hsm:=aJp h hl ht (by have:=Hz.out;omega) (by have:=Hz.out;omega);have PN:=ae hsm;have Hg:=ae hg;clear hsm h hl ht dG hP hg
   go_wp2_with fail
   (with_reducible refine PN.out.mono ?_);rintro e w8 ⟨rfl,cW⟩;have aZ:=ae (Hg.out.trans cW);clear cW PN;go_wp2;go_ret;exact⟨rfl,aZ.out⟩
end
end Go.Proofs.YtoolkdapflaeeaaGreatDoor
namespace Go.Proofs.YtoolkdapflaeeaaGreatDoor
open Go.ChangeShapes Go.WideShapes Go.ChangeAt Go.RowKit Go.Gl Go.aF Mn
section
theorem adV{w:World}{a:Addr}(b:w.cell? a=some v):a.spot=none:=by
 unfold World.cell? at b
 split at b
 .cases c:a.spot with
  |none=>rfl
  |some a=>simp[c]at b
 .cases b
section
variable{H:Type}{enc:TypeId×Value→H}{w:World}{base:Nat}{spare:Nat→Bool}{held:Bool}
theorem atz{a:Addr}{cs:List Value}(b:w.cells? base a 3=some cs):∃v0 v1 v2,cs=[v0,v1,v2]/\w.cell? a=some v0/\w.cell? (a.add 1)=some v1/\w.cell? (a.add 2)=some v2:=by
 unfold World.cells? at b
 split at b
 .have e:List.range 3=[0,1,2]:=rfl;rw[e]at b;simp only[List.mapM_cons,List.mapM_nil,Option.bind_eq_bind,Option.bind_eq_some_iff,Option.pure_def,Option.some.injEq]at b;obtain⟨v0,a,_,⟨v1,c,_,⟨v2,d,_,rfl,rfl⟩,rfl⟩,rfl⟩:=b;exact⟨v0,v1,v2,rfl,by simpa[Addr.add]using a,c,d⟩
 .cases b
theorem aKk(d:DataW H):1<=Rows.uptoBulk d:=by
 cases d with
 |lit a=>cases a<;>simp[Rows.uptoBulk]
 |nil=>simp[Rows.uptoBulk]
 |ptr d=>simp[Rows.uptoBulk]
 |slice a spare=>simp[Rows.uptoBulk]
 |agg a=>simp[Rows.uptoBulk]
 |iface t d=>simp[Rows.uptoBulk]
 |map a=>simp[Rows.uptoBulk]
 |held a=>simp[Rows.uptoBulk]
theorem atB:∀l:List (DataW H),l.length<=Rows.uptoBulkAll l
 | []=>aY _
 |x::r=>by have:=aKk x;have:=atB r;simp only[Rows.uptoBulkAll,dD];omega
theorem atC(D:Nat->DataW H)(g:Nat->Nat):∀a:List Nat,(∀i∈a,g i<=Rows.uptoBulk (D i))->(a.map g).sum<=Rows.uptoBulkAll (a.map D)
 | [],_=>aY _
 |i::a,h=>by have b:=h i (ej ..);have b:=atC D g a (λa b=>h a (fE _ b));simp only[cr,List.sum_cons,Rows.uptoBulkAll];omega
theorem adW{a:Option Addr}{l:Nat}{x:DataW H×List MemPlace}(d:Tryz.prog.underlying t=some (.slice e))(f:DataW.trod enc Tryz.prog w base spare held fuel t [.slice a l c]=some x):l<=Rows.uptoBulk x.1:=by
 rcases Go.Deep.open_slice d f with⟨b,_⟩|⟨j,k,o,m,n,g,p,b,_,q,r,s,h,u⟩
 .simp only[List.cons.injEq,and_true]at b;cases b;exact aY _
 .simp only[List.cons.injEq,and_true]at b;cases b;rw[h];have i:=atB ((List.range l).map g);simp only[bA,List.length_range]at i;simp only[Rows.uptoBulk];omega
theorem aKl{x:DataW H×List MemPlace}(b:DataW.trod enc Tryz.prog w base spare held fuel 49 [v]=some x):∃l:List UInt8,Bv w v l/\l.length<=Rows.uptoBulk x.1:=by
 have z:=b;rcases open_ints Tryz.underlying49 Tryz.underlying5 (by kernel_rfl) b with⟨a,_⟩|⟨j,l,c,d,a,_,k,m,A,_,p,B⟩
 .simp only[List.cons.injEq,and_true]at a;exact⟨[],⟨none,0,by rw[a];rfl,aw _,aY _,λ_=>rfl,.inl rfl⟩,aY _⟩
 .simp only[List.cons.injEq,and_true]at a
  subst a;have C:=adW Tryz.underlying49 z;have F:l<=d.length:=by rw[A];split<;>omega
  by_cases D:l=0
  .subst D;exact⟨[],⟨some j,c,rfl,k,m,λb=>(by cases b),.inl rfl⟩,aY _⟩
  .have q:=p 0 (by omega)
   have r:=adV q;obtain⟨h,o,G⟩:=j;simp only[Addr.add,if_true]at r;subst r;have s:=World.block_lt_of_cell? w _ q;rw[Addr.add_lit]at s;have e:((d.take l).map λn=>UInt8.ofNat n.toNat).length=l:=by simp;omega
   have a:∀(f:Nat)(i:UInt8),((d.take l).map λn=>UInt8.ofNat n.toNat)[f]?=some i->w.cell? ⟨h,o+f,none⟩=some (.int .u8 i.toNat):=λf i t=>by
    simp only[gQ,Option.map_eq_some_iff]at t;obtain⟨n,g,rfl⟩:=t;rw[List.getElem?_take]at g
    split at g
    .have u:=p f (by omega)
     rw[Addr.add_lit]at u;rw[u];have E:d.getD f 0=n:=by simp[List.getD,g]
     rw[E];have y:=B n (dm g);simp only[Lit.wf,Bool.and_eq_true,decide_eq_true_eq]at y;have I:(0:Int)<=n/\n<=255:=y;congr 2;rw[UInt8.toNat_ofNat_of_lt' (by simp[UInt8.size];omega)];omega
    .cases g
   exact⟨(d.take l).map λn=>UInt8.ofNat n.toNat,⟨some ⟨h,o,none⟩,c,by rw[e],by rw[e];exact k,m,λb=>(by cases b),.inr ⟨h,o,rfl,s,a⟩⟩,by rw[e];exact C⟩
theorem aKm{x:DataW H×List MemPlace}(a:DataW.trod enc Tryz.prog w base spare held fuel 24 [v]=some x)(d:Rows.uptoBulk x.1<=1048576):∃d,Iw (λb=>b<w.heap.size) w v d:=by
 have i:=a;rcases open_ints Tryz.underlying24 Tryz.underlying3 (by kernel_rfl) a with⟨a,_⟩|⟨g,d,c,f,a,_,h,h,j,_,h,k⟩
 .simp only[List.cons.injEq,and_true]at a;exact⟨[],none,0,by rw[a];rfl,aY _,.inl rfl⟩
 .simp only[List.cons.injEq,and_true]at a
  subst a;have a:=adW Tryz.underlying24 i;have a:d<=f.length:=by rw[j];split<;>omega
  by_cases a:d=0
  .subst a;exact⟨[],some g,c,rfl,aY _,.inl rfl⟩
  .have i:=h 0 (by omega)
   have a:=adV i;obtain⟨b,o,j⟩:=g;simp only[Addr.add,if_true]at a;subst a;have a:=World.block_lt_of_cell? w _ i;rw[Addr.add_lit]at a;have e:(f.take d).length=d:=by simp;omega
   refine⟨f.take d,some ⟨b,o,none⟩,c,by rw[e],by rw[e];omega,.inr ⟨b,o,rfl,a,a,λc a a=>?_⟩⟩;rw[List.getElem?_take]at a
   split at a
   .have b:=h c (by omega);rw[Addr.add_lit]at b;rw[b];simp[List.getD,a]
   .cases a
theorem aKn(n:cs.size=6){x:DataW H×List MemPlace}(p:DataW.trod enc Tryz.prog w base spare held fuel 26 (Value.agg cs).cells.toList=some x)(g:Rows.uptoBulk x.1<=1048576):∃o dv ds,Value.agg cs=vr o dv/\Iw (λb=>b<w.heap.size) w dv ds:=by
 obtain⟨q⟩:=cs
 match q,n with
 | [v0,v1,v2,v3,v4,v5],_=>
 obtain⟨r,m,_,s,O,t,d⟩:=DataW.trod_struct Tryz.underlying26 p;have c:Tryz.prog.cellsOf 3=1:=by kernel_rfl
 have u:Tryz.prog.cellsOf 24=1:=by kernel_rfl
 have v:Tryz.prog.cellsOf 23=3:=by kernel_rfl
 match r,t with
 | [y0,y1,y2,y3],_=>
  have y:DataW.trod enc Tryz.prog w base spare held m 3 [v0]=some y0:=by have a:=d 0 _ rfl;simpa[Value.cells,c]using a
  have z:DataW.trod enc Tryz.prog w base spare held m 3 [v1]=some y1:=by have a:=d 1 _ rfl;simpa[Value.cells,c]using a
  have A:DataW.trod enc Tryz.prog w base spare held m 23 [v2,v3,v4]=some y2:=by have a:=d 2 _ rfl;simpa[Value.cells,v]using a
  have B:DataW.trod enc Tryz.prog w base spare held m 24 [v5]=some y3:=by have a:=d 3 _ rfl;simpa[Value.cells,u]using a
  obtain⟨C,e,_,P,Q,D,f⟩:=DataW.trod_struct Tryz.underlying23 A
  match C,D with
  | [z0,z1,z2],_=>
   have E:DataW.trod enc Tryz.prog w base spare held e 3 [v2]=some z0:=by have a:=f 0 _ rfl;simpa[c]using a
   have F:DataW.trod enc Tryz.prog w base spare held e 3 [v3]=some z1:=by have a:=f 1 _ rfl;simpa[c]using a
   have G:DataW.trod enc Tryz.prog w base spare held e 3 [v4]=some z2:=by have a:=f 2 _ rfl;simpa[c]using a
   obtain⟨I,h,_⟩:=DataW.trod_int Tryz.underlying3 y;obtain⟨J,i,_⟩:=DataW.trod_int Tryz.underlying3 z;obtain⟨K,j,_⟩:=DataW.trod_int Tryz.underlying3 E;obtain⟨L,k,_⟩:=DataW.trod_int Tryz.underlying3 F;obtain⟨M,l,_⟩:=DataW.trod_int Tryz.underlying3 G;simp only[List.cons.injEq,and_true]at h i j k l;subst h i j k l;obtain⟨ds,N⟩:=aKm B (by rw[s]at g;simp only[Rows.uptoBulk,Rows.uptoBulkAll,cr,List.map_nil]at g;omega)
   exact⟨⟨I,J,K,L,M⟩,v5,ds,rfl,N⟩
theorem aKp{b:Nat}{cs:List Value}{x:DataW H×List MemPlace}(t:w.cells? base ⟨b,o,none⟩ 3=some cs)(d:DataW.trod enc Tryz.prog w base spare held n 51 cs=some x):∃y:Wv,(∀(c:Nat)(f:Value),(mF y)[c]?=some f->w.cell? ⟨b,o+c,none⟩=some f)/\pz (λb=>b<w.heap.size) w y/\y.x.key.size+y.x.val.length<=Rows.uptoBulk x.1:=by
 obtain⟨u,m,_,v,g,z,h⟩:=DataW.trod_struct Tryz.underlying51 d;obtain⟨A,B,k,rfl,C,l,p⟩:=atz t;rw[Addr.add_lit]at l p;have i:Tryz.prog.cellsOf 9=1:=by kernel_rfl
 have q:Tryz.prog.cellsOf 4=1:=by kernel_rfl
 have D:Tryz.prog.cellsOf 49=1:=by kernel_rfl
 match u,z with
 | [y0,y1,y2],_=>
  have E:DataW.trod enc Tryz.prog w base spare held m 9 [A]=some y0:=by have e:=h 0 _ rfl;simpa[i]using e
  have F:DataW.trod enc Tryz.prog w base spare held m 4 [B]=some y1:=by have e:=h 1 _ rfl;simpa[i,q]using e
  have G:DataW.trod enc Tryz.prog w base spare held m 49 [k]=some y2:=by have e:=h 2 _ rfl;simpa[i,q,D]using e
  obtain⟨j,r,I,_⟩:=DataW.trod_string Tryz.underlying9 E;obtain⟨J,s,_⟩:=DataW.trod_bool Tryz.underlying4 F;simp only[List.cons.injEq,and_true]at r s;subst r s;obtain⟨K,g,N⟩:=aKl G;refine⟨⟨⟨j,J,K⟩,k⟩,λc f a=>?_,⟨g,?_⟩,?_⟩
  .match c,a with
   |0,a=>cases a;exact C
   |1,a=>cases a;exact l
   |2,a=>cases a;exact p
   |c+3,a=>simp[mF]at a
  .obtain⟨O,c,rfl,_,_,_,d⟩:=g
   rcases d with d|⟨b',o',rfl,hb,_⟩
   .exact .inl d
   .exact .inr λb L=>by cases L;exact hb
  .rw[v,I]
   have M:j.data.toList.length=j.size:=by rw[ia];rfl
   simp only[Rows.uptoBulk,Rows.uptoBulkAll,cr,List.map_nil,M];omega
theorem aKq{x:DataW H×List MemPlace}(d:DataW.trod enc Tryz.prog w base spare held fuel 27 [v]=some x):∃k,Ws (λb=>b<w.heap.size) w v k/\k.length<=Rows.uptoBulk x.1/\bj (k.map (·.x))<=Rows.uptoBulk x.1:=by
 have F:=d;have G:Tryz.prog.cellsOf 51=3:=by kernel_rfl
 rcases Go.Deep.open_slice Tryz.underlying27 d with⟨g,_⟩|⟨t,a,u,m,n,y,S,g,_,I,z,J,K,l⟩
 .simp only[List.cons.injEq,and_true]at g;exact⟨[],⟨⟨none,0,by rw[g];rfl,aw _,aY _,λ_=>rfl,.inl rfl⟩,by simp⟩,aY _,aY _⟩
 .simp only[List.cons.injEq,and_true]at g
  subst g;have L:=adW Tryz.underlying27 F;rw[G]at l;have T:a<=m:=by rw[J];split<;>omega
  by_cases M:a=0
  .subst M;exact⟨[],⟨⟨some t,u,rfl,aY _,z,λd=>(by cases d),.inl rfl⟩,by simp⟩,aY _,aY _⟩
  .obtain⟨U,N,_⟩:=l 0 (by omega)
   obtain⟨b,o,O⟩:=t;obtain⟨P,_,_,_,Q,_⟩:=atz N;have A:w.cell? ⟨b,o,O⟩=some P:=by simpa[Addr.add]using Q
   have B:=adV A;simp only at B;subst B;have C:=World.block_lt_of_cell? w _ A;have R:∀i,i<a->∃e:Wv,(∀(c:Nat)(D:Value),(mF e)[c]?=some D->w.cell? ⟨b,o+i*3+c,none⟩=some D)/\pz (λb=>b<w.heap.size) w e/\e.x.key.size+e.x.val.length<=Rows.uptoBulk (y i):=λi h=>by obtain⟨V,p,q⟩:=l i (by omega);rw[Addr.add_lit]at p;exact aKp p q
   have:Inhabited Wv:=⟨⟨⟨⟨#[]⟩,false,[]⟩,.slice none 0 0⟩⟩
   obtain⟨f,r⟩:=Go.Deep.choose_lt R;refine⟨(List.range a).map f,⟨⟨some ⟨b,o,none⟩,u,by simp,by simpa using I,z,λd=>(by cases d),.inr ⟨b,o,rfl,C,C,λi e j=>?_⟩⟩,λe j=>?_⟩,by simpa using L,?_⟩
   .simp only[gQ,Option.map_eq_some_iff]at j
    obtain⟨W,s,rfl⟩:=j;have E:i<a:=by have:=(dW.1 s).1;simpa using this
    rw[List.getElem?_range E]at s;cases s;exact(r i E).1
   .obtain⟨i,h,rfl⟩:=aV.1 j;exact(r i (by simpa using h)).2.1
   .have p:=atC y (λi=>(f i).x.key.size+(f i).x.val.length) (List.range a) (λi h=>(r i (by simpa using h)).2.2)
    rw[K];have q:bj (((List.range a).map f).map (·.x))=((List.range a).map λi=>(f i).x.key.size+(f i).x.val.length).sum:=by unfold bj;rw[fh,fh];rfl
    rw[q];simp only[Rows.uptoBulk];omega
end
end
end Go.Proofs.YtoolkdapflaeeaaGreatDoor
namespace Go.Proofs.YtoolkdapflaeeaaGreatDoor
open Go.RowKit Go.Gl Go.aF Go.Sort
theorem Tryz.aKr:Go.Proofs.LaysM.n171 Tryz.prog Tryz.afk:=by constructor<;>intros<;>first|kernel_rfl|exact Tryz.itoa
theorem aKs(w:World)(k:Nat)(a:Array Obj):Grow w (Go.Sort.grow (w.drewN k) a):=by
 refine⟨rfl,rfl,rfl,?_,λb c=>?_⟩
 .show w.heap.size<=(w.heap++a).size;simp
 .show(w.heap++a)[b]?=w.heap[b]?;exact Array.getElem?_append_left c
theorem aKt(a:Lib.TabIs Tryz.prog W "internal/strconv.uint64pow10" .u64 Lib.pow10Tab):df 1000 W.heap.size W:=λn b b f=>by
 have g:Lib.TabIs Tryz.prog b "internal/strconv.uint64pow10" .u64 Lib.pow10Tab:=by
  unfold Lib.TabIs World.var? at a ⊢;cases c:Tryz.prog.globalNamed "internal/strconv.uint64pow10" with
  |none=>rw[c]at a;cases a
  |some d=>
   rw[c]at a;simp only[Option.bind_some]at a ⊢;cases c:W.heap[d]? with
   |none=>rw[c]at a;cases a
   |some o=>rw[f d (af c)];exact a
 refine(Any.strconv_Itoa Tryz.aKr (n:Int) (by omega) (by omega) b g).mono ?_;rintro e a ⟨rfl,a,c,rfl⟩;exact⟨by rw[Lib.itoa_nonneg],aKs b a c⟩
end Go.Proofs.YtoolkdapflaeeaaGreatDoor
namespace Go.Proofs.YtoolkdapflaeeaaGreatDoor.lsmOwn
open Go.ChangeShapes Go.WideShapes Go.ChangeAt Go.RowKit Go.Gl Go.aF Mn
theorem own:ownKnob Tryz.prog.godebug=none:=by kernel_rfl
theorem laidOut:laidOutB Tryz.prog=true:=by kernel_rfl
theorem adX{H:Type}{d:DataW H}:∀{l:List (DataW H)} {m:Nat},d∈l->Rows.uptoBulkAll l<=m->Rows.uptoBulk d<=m
 |x::r,m,a,h=>by
  rw[Rows.uptoBulkAll]at h;rcases bI.1 a with rfl|a
  .omega
  .have:=adX a (m:=m) (by omega);omega
theorem tab(a:laidMetH Tryz.prog Rows.lsmOwnUptoRow.laid W):df 1000 W.heap.size W:=by rw[MakeChecks.laidMetH_plain _ _ _ (by kernel_rfl)]at a;have b:laidMet Tryz.prog (("internal/strconv.uint64pow10",Rows.laid_internal_strconv_uint64pow10):: [("strconv.ErrRange",Rows.laid_strconv_ErrRange),("strconv.ErrSyntax",Rows.laid_strconv_ErrSyntax)]) W:=laidMet.tail (laidMet.tail a);rw[show(Rows.laid_internal_strconv_uint64pow10:DataW Unit)=Lib.tabData .u64 Lib.pow10Tab by kernel_rfl]at b;exact aKt (Lib.tabIs_of_head (g:=2) (t:=355) (e:=37) (n:=20) (by kernel_rfl) (by kernel_rfl) (by kernel_rfl) (by kernel_rfl) (by kernel_rfl) (by kernel_rfl) b)
theorem contract(H:Type)(enc:TypeId×Value->H)(W:World)(base:Nat)(args:Array Value)(ds gs:List (DataW H))(before:List MemPlace)(hval:∀(j:Nat) t v,Tryz.f4.params[j]?=some t->args[j]?=some v->Value.okWide Tryz.prog W .any base t v)(hW:DataW.Whole enc Tryz.prog Tryz.f4.params.toList Rows.lsmOwnSpec.vars false W args.toList ds gs before)(hk:Rows.uptoBulkAll (ds++gs)<=1048576)(hL:laidMetH Tryz.prog Rows.lsmOwnUptoRow.laid W):
  Calls Tryz.prog 4 args W λe W'=>∃v,e=.returned v/\Rows.lsmOwnSpec.post enc Tryz.prog Tryz.f4 false true false false W args v W':=by
 have hW':=hW;obtain⟨p,q,hA0,hV,rfl,Vz,iV⟩:=hW;have hA:DataW.TrodAll enc Tryz.prog W 0 (λ_=>true) true Tryz.f4.params.toList args.toList ds p:=hA0;rw[Tryz.params4]at hA hval;obtain⟨v0,vs0,d0,ds0,p0,q0,aPG,rfl,rfl,h0,r0⟩:=trodAll_cons hA;obtain⟨v1,vs1,d1,ds1,p1,q1,rfl,rfl,rfl,h1,r1⟩:=trodAll_cons r0;obtain⟨rfl,rfl,rfl⟩:=trodAll_nil r1;obtain rfl:args=#[v0,v1]:=by cases args;simp_all
 obtain⟨rfl,rfl⟩:=trodVars_none hV;obtain⟨c0,rfl,hs0⟩:=okWide_struct Tryz.underlying26 (hval 0 26 v0 rfl rfl);obtain⟨a1,SS,wL,rfl⟩:=okWide_slice Tryz.underlying27 (hval 1 27 v1 rfl rfl);have k0:=h0;have lt0:∀x∈p0,x.block<W.heap.size:=by obtain⟨m,hm⟩:=k0;exact DataW.trod_lt m _ _ _ hm
 have k1:=h1;have YS:∀x∈p1,x.block<W.heap.size:=by obtain⟨m,hm⟩:=k1;exact DataW.trod_lt m _ _ _ hm
 obtain⟨o0,dv0,dr0,ho0,hd0⟩:∃o dv dr,Value.agg c0=vr o dv/\Iw (λb=>b<W.heap.size) W dv dr:=by obtain⟨fuel,hf⟩:=h0;exact aKn (hs0.trans (by kernel_rfl)) hf (adX (d:=d0) (by simp) hk)
 obtain⟨x1,bT⟩:∃ys,Ws (λb=>b<W.heap.size) W (.slice a1 SS wL) ys/\ys.length<=Rows.uptoBulk d1/\bj (ys.map (·.x))<=Rows.uptoBulk d1:=by obtain⟨fuel,hf⟩:=h1;exact aKq hf
 clear hA0;have walk:Calls Tryz.prog 4 #[.agg c0,.slice a1 SS wL] W λe w'=>e=.returned (.bool true)/\Grow W w':=by rw[ho0];exact aJT (Nn:=1000) (tab hL) (aw _) hd0 bT.1 (λb hb=>hb) (by have:=bT.2.1;have:=bT.2.2;have:=adX (d:=d1) (by simp) hk;omega)
 refine(walk).mono λe W' ⟨he,bel⟩=>?_
 subst he;exact⟨_,rfl,_,_,_,[],_,[],hW',trodAll_mk1 (shut_bool Tryz.underlying4 _),(trodAll_cons_mk (Below.trod laidOut (by kernel_rfl) (of_decide_eq_true (by kernel_rfl)) k0 bel lt0) (trodAll_cons_mk (Below.trod laidOut (by kernel_rfl) (of_decide_eq_true (by kernel_rfl)) k1 bel YS) trodAll_mk0)),rfl,bel.frame _,λh=>by cases h⟩
noncomputable def adZ(a:Os):World:=World.laidAll Tryz.prog a Rows.lsmOwnUptoRow.laid
theorem aKx(a:Os):laidMet Tryz.prog Rows.lsmOwnUptoRow.laid ((adZ a).forCall (λ_ _=>0) ⟨#[],#[.agg #[.int .i64 0,.int .i64 0,.int .i64 0,.int .i64 0,.int .i64 0,.slice none 0 0],.slice none 0 0],[]⟩).memory:=
 laidMet_laidAll _ (by kernel_rfl) (by kernel_rfl)
theorem reads(a:Os){H:Type}(enc:TypeId×Value->H):∃b,DataW.whole enc Tryz.prog ((adZ a).forCall (λ_ _=>0) ⟨#[],#[.agg #[.int .i64 0,.int .i64 0,.int .i64 0,.int .i64 0,.int .i64 0,.slice none 0 0],.slice none 0 0],[]⟩).memory Tryz.f4.params.toList Rows.lsmOwnSpec.vars false #[(.agg #[.int .i64 0,.int .i64 0,.int .i64 0,.int .i64 0,.int .i64 0,.slice none 0 0]:Value),.slice none 0 0].toList 8=some ([.agg [.lit (.int .i64 0),.lit (.int .i64 0),.agg [.lit (.int .i64 0),.lit (.int .i64 0),.lit (.int .i64 0)],.nil],.nil],[],b):=
 ⟨[],by kernel_rfl⟩
theorem lifted(a:Os)(b:a.Started)(H:Type)(enc:TypeId×Value->H)(F:Stop.Interp):
  ReturnsInHanded {} Tryz.checked a 4 .any ((Rows.OpenSpec.upto Rows.lsmOwnSpec).preRow enc Tryz.prog Tryz.f4 Rows.lsmOwnUptoRow.domain false Rows.lsmOwnUptoRow.laid) (((Rows.OpenSpec.upto Rows.lsmOwnSpec).at F).post enc Tryz.prog Tryz.f4 false true false false):=by
 obtain⟨c,c⟩:=reads a enc;refine returnsInHanded_of_row (C:=Tryz.checked) (s:=Rows.OpenSpec.upto Rows.lsmOwnSpec) own b (by kernel_rfl) Tryz.func4
  (witness_row_at (enc:=enc) (C:=Tryz.checked) false (adZ a) #[.agg #[.int .i64 0,.int .i64 0,.int .i64 0,.int .i64 0,.int .i64 0,.slice none 0 0],.slice none 0 0] (World.laidAll_os _ _ _) (by kernel_rfl) (by kernel_rfl) (by kernel_rfl)
   (OpenSpec.preRow_of_cond 8 c (by kernel_rfl) (λb b=>by cases b;kernel_rfl) (by kernel_rfl) (aKx a))) ?_
 intro W base a ds b c d e _ f _ g _ _;exact contract H enc W base a ds b c d e (of_decide_eq_true (f _ rfl)) g
section
theorem aKz:(Rows.lsmOwnUptoRow.inPlace==Tryz.pinned.checked.prog.inPlace 4)=true:=by kernel_rfl
theorem aKA:(Rows.lsmOwnUptoRow.unfollowed==Tryz.pinned.checked.prog.unfollowed 4)=true:=by kernel_rfl
theorem aKB:(Rows.lsmOwnUptoRow.recurses==Tryz.pinned.checked.prog.recurses 4)=true:=by kernel_rfl
theorem aKC:(Rows.lsmOwnUptoRow.named==Tryz.pinned.checked.prog.varsNamed 4)=true:=by kernel_rfl
theorem closed:joinedFacts Tryz.pinned.checked.prog 4 Tryz.f4 (Rows.OpenSpec.upto Rows.lsmOwnSpec).bare Rows.lsmOwnUptoRow=true:=by unfold joinedFacts;rw[aKz,aKA,aKB,aKC];kernel_rfl
theorem aKD:Rows.LsmOwnUptoSaid:=
 OpenClaim.holds_of_cond 4 Tryz.f4 rfl rfl rfl rfl rfl rfl rfl ⟨rfl,rfl,rfl,rfl,rfl⟩ rfl rfl rfl rfl rfl (by kernel_rfl) Tryz.func4 closed
  (of_decide_eq_true (by kernel_rfl)) (by unfold Func.isWrapper;first|(rw[if_pos (by decide+kernel)];kernel_rfl)|(rw[if_neg (by decide+kernel)];exact⟨rfl,rfl⟩))
  (λa b H enc _ c=>by rw[OpenClaim.pre_eq_preRow];exact lifted a b H enc c)
theorem plain(a:FuncId)(fn:Func)(b:Tryz.pinned.checked.prog.funcNamed "glacier/glacierlaw10.LsmOwn"=some a)(c:Tryz.pinned.checked.prog.funcs[a]?=some fn):
  true=Tryz.pinned.checked.prog.looks []/\∀(j:Nat) t,fn.params[j]?=some t->Tryz.pinned.checked.prog.wantsStandIn t=false:=by
 obtain rfl:a=4:=bh ((show Tryz.prog.funcNamed "glacier/glacierlaw10.LsmOwn"=some 4 by kernel_rfl).symm.trans b)|>.symm;obtain rfl:fn=Tryz.f4:=(bh (Tryz.func4.symm.trans c)).symm;refine⟨by kernel_rfl,λj t a=>?_⟩;rw[Tryz.params4]at a;have b:t∈ [26,27]:=by simpa using Array.mem_of_getElem? a
 have a:([26,27].all λc=> !Tryz.prog.wantsStandIn c)=true:=by kernel_rfl
 exact(show Tryz.prog.wantsStandIn t=false by simpa using List.all_eq_true.1 a t b)
theorem proved:Rows.LsmOwnUptoCardSaid:=
 Claim7.holds_tied_plain_at .later [] _ _ _ _ aKD (λ_ a=>by cases a) (by kernel_rfl) (λ_ a=>by cases a) lsmOwnUpto_row_tie rfl ⟨rfl,rfl⟩ (by kernel_rfl) rfl plain (by kernel_rfl)
#print axioms proved
end
end Go.Proofs.YtoolkdapflaeeaaGreatDoor.lsmOwn
