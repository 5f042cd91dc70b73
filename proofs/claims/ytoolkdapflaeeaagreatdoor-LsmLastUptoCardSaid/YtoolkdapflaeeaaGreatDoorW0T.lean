/- What is proved: LsmLast returns true for all options and rows of writes, and its arguments read behind the call as they did before; the conditions are the statement's own (what came in is of bulk at most 1048576; the listed package variables hold what the program's text lays). -/
import Derived.Deep.CutRange
import Derived.Deep.DeepCutAuto
import Derived.Test.YtoolkdapflaeeaaGreatDoorW0S
import Derived.Test.YtoolkdapflaeeaaGreatDoorRows
import Derived.Deep.Slices
import Derived.Lib.SmallJoins
import Derived.ProofKit
import Derived.Test.YtoolkdapflaeeaaGreatDoorW0N
import Derived.Test.YtoolkdapflaeeaaGreatDoorW0D
import Derived.Test.YtoolkdapflaeeaaGreatDoorCards
import Derived.Test.YtoolkdapflaeeaaGreatDoorTie
import Derived.WalkKit
import Derived.OpenShut
import Derived.Deep.DeepHandedRow
import Derived.SevenTiedAt
import Derived.Lay
set_option maxRecDepth 100000
set_option maxHeartbeats 16000000
namespace Go.Proofs.YtoolkdapflaeeaaGreatDoor
open Go.RowKit Go.Gl Go.aH Mn
variable {Nn:Nat} {w:World}
theorem aCK (w:World) (a:Int) (x y:Option Addr) (m n c d:Nat) (b:Int):(Instr.buildSlice 32 1 #[(0,.agg #[.int .i64 a,.slice x m c,.slice y n d,.int .i64 b])]).run Tryz.prog w= .ok (.slice (some ⟨w.heap.size,0,none⟩) 1 1) (w.alloc (.cells #[.int .i64 a,.slice x m c,.slice y n d,.int .i64 b] 31)):=by kernel_rfl
theorem aCL {N:Nat→Prop} {W:World} {qb:Nat} {a:Av} (h:W.heap[qb]?=some (.cells #[.int .i64 a.op,a.wv,a.pv,.int .i64 a.n] 31 (0,0))) (hq:N qb) (hw:Ws N W a.wv a.ys) (hp:Iw N W a.pv a.ks):Mj N W (.slice (some ⟨qb,0,none⟩) 1 1) [a]:=by
 have key:∀ (j:Nat) (v:Value),(#[Value.int .i64 a.op,a.wv,a.pv,.int .i64 a.n]:Array Value)[j]?=some v→W.cell? ⟨qb,j,none⟩=some v:=fun j v h'=>by
  simp only [World.cell?,h];exact h'
 refine ⟨⟨_,1,rfl,.inr ⟨qb,0,rfl,hq,af h,fun i x hx c u hu=> ?_⟩⟩,fun x hx=>by rw [cY.1 hx];exact ⟨hw,hp⟩⟩
 match i,hx with
 |0,hx=>
  cases hx
  match c,hu with
  |0,hu=>cases hu;exact key 0 _ rfl
  |1,hu=>cases hu;exact key 1 _ rfl
  |2,hu=>cases hu;exact key 2 _ rfl
  |3,hu=>cases hu;exact key 3 _ rfl
  |c+4,hu=>simp [YS] at hu
 |i+1,hx=>simp at hx
theorem aCM {ys:List Wv} {wv pv:Value} (h:yA [⟨0,wv,pv,0,ys,[]⟩]):ys.length≤8192∧bD (ys.map (·.x))≤8192∧ys.length+bD (ys.map (·.x))≤8192∧∀ y∈ys,y.x.key.size≤60000:=by
 have h1:=h.2.1;simp only [List.map_cons,List.map_nil,List.sum_cons,List.sum_nil,qf,List.length_nil] at h1;exact ⟨by omega,by omega,by omega,h.2.2 _ (List.mem_singleton_self _)⟩
theorem aCN (k:ByteArray) (a b:List Wr):fV k (a++b)=match fV k b with|some y=>some y|none=>fV k a:=by
 induction b using Oz with
 |h0=>simp [fV]
 |h1 b y ih=>
  rw [←List.append_assoc,CI,CI,ih];split
  ·rfl
  ·rfl
theorem aCO (k:ByteArray) (l:List Wr):fV k (l.map kW)=(fV k l).map kW:=by
 have hk:∀ y:Wr,(kW y).key=y.key:=fun y=>by unfold kW;split<;>rfl
 induction l using Oz with
 |h0=>rfl
 |h1 l y ih=>
  rw [List.map_append,List.map_cons,List.map_nil,CI,CI,ih,hk]
  split<;>rfl
theorem amO {w w':World} {e:Ending} {x:En} (h:AA w (some x) e w') (hx:x.gone=true→x.val= []):∃ va vc,e= .returned (.tuple #[.slice va x.val.length vc,.bool (!x.gone)])∧Bv w' (.slice va x.val.length vc) x.val∧Grow w w':=by
 obtain ⟨h,hg⟩:=h;cases iQ:x.gone with
 |true=>
  have h':e= .returned (.tuple #[.slice none 0 0,.bool false]):=by simpa only [iQ,if_true] using h
  rw [hx iQ];exact ⟨none,0,h',aiQ w',hg⟩
 |false=>
  have h':∃ v,e= .returned (.tuple #[v,.bool true])∧aG w.heap.size w' v x.val:=by simpa [iQ] using h
  obtain ⟨v,he,ho⟩:=h';obtain ⟨va,vc,rfl⟩:=ho.slice;exact ⟨va,vc,he,cy ho,hg⟩
def Ro (N:Nat→Prop) (w9:World) (lb:Nat) (ys:List Wv) (i:Nat) (y:Wv) (kv:Value) (wr:World):Prop:=
 ∃ (k:Nat) (z:Wv),kv= .int .i64 (k:Int)∧i≤k∧k≤ys.length∧z.x=(fV y.x.key (((ys.map (·.x)).drop i).take (k-i))).getD y.x∧oL N wr z∧wr.heap[lb]?=some (.cells (Kz z) 51 (0,0))∧Grow w9 wr
def Za (w7:World) (ys:List Wv) (iv:Value) (wr:World):Prop:=∃ i:Nat,iv= .int .i64 (i:Int)∧i≤ys.length∧Grow w7 wr
theorem aCP (hN:cI Nn w.heap.size w) (Ml:100≤Nn) {o:Od} {drv v:Value} {ds:List Int} {ys:List Wv} {N:Nat→Prop} (hdr:Iw N w drv ds) (hW:Ws N w v ys) (hNs:∀ b,N b→b<w.heap.size) (bJ:ys.length+bD (ys.map (·.x))≤1000000000000):
  Calls Tryz.prog 3 #[sN o drv,v] w fun e w'=>e= .returned (.bool true)∧Grow w w':=by
 have ai:=Grow.alloc w (.cells #[.int .i64 o.mem,.int .i64 o.block,.int .i64 o.zero,.int .i64 o.base,.int .i64 o.table,drv] 26);have gi:=aw w (.cells #[.int .i64 o.mem,.int .i64 o.block,.int .i64 o.zero,.int .i64 o.base,.int .i64 o.table,drv] 26);have pz:=ae hdr;have HW:=ae hW;have HN:=ae hN;have Hb:=ae (ah Ml (ah hNs bJ));obtain ⟨va,vc,rfl⟩:=hW.slice;obtain ⟨da,dc,rfl,fS,_⟩:=id hdr;have WV:=ae fS;clear hdr hW hN Ml hNs bJ fS;go_enter Tryz.func3,Tryz.ntmps3
 go_upto_region 1 with fail
 generalize w.alloc (.cells #[.int .i64 o.mem,.int .i64 o.block,.int .i64 o.zero,.int .i64 o.base,.int .i64 o.table,.slice da ds.length dc] 26)=w1 at*;obtain ⟨xb,ym⟩:∃ xb,xb=w.heap.size:=⟨_,rfl⟩
 rw [←ym] at gi ⊢;have tZ:=ae gi;have bT:=ae ai;have Hk:=ae (aCp w1);clear ym gi ai
 go_wp2_with fail
 (with_reducible refine Hk.out.mono ?_);rintro e w2 ⟨rfl,hg2⟩;have hb1:=aCK;have dw:=aw w2 (.cells #[.int .i64 0,.slice va ys.length vc,.slice none 0 0,.int .i64 0] 31);have hg3:=Grow.alloc w2 (.cells #[.int .i64 0,.slice va ys.length vc,.slice none 0 0,.int .i64 0] 31);have xX:=(bT.out.trans hg2).trans hg3;have amQ:=aCL (N:=fun b=>N b∨b=w2.heap.size) (a:=⟨0,.slice va ys.length vc,.slice none 0 0,0,ys,[]⟩) dw (.inr rfl) ((HW.out.grow xX).mono (fun b hb=> .inl hb)) ⟨none,0,rfl,bk _,.inl rfl⟩;have hfw:=aCw amQ (by have:=Hb.out.2.2;simp only [List.map_cons,List.map_nil,List.sum_cons,List.sum_nil,qf,List.length_nil];omega) (by simp);have Hfw:=ae hfw;have hx3:=(hg2.trans hg3).heap tZ.out;have LS:=ae hx3;have aCQ:=ae xX;clear dw hg3 xX amQ hfw hx3 hg2 Hk
 go_wp2_with fail
 (with_reducible refine Hfw.out.mono ?_);rintro e w4 ⟨rfl,hg4⟩;have nO:=hg4.heap LS.out;have x6:w4.cell? ⟨xb,0,none⟩=some (.int .i64 o.mem)∧w4.cell? ⟨xb,1,none⟩=some (.int .i64 o.block)∧w4.cell? ⟨xb,2,none⟩=some (.int .i64 o.zero)∧w4.cell? ⟨xb,3,none⟩=some (.int .i64 o.base)∧w4.cell? ⟨xb,4,none⟩=some (.int .i64 o.table)∧w4.cell? ⟨xb,5,none⟩=some (.slice da ds.length dc):=by
  refine ⟨?_,?_,?_,?_,?_,?_⟩<;>simp [World.cell?,nO]
 obtain ⟨x0,x1,x2,x3,x4,x5⟩:=x6;have lx:=af nO;have KN:=ae (aCQ.out.trans hg4);have Hx4:=ae nO;have Hri:=ae (aAa o da ds.length dc w4);clear nO hg4 Hfw hb1;by_cases zi:yA [⟨0,.slice va ys.length vc,.slice none 0 0,0,ys,[]⟩];rotate_left
 ·rw [decide_eq_false zi]
  clear zi;go_wp2;go_ret;exact ⟨rfl,KN.out⟩
 rw [decide_eq_true zi];have zj:=ae (aCM zi);clear zi
 go_wp2_with fail
 (with_reducible refine Hri.out.mono ?_);rintro e w5 ⟨rfl,aO⟩;have sR:=ae (KN.out.trans aO);have vd:=aO.heap Hx4.out;clear x0 x1 x2 x3 x4 x5 lx;have x6:w5.cell? ⟨xb,0,none⟩=some (.int .i64 o.mem)∧w5.cell? ⟨xb,1,none⟩=some (.int .i64 o.block)∧w5.cell? ⟨xb,2,none⟩=some (.int .i64 o.zero)∧w5.cell? ⟨xb,3,none⟩=some (.int .i64 o.base)∧w5.cell? ⟨xb,4,none⟩=some (.int .i64 o.table)∧w5.cell? ⟨xb,5,none⟩=some (.slice da ds.length dc):=by
  refine ⟨?_,?_,?_,?_,?_,?_⟩<;>simp [World.cell?,vd]
 obtain ⟨x0,x1,x2,x3,x4,x5⟩:=x6;have lx:=af vd;clear aO vd Hri;by_cases hrt:pY o∧ds.length≤1000;rotate_left
 ·rw [decide_eq_false hrt]
  clear hrt;go_wp2;go_ret;exact ⟨rfl,sR.out⟩
 rw [decide_eq_true hrt];have Hrt:=ae hrt;clear hrt;by_cases hz:ys.length=0
 ·have e0:((ys.length:Int)==0)=true:=by simp [hz]
  clear hz;go_wp2;go_ret;exact ⟨rfl,sR.out⟩
 have e0:((ys.length:Int)==0)=false:=beq_eq_false_iff_ne.2 (by omega);have Hz:=ae hz;clear hz;have hbg:Calls Tryz.prog 13 #[.int .i64 16777216,sN o (.slice da ds.length dc)] w5 _:=aCI (Z:=16777216) (by decide) (by decide) (HN.out.up sR.out.size (fun b hb=>sR.out.block b hb)) (by have:=Hb.out.1;omega) (pz.out.kp (.bF sR.out)) (fun b hb=>by have:=Hb.out.2.1 b hb;have:=sR.out.size;omega) Hrt.out.1;have Hbg:=ae hbg;clear hbg
 go_wp2_with fail
 (with_reducible refine Hbg.out.mono ?_);rintro e w6 ⟨wb,B,mm,am,t,f,T,K,s,rfl,h1,ho,sr,hV,hall,dh,_,_,hT,iI,_,_,_,_,_,wR,_,_,_,_,_,_,_,_,_,_,hgr⟩;obtain ⟨ws,nM⟩:∃ ws,ws=(ys.map (·.x)).map kW:=⟨_,rfl⟩
 have rk:=sR.out.trans hgr;have mG:=HW.out.grow rk;obtain ⟨f1,f2,f3,f4⟩:=zj.out;have kD:ws.length=ys.length:=by rw [nM];simp
 have vA:bD ws≤8192:=by rw [nM];exact aN (aks _) f2
 have AO:ws≠ []:=fun e=>by rw [e] at kD;exact Hz.out kD.symm
 have iB:¬ mf ws:=by
  rintro (h9|⟨y,hy,h9⟩)
  ·omega
  ·rw [nM] at hy
   obtain ⟨y0,mK,rfl⟩:=List.mem_map.1 hy;obtain ⟨y1,Aw,rfl⟩:=List.mem_map.1 mK;have h8:=f4 y1 Aw;have h7:(kW y1.x).key=y1.x.key:=by unfold kW;split<;>rfl
   rw [h7] at h9;omega
 have DT:∀ b,N b→b<w6.heap.size∧¬ FT t b:=fun b hb=>by
  have h9:=Hb.out.2.1 b hb;have h8:=rk.size;have h7:=sR.out.size;exact ⟨by omega,fun hf=>by have:=h1.tree.base b hf;omega⟩
 have hap:=XR h1 DT mG nM (by omega) (by omega) (by omega) (by omega) (by have:=Hb.out.1;omega) (by decide) (by rw [hV];decide);have eG:=ae hap;have yw:=Rm iI;obtain ⟨_,c7,_,_,_,_,_,Zb⟩:=yw;have H1:=ae (ah h1 (ah hall (ah dh (ah hT (ah iI (ah rk (ah DT wR)))))));have yj:=ae (ah nM (ah kD (ah vA (ah AO iB))));clear nM rk mG f1 f2 f3 f4 kD vA AO iB DT hap h1 ho sr hV hall dh hT iI wR hgr x0 x1 x2 x3 x4 x5 lx e0 Hbg
 go_wp2_with fail
 (with_reducible refine eG.out.mono ?_);rintro e w7 hp;obtain ⟨h1,hall,dh,hT,iI,rk,DT,wR⟩:=H1.out;obtain ⟨nM,kD,vA,AO,iB⟩:=yj.out;have f3:=zj.out.2.2.1;obtain ⟨t2,f2,T2,K2,s2,rfl,hst,h2,_,_,_,wB,yz,_⟩:=hp.done AO iB (by omega);have NQ:t.seq+1=1:=by rw [dh]
 rw [NQ] at wB yz ⊢;have xO:∀ (y:Wr),(fV y.key ws=some y)→∀ up,1≤up→eK y.key up (dE s2)=some (ia 1 y):=fun y hy up xN=>Om h2.vZ ((yz _).2 (.inl ⟨y,hy,rfl⟩)) ⟨rfl,xN⟩ (fun x hx _=>by have:=h2.top x hx;rw [wB] at this;exact this)
 have pK:Ws N w7 (.slice va ys.length vc) ys:=(HW.out.grow rk).kp ⟨hst.sep.size,fun b hb _=>hst.sep.out b (DT b hb).1 (DT b hb).2⟩;have amU:=(hst.sep.out wb (af iI) (h1.tree.off iI (by decide))).trans iI;have cF:Grow w w7:=by
  have g1:Below w.heap.size w6 w7:=(cz.below h1.tree hst).mono (by have:=sR.out.size;omega);exact Below.trans rk g1
 have oz:t2.db=t.db:=hst.db;have H2:=ae h2;have KJ:=ae xO;have HW7:=ae pK;have aCT:=ae amU;have Gf:=ae cF;have se:=ae oz;have Qc:Hid (Za w7 ys (.int .i64 0) w7):=ae ⟨0,rfl,bk _,Grow.refl w7⟩;clear h1 hall dh hT iI rk DT wR nM kD vA AO iB f3 hst h2 wB yz NQ xO pK amU cF oz hp eG c7 Zb H1
 go_wp2_with fail
 go_loopw [9] (fun iv wr=>Za w7 ys iv wr) (fun iv _=>ys.length-(intOf iv).toNat)
 case atStart=>exact Qc.out
 case round=>
  clear Qc;obtain ⟨i,rfl,hi,cx⟩:=hrel;obtain ⟨w8,hw8⟩:∃ W,W=wr:=⟨_,rfl⟩
  subst hw8;by_cases hlt:i<ys.length
  ·obtain ⟨y,hy⟩:∃ y,ys[i]?=some y:=⟨ys[i],by simp [hlt]⟩
   have DC:=HW7.out.grow cx;obtain ⟨b,o',c,jN,hNb,hbl,aY⟩:=DC.addr hy;cases jN;obtain ⟨a0,a1,a2⟩:=FD aY hy;have gu:oL N w8 y:=DC.get hy;obtain ⟨⟨yk,yg,yd⟩,yv⟩:=y;dsimp only at a0 a1 a2;have bg:Bv w8 yv yd:=gu.1;obtain ⟨xa,xc,rfl⟩:=bg.slice;have dJ:(i:Int)<(ys.length:Int):=by omega
   have bK:(0:Int)≤(i:Int):=by omega
   have f1:=zj.out.1;have eE:IntKind.i64.wrap ((i:Int)+1)=(i:Int)+1:=aR _ (by omega);have ai:=Grow.alloc w8 (.cells #[.string yk,.bool yg,.slice xa yd.length xc] 51);have dw:=aw w8 (.cells #[.string yk,.bool yg,.slice xa yd.length xc] 51);have Hy:=ae hy;have oy:=ae cx;have nS:=ae hlt;have amW:Ro N w8 w8.heap.size ys i ⟨⟨yk,yg,yd⟩,.slice xa yd.length xc⟩ (.int .i64 (i:Int)) (w8.alloc (.cells #[.string yk,.bool yg,.slice xa yd.length xc] 51)):=⟨i,⟨⟨yk,yg,yd⟩,.slice xa yd.length xc⟩,rfl,ay _,hi,by rw [Nat.sub_self,List.take_zero];rfl,gu.kp (.bF ai),dw,ai⟩
   have AK:=ae amW;have Hyk:Hid (∀ W,Grow w8 W→W.cell? ⟨b,o'+i*3,none⟩=some (.string yk)∧b<W.heap.size):=ae (fun W hg=>⟨(Grow.cells W b _ hg hbl).trans a0,cj hbl hg.size⟩);clear DC aY gu bg ai dw hy cx hlt amW f1 hNb
   go_upto_region 15 with fail
   clear a0 a1 a2 hbl;generalize w8.alloc (.cells #[.string yk,.bool yg,.slice xa yd.length xc] 51)=w9 at*;obtain ⟨lb,mE⟩:∃ lb,lb=w8.heap.size:=⟨_,rfl⟩
   rw [←mE] at AK ⊢;have Hlb:=ae mE;clear mE
   go_wp2_with fail
   go_loopw [11] (fun kv W=>Ro N w8 lb ys i ⟨⟨yk,yg,yd⟩,.slice xa yd.length xc⟩ kv W) (fun kv _=>ys.length-(intOf kv).toNat)
   case atStart=>exact AK.out
   case round=>
    clear AK;obtain ⟨k,z,rfl,hik,hk,hz,yB,hzb,fW⟩:=hrel;dsimp only at hz;obtain ⟨Zc,lby⟩:=Hyk.out wr fW;by_cases lR:k<ys.length
    ·obtain ⟨u,hu⟩:∃ u,ys[k]?=some u:=⟨ys[k],by simp [lR]⟩
     have Zd:=HW7.out.grow (oy.out.trans fW);obtain ⟨b3,o3,c3,jN,_,hbl,aY⟩:=Zd.addr hu;cases jN;obtain ⟨d0,d1,d2⟩:=FD aY hu;have DU:oL N wr u:=Zd.get hu;have cC:((ys.map (·.x)).drop i).take (k+1-i)=((ys.map (·.x)).drop i).take (k-i)++ [u.x]:=by
      rw [show k+1-i=(k-i)+1 by omega];exact take_one (by rw [List.getElem?_drop,show i+(k-i)=k by omega,List.getElem?_map,hu];rfl)
     obtain ⟨⟨uk,ug,ud⟩,uv⟩:=u;obtain ⟨⟨zk,zg,zd⟩,zv⟩:=z;dsimp only at d0 d1 d2 hz cC;have bg:Bv wr uv ud:=DU.1;have yC:Bv wr zv zd:=yB.1;obtain ⟨Rp,Rq,rfl⟩:=bg.slice;obtain ⟨za,zc,rfl⟩:=yC.slice;have kR:(k:Int)<(ys.length:Int):=by omega
     have jA:(0:Int)≤(k:Int):=by omega
     have f1:=zj.out.1;have Fm:IntKind.i64.wrap ((k:Int)+1)=(k:Int)+1:=aR _ (by omega);have hgd:=Grow.drew wr;have Hz:=ae (ah hz (ah yB (ah hzb (ah fW (ah DU (ah cC (ah lR (ah hgd hik))))))));clear hz yB hzb fW DU cC lR Zd aY bg yC hu f1 hgd hik
     go_upto_region 18 with fail
     refine bX (fun W=>(W.cell? ⟨b,o'+k*3,none⟩=some (.string uk)∧W.cell? ⟨b,o'+i*3,none⟩=some (.string yk))∧b<W.heap.size) [(0,false),(1,false),(2,false),(3,false),(4,false),(5,false),(6,false),(7,false),(8,false),(9,false),(10,false)] (by kernel_rfl) (by kernel_rfl) (fun c a d v w h=>by cases d<;>exact h) ⟨⟨by simpa using d0,by simpa using Zc⟩,by simpa using hbl⟩ ?_;simp only [aP,nth]
     repeat (first|(refine aB (v:= ?_) (by rfl) ?_ ?_;rotate_left;(rintro W ⟨⟨hW0,hW1⟩,hW2⟩;go_simp;with_reducible rfl);simp only [ag,List.set])|(refine aC (by rfl) ?_;simp only [ag,List.set]))
     refine bm ?_;obtain ⟨hz,yB,hzb,fW,DU,cC,lR,hgd,hik⟩:=Hz.out;have b0:wr.drew.cell? ⟨b,o'+k*3,none⟩=some (.string uk):=by simpa using d0
     have b1:wr.drew.cell? ⟨b,o'+k*3+1,none⟩=some (.bool ug):=by simpa using d1
     have b2:wr.drew.cell? ⟨b,o'+k*3+2,none⟩=some (.slice Rp ud.length Rq):=by simpa using d2
     have bl:b<wr.drew.heap.size:=by simpa using hbl
     clear d0 d1 d2 hbl lby Zc;obtain ⟨bb,cZ⟩:∃ bb,(uk.toList==yk.toList)=bb:=⟨_,rfl⟩
     rw [cZ];by_cases hkey:uk=yk
     ·subst hkey
      have Mm:=ae (show wr.drew.heap[lb]?=some (.cells #[.string zk,.bool zg,.slice za zd.length zc] 51 (0,0)) from hzb);have cE:=Go.Gl.aI (Go.Gl.aI (Go.Gl.aI Mm.out 0 (.string uk)) 1 (.bool ug)) 2 (.slice Rp ud.length Rq);have hle:w8.heap.size≤lb:=Nat.le_of_eq Hlb.out.symm;have aCW:lb<wr.drew.heap.size:=af Mm.out;have c3:wr.drew.cell? ⟨lb,0,none⟩=some (.string zk)∧wr.drew.cell? ⟨lb,1,none⟩=some (.bool zg)∧wr.drew.cell? ⟨lb,2,none⟩=some (.slice za zd.length zc):=by
       refine ⟨?_,?_,?_⟩<;>simp [World.cell?,Mm.out]
      obtain ⟨z0,z1,z2⟩:=c3;have sw:=ae cE;have GD:=ae lR;have aCX:=ae aCW;have Hle:=ae hle;obtain rfl:bb=true:=by rw [←cZ];simp
      have eu:∀ j,wr.drew.frozen? ⟨lb,j,none⟩=false:=fun j=>by simp [World.frozen?,Mm.out]
      have hne:∀ b,N b→b≠lb:=fun b hb=>by have:=Hb.out.2.1 b hb;have:=(Gf.out.trans oy.out).size;omega
      have ej:∀ x0 x1 x2,Grow w8 (((wr.drew.setCell ⟨lb,0,none⟩ x0).setCell ⟨lb,1,none⟩ x1).setCell ⟨lb,2,none⟩ x2):=fun x0 x1 x2=>(((fW.trans hgd).setCell (p:=⟨lb,0,none⟩) hle x0).setCell (p:=⟨lb,1,none⟩) hle x1).setCell (p:=⟨lb,2,none⟩) hle x2
      have hrel:Ro N w8 lb ys i ⟨⟨uk,yg,yd⟩,.slice xa yd.length xc⟩ (.int .i64 ((k:Int)+1)) (((wr.drew.setCell ⟨lb,0,none⟩ (.string uk)).setCell ⟨lb,1,none⟩ (.bool ug)).setCell ⟨lb,2,none⟩ (.slice Rp ud.length Rq)):=⟨k+1,⟨⟨uk,ug,ud⟩,.slice Rp ud.length Rq⟩,by simp,by omega,by omega,by dsimp only;rw [cC,CI,if_pos rfl];rfl,(DU.kp (.bF hgd)).kp ⟨by simp,fun b hb _=>by have:=hne b hb;rw [aK _ _ _ _ this,aK _ _ _ _ this,aK _ _ _ _ this]⟩,sw.out,ej _ _ _⟩
      have bq:=ae hrel;clear hz yB hzb fW DU cC lR hgd hik cE hle ej hne hrel Mm Hz sw aCX;generalize wr.drew=W1 at*;go_wp2;go_roundw
      case rel=>exact bq.out
      case measure=>simp [intOf];have:=GD.out;omega
     ·have e2:(uk.toList==yk.toList)=false:=by
       cases hb:(uk.toList==yk.toList) with
       |false=>rfl
       |true=>exact absurd (ByteArray.ext (by simpa [ByteArray.toList_eq] using hb)) hkey
      obtain rfl:bb=false:=by rw [←cZ];exact e2
      have hrel:Ro N _ lb ys i ⟨⟨yk,yg,yd⟩,.slice xa yd.length xc⟩ (.int .i64 ((k:Int)+1)) wr.drew:=⟨k+1,⟨⟨zk,zg,zd⟩,.slice za zd.length zc⟩,by simp,by omega,by omega,by dsimp only;rw [cC,CI,if_neg hkey];exact hz,yB.kp (.bF hgd),hzb,fW.trans hgd⟩
      have bq:=ae hrel;have GD:=ae lR;clear hz yB hzb fW DU cC lR hgd hik hrel b0 b1 b2 bl;go_wp2;go_roundw
      case rel=>exact bq.out
      case measure=>simp [intOf];have:=GD.out;omega
    ·obtain rfl:k=ys.length:=by omega
     have cC:((ys.map (·.x)).drop i).take (ys.length-i)=(ys.map (·.x)).drop i:=List.take_of_length_le (by simp);rw [cC] at hz;have cO:(⟨yk,yg,yd⟩:Wr)∈(ys.map (·.x)).drop i:=List.mem_iff_getElem?.2 ⟨0,by rw [List.getElem?_drop,Nat.add_zero,List.getElem?_map,Hy.out];rfl⟩;have hq:fV yk ((ys.map (·.x)).drop i)=some z.x:=by
      cases h9:fV yk ((ys.map (·.x)).drop i) with
      |none=>exact absurd rfl (avE.1 h9 _ cO)
      |some q=>rw [h9] at hz;rw [hz];rfl
     have yw:fV yk ws=some (kW z.x):=by
      rw [yj.out.1,aCO];have h9:fV yk (ys.map (·.x))=some z.x:=by
       rw [←List.take_append_drop i (ys.map (·.x)),aCN,hq]
      rw [h9];rfl
     obtain ⟨⟨zk,zg,zd⟩,zv⟩:=z;obtain rfl:zk=yk:=(afb hq).2;have yC:Bv wr zv zd:=yB.1;obtain ⟨za,zc,rfl⟩:=yC.slice;obtain ⟨x,hx⟩:∃ x,x=ia 1 (kW ⟨zk,zg,zd⟩):=⟨_,rfl⟩
     have iH:x.gone=zg∧x.val=if zg then [] else zd:=by rw [hx];cases zg<;>exact ⟨rfl,rfl⟩
     have oU:(kW ⟨zk,zg,zd⟩).key=zk:=by cases zg<;>rfl
     have Ze:∀ up,1≤up→eK zk up (dE s2)=some x:=fun up xN=>by
      have h9:=KJ.out (kW ⟨zk,zg,zd⟩) (by rw [oU];exact yw) up xN;rw [oU,←hx] at h9;exact h9
     have S20:∀ W,Grow wr W→(W.cell? ⟨wb,7,none⟩=some (.pointer (some ⟨t.db,0,none⟩))∧wb<W.heap.size)∧W.cell? ⟨b,o'+i*3,none⟩=some (.string zk)∧b<W.heap.size:=fun W hg=>by
      have hb:=(oy.out.trans (fW.trans hg)).heap aCT.out;obtain ⟨_,c7,_,_,_,_,_,Zb⟩:=Rm hb;obtain ⟨y0,ly⟩:=Hyk.out W (fW.trans hg);exact ⟨⟨c7,Zb⟩,y0,ly⟩
     have Lb:∀ W,Grow wr W→Calls Tryz.prog 15 #[.pointer (some ⟨t.db,0,none⟩),.string zk] W (AA W (some x)):=fun W hg=>by
      have h9:=YF (H2.out.grow (oy.out.trans (fW.trans hg))) (by have:=yj.out.2.1;have:=zj.out.1;omega) zk;rw [se.out,Ze _ (by decide)] at h9;exact h9
     have hat:∀ W,Grow wr W→Calls Tryz.prog 16 #[.pointer (some ⟨t.db,0,none⟩),.string zk,.int .u64 1] W (AA W (some x)):=fun W hg=>by
      have h9:=amb (H2.out.grow (oy.out.trans (fW.trans hg))) (by have:=yj.out.2.1;have:=zj.out.1;omega) zk (up:=1) (by decide);rw [se.out,Ze _ (by decide)] at h9;exact h9
     have hgd:=Grow.drew wr;have HS:=ae S20;have Qd:=ae Lb;have Qe:=ae hat;have Hx:=ae iH;have Hz:=ae (ah hzb (ah yC fW));have uC:=ae hgd;have e5:¬ (ys.length:Int)<(ys.length:Int):=by omega
     clear hz cO hq yw yC hx iH oU Ze S20 Lb hat hgd yB hzb fW cC Zc lby lR
     go_upto_region 20 with fail
     have hgd:=uC.out;refine bX (fun W=>(W.cell? ⟨wb,7,none⟩=some (.pointer (some ⟨t.db,0,none⟩))∧wb<W.heap.size)∧W.cell? ⟨b,o'+i*3,none⟩=some (.string zk)∧b<W.heap.size) [(0,false),(1,false),(2,false),(3,false),(4,false),(5,false),(6,false),(7,false),(8,false),(9,true),(10,false),(11,false),(12,false),(13,false),(14,false)] (by kernel_rfl) (by kernel_rfl) (fun c a d v w h=>by cases d<;>exact h) (HS.out _ hgd) ?_;simp only [aP,nth]
     repeat (first|(refine aB (v:= ?_) (by rfl) ?_ ?_;rotate_left;(rintro W ⟨⟨hW0,hW1⟩,hW2,hW3⟩;go_simp;with_reducible rfl);simp only [ag,List.set])|(refine aC (by rfl) ?_;simp only [ag,List.set]))
     refine bj (by rfl) (by go_simp) (Qd.out _ hgd) ?_;rintro e lZ hp;obtain ⟨va1,vc1,rfl,yO,Aj⟩:=amO hp (fun h=>by rw [Hx.out.2];rw [Hx.out.1] at h;rw [h];rfl);have Zf:=hgd.trans Aj;refine ⟨_,rfl,HS.out _ Zf,?_⟩
     try first|simp only [ag,List.set]|simp only [aD]
     repeat (first|(refine aB (v:= ?_) (by rfl) ?_ ?_;rotate_left;(rintro W ⟨⟨hW0,hW1⟩,hW2,hW3⟩;go_simp;with_reducible rfl);simp only [ag,List.set])|(refine aC (by rfl) ?_;simp only [ag,List.set]))
     refine bm ?_;have aCY:=ae Zf;have Hv1:=ae yO;clear hp yO Zf Aj hgd Qd
     go_upto_region 21 with fail
     have hgd:Grow wr lZ.drew:=aCY.out.trans (Grow.drew lZ);refine bX (fun W=>(W.cell? ⟨wb,7,none⟩=some (.pointer (some ⟨t.db,0,none⟩))∧wb<W.heap.size)∧W.cell? ⟨b,o'+i*3,none⟩=some (.string zk)∧b<W.heap.size) [(0,false),(1,false),(2,false),(3,false),(4,false),(5,false),(6,false),(7,false),(8,false),(9,true),(10,false),(11,false),(12,false),(13,false),(14,false)] (by kernel_rfl) (by kernel_rfl) (fun c a d v w h=>by cases d<;>exact h) (HS.out _ hgd) ?_;simp only [aP,nth]
     repeat (first|(refine aB (v:= ?_) (by rfl) ?_ ?_;rotate_left;(rintro W ⟨⟨hW0,hW1⟩,hW2,hW3⟩;go_simp;with_reducible rfl);simp only [ag,List.set])|(refine aC (by rfl) ?_;simp only [ag,List.set]))
     refine bj (by rfl) (by go_simp) (Qe.out _ hgd) ?_;rintro e qZ hp;obtain ⟨va2,vc2,rfl,hv2,my⟩:=amO hp (fun h=>by rw [Hx.out.2];rw [Hx.out.1] at h;rw [h];rfl);have jS:=hgd.trans my;refine ⟨_,rfl,HS.out _ jS,?_⟩
     try first|simp only [ag,List.set]|simp only [aD]
     repeat (first|(refine aB (v:= ?_) (by rfl) ?_ ?_;rotate_left;(rintro W ⟨⟨hW0,hW1⟩,hW2,hW3⟩;go_simp;with_reducible rfl);simp only [ag,List.set])|(refine aC (by rfl) ?_;simp only [ag,List.set]))
     refine bm ?_;have yO:Bv qZ _ _:=Hv1.out.grow ((Grow.drew lZ).trans my);obtain ⟨hzb,yC,fW⟩:=Hz.out;have hv3:Bv qZ _ _:=yC.grow jS;have Zg:=jS.heap hzb;have c3:qZ.cell? ⟨lb,0,none⟩=some (.string zk)∧qZ.cell? ⟨lb,1,none⟩=some (.bool zg)∧qZ.cell? ⟨lb,2,none⟩=some (.slice za zd.length zc):=by
      refine ⟨?_,?_,?_⟩<;>simp [World.cell?,Zg]
     obtain ⟨z0,z1,z2⟩:=c3;have llb:=af Zg;have cv1:=wN yO;have Nw:=wN hv2;have cv3:=wN hv3;have hrel:Za w7 ys (.int .i64 ((i:Int)+1)) qZ:=⟨i+1,by simp,nS.out,oy.out.trans (fW.trans jS)⟩
     have bq:=ae hrel;obtain ⟨hx1,hx2⟩:=Hx.out;obtain ⟨xs,eM⟩:∃ xs,xs=x.val:=⟨_,rfl⟩
     rw [hx1];rw [←eM] at hx2 cv1 Nw ⊢;clear hp yO hv2 hv3 jS my hgd Qe Hz hzb yC fW Zg Hx hrel Hv1;clear hx1 eM;cases zg with
     |true=>
      clear hx2;go_wp2;go_roundw
      case rel=>exact bq.out
      case measure=>simp [intOf];have:=nS.out;omega
     |false=>
      obtain rfl:xs=zd:=hx2;go_wp2;go_roundw
      case rel=>exact bq.out
      case measure=>simp [intOf];have:=nS.out;omega
  ·obtain rfl:i=ys.length:=by omega
   have oy:=ae cx;clear cx hlt hi;go_wp2;go_ret;exact ⟨rfl,Gf.out.trans oy.out⟩
end Go.Proofs.YtoolkdapflaeeaaGreatDoor
namespace Go.Proofs.YtoolkdapflaeeaaGreatDoor
open Go.ChangeShapes Go.WideShapes Go.ChangeAt Go.RowKit Go.Gl Go.aH Mn
theorem Zh {w:World} {a:Addr} {v:Value} (h:w.cell? a=some v):a.spot=none:=by
 unfold World.cell? at h
 split at h
 ·cases hs:a.spot with
  |none=>rfl
  |some s=>simp [hs] at h
 ·cases h
section
variable {H:Type} {enc:TypeId×Value→H} {w:World} {base:Nat} {spare:Nat→Bool} {held:Bool}
theorem anb {a:Addr} {cs:List Value} (h:w.cells? base a 3=some cs):∃ v0 v1 v2,cs= [v0,v1,v2]∧w.cell? a=some v0∧w.cell? (a.add 1)=some v1∧w.cell? (a.add 2)=some v2:=by
 unfold World.cells? at h
 split at h
 ·have e:List.range 3= [0,1,2]:=rfl
  rw [e] at h;simp only [List.mapM_cons,List.mapM_nil,Option.bind_eq_bind,Option.bind_eq_some_iff,Option.pure_def,Option.some.injEq] at h;obtain ⟨v0,h0,_,⟨v1,h1,_,⟨v2,h2,_,rfl,rfl⟩,rfl⟩,rfl⟩:=h;exact ⟨v0,v1,v2,rfl,by simpa [Addr.add] using h0,h1,h2⟩
 ·cases h
theorem aDa (d:DataW H):1≤Rows.uptoBulk d:=by
 cases d with
 |lit l=>cases l<;>simp [Rows.uptoBulk]
 |nil=>simp [Rows.uptoBulk]
 |ptr d=>simp [Rows.uptoBulk]
 |slice elems spare=>simp [Rows.uptoBulk]
 |agg parts=>simp [Rows.uptoBulk]
 |iface t d=>simp [Rows.uptoBulk]
 |map entries=>simp [Rows.uptoBulk]
 |held h=>simp [Rows.uptoBulk]
theorem anc:∀ l:List (DataW H),l.length≤Rows.uptoBulkAll l
 | []=>bk _
 |x::r=>by have:=aDa x;have:=anc r;simp only [Rows.uptoBulkAll,List.length_cons];omega
theorem ane (D:Nat→DataW H) (g:Nat→Nat):∀ I:List Nat,(∀ i∈I,g i≤Rows.uptoBulk (D i))→(I.map g).sum≤Rows.uptoBulkAll (I.map D)
 | [],_=>bk _
 |i::I,h=>by
  have h1:=h i (eQ ..);have h2:=ane D g I (fun j hj=>h j (gz _ hj));simp only [List.map_cons,List.sum_cons,Rows.uptoBulkAll];omega
theorem Zi {t e:TypeId} {a:Option Addr} {l c fuel:Nat} {x:DataW H×List MemPlace} (ht:Tryz.prog.underlying t=some (.slice e)) (h:DataW.trod enc Tryz.prog w base spare held fuel t [.slice a l c]=some x):l≤Rows.uptoBulk x.1:=by
 rcases Go.Deep.open_slice ht h with ⟨hcs,_⟩|⟨a',len,cap,m,n,D,Pl,hcs,_,hl,hm,jB,hx,uV⟩
 ·simp only [List.cons.injEq,and_true] at hcs
  cases hcs;exact bk _
 ·simp only [List.cons.injEq,and_true] at hcs
  cases hcs;rw [hx];have h1:=anc ((List.range l).map D);simp only [List.length_map,List.length_range] at h1;simp only [Rows.uptoBulk];omega
theorem aDb {v:Value} {fuel:Nat} {x:DataW H×List MemPlace} (h:DataW.trod enc Tryz.prog w base spare held fuel 49 [v]=some x):∃ l:List UInt8,Bv w v l∧l.length≤Rows.uptoBulk x.1:=by
 have h':=h;rcases open_ints Tryz.underlying49 Tryz.underlying5 (by kernel_rfl) h with ⟨hcs,_⟩|⟨a,l,c,zs,hcs,_,hl,hm,hz,_,hcell,Mi⟩
 ·simp only [List.cons.injEq,and_true] at hcs
  exact ⟨[],⟨none,0,by rw [hcs];rfl,ay _,bk _,fun _=>rfl,.inl rfl⟩,bk _⟩
 ·simp only [List.cons.injEq,and_true] at hcs
  subst hcs;have gR:=Zi Tryz.underlying49 h';have hzl:l≤zs.length:=by rw [hz];split<;>omega
  by_cases hl0:l=0
  ·subst hl0
   exact ⟨[],⟨some a,c,rfl,hl,hm,fun h=>(by cases h),.inl rfl⟩,bk _⟩
  ·have h0:=hcell 0 (by omega)
   have hsp:=Zh h0;obtain ⟨b,o,sp⟩:=a;simp only [Addr.add,if_true] at hsp;subst hsp;have hlt:=World.block_lt_of_cell? w _ h0;rw [Addr.add_lit] at hlt;have e:((zs.take l).map fun n=>UInt8.ofNat n.toNat).length=l:=by simp;omega
   have hcs:∀ (j:Nat) (k:UInt8),((zs.take l).map fun n=>UInt8.ofNat n.toNat)[j]?=some k→w.cell? ⟨b,o+j,none⟩=some (.int .u8 k.toNat):=fun j k hk=>by
    simp only [List.getElem?_map,Option.map_eq_some_iff] at hk;obtain ⟨n,hn,rfl⟩:=hk;rw [List.getElem?_take] at hn
    split at hn
    ·have h1:=hcell j (by omega)
     rw [Addr.add_lit] at h1;rw [h1];have h2:zs.getD j 0=n:=by simp [List.getD,hn]
     rw [h2];have h3:=Mi n (dY hn);simp only [Lit.wf,Bool.and_eq_true,decide_eq_true_eq] at h3;have h4:(0:Int)≤n∧n≤255:=h3;congr 2;rw [UInt8.toNat_ofNat_of_lt' (by simp [UInt8.size];omega)];omega
    ·cases hn
   exact ⟨(zs.take l).map fun n=>UInt8.ofNat n.toNat,⟨some ⟨b,o,none⟩,c,by rw [e],by rw [e];exact hl,hm,fun h=>(by cases h),.inr ⟨b,o,rfl,hlt,hcs⟩⟩,by rw [e];exact gR⟩
theorem aDc {v:Value} {fuel:Nat} {x:DataW H×List MemPlace} (h:DataW.trod enc Tryz.prog w base spare held fuel 24 [v]=some x) (hb:Rows.uptoBulk x.1≤1048576):∃ ks,Iw (fun b=>b<w.heap.size) w v ks:=by
 have h':=h;rcases open_ints Tryz.underlying24 Tryz.underlying3 (by kernel_rfl) h with ⟨hcs,_⟩|⟨a,l,c,zs,hcs,_,hl,hm,hz,_,hcell,Mi⟩
 ·simp only [List.cons.injEq,and_true] at hcs
  exact ⟨[],none,0,by rw [hcs];rfl,bk _,.inl rfl⟩
 ·simp only [List.cons.injEq,and_true] at hcs
  subst hcs;have gR:=Zi Tryz.underlying24 h';have hzl:l≤zs.length:=by rw [hz];split<;>omega
  by_cases hl0:l=0
  ·subst hl0
   exact ⟨[],some a,c,rfl,bk _,.inl rfl⟩
  ·have h0:=hcell 0 (by omega)
   have hsp:=Zh h0;obtain ⟨b,o,sp⟩:=a;simp only [Addr.add,if_true] at hsp;subst hsp;have hlt:=World.block_lt_of_cell? w _ h0;rw [Addr.add_lit] at hlt;have e:(zs.take l).length=l:=by simp;omega
   refine ⟨zs.take l,some ⟨b,o,none⟩,c,by rw [e],by rw [e];omega,.inr ⟨b,o,rfl,hlt,hlt,fun j k hk=> ?_⟩⟩;rw [List.getElem?_take] at hk
   split at hk
   ·have h1:=hcell j (by omega)
    rw [Addr.add_lit] at h1;rw [h1];simp [List.getD,hk]
   ·cases hk
theorem aDd {cs:Array Value} (hsz:cs.size=6) {fuel:Nat} {x:DataW H×List MemPlace} (h:DataW.trod enc Tryz.prog w base spare held fuel 26 (Value.agg cs).cells.toList=some x) (hb:Rows.uptoBulk x.1≤1048576):∃ o dv ds,Value.agg cs=sN o dv∧Iw (fun b=>b<w.heap.size) w dv ds:=by
 obtain ⟨l⟩:=cs
 match l,hsz with
 | [v0,v1,v2,v3,v4,v5],_=>
 obtain ⟨xs,m,_,hx,hl,hlen,hf⟩:=DataW.trod_struct Tryz.underlying26 h;have k3:Tryz.prog.cellsOf 3=1:=by kernel_rfl
 have kI:Tryz.prog.cellsOf 24=1:=by kernel_rfl
 have kS:Tryz.prog.cellsOf 23=3:=by kernel_rfl
 match xs,hlen with
 | [y0,y1,y2,y3],_=>
  have f0:DataW.trod enc Tryz.prog w base spare held m 3 [v0]=some y0:=by have h7:=hf 0 _ rfl;simpa [Value.cells,k3] using h7
  have f1:DataW.trod enc Tryz.prog w base spare held m 3 [v1]=some y1:=by have h7:=hf 1 _ rfl;simpa [Value.cells,k3] using h7
  have f2:DataW.trod enc Tryz.prog w base spare held m 23 [v2,v3,v4]=some y2:=by have h7:=hf 2 _ rfl;simpa [Value.cells,kS] using h7
  have f5:DataW.trod enc Tryz.prog w base spare held m 24 [v5]=some y3:=by have h7:=hf 3 _ rfl;simpa [Value.cells,kI] using h7
  obtain ⟨zs,m2,_,hz,hzl,aDe,hg⟩:=DataW.trod_struct Tryz.underlying23 f2
  match zs,aDe with
  | [z0,z1,z2],_=>
   have g0:DataW.trod enc Tryz.prog w base spare held m2 3 [v2]=some z0:=by have h7:=hg 0 _ rfl;simpa [k3] using h7
   have g1:DataW.trod enc Tryz.prog w base spare held m2 3 [v3]=some z1:=by have h7:=hg 1 _ rfl;simpa [k3] using h7
   have g2:DataW.trod enc Tryz.prog w base spare held m2 3 [v4]=some z2:=by have h7:=hg 2 _ rfl;simpa [k3] using h7
   obtain ⟨n0,e0,_⟩:=DataW.trod_int Tryz.underlying3 f0;obtain ⟨n1,e1,_⟩:=DataW.trod_int Tryz.underlying3 f1;obtain ⟨n2,e2,_⟩:=DataW.trod_int Tryz.underlying3 g0;obtain ⟨n3,e3,_⟩:=DataW.trod_int Tryz.underlying3 g1;obtain ⟨n4,e4,_⟩:=DataW.trod_int Tryz.underlying3 g2;simp only [List.cons.injEq,and_true] at e0 e1 e2 e3 e4;subst e0 e1 e2 e3 e4;obtain ⟨ds,sr⟩:=aDc f5 (by
    rw [hx] at hb;simp only [Rows.uptoBulk,Rows.uptoBulkAll,List.map_cons,List.map_nil] at hb;omega)
   exact ⟨⟨n0,n1,n2,n3,n4⟩,v5,ds,rfl,sr⟩
theorem aDf {b o:Nat} {cs:List Value} {n:Nat} {x:DataW H×List MemPlace} (hc:w.cells? base ⟨b,o,none⟩ 3=some cs) (h:DataW.trod enc Tryz.prog w base spare held n 51 cs=some x):∃ y:Wv,(∀ (c:Nat) (u:Value),(ma y)[c]?=some u→w.cell? ⟨b,o+c,none⟩=some u)∧oL (fun b=>b<w.heap.size) w y∧y.x.key.size+y.x.val.length≤Rows.uptoBulk x.1:=by
 obtain ⟨xs,m,_,hx,hl,hlen,hf⟩:=DataW.trod_struct Tryz.underlying51 h;obtain ⟨v0,v1,v2,rfl,c0,c1,c2⟩:=anb hc;rw [Addr.add_lit] at c1 c2;have k9:Tryz.prog.cellsOf 9=1:=by kernel_rfl
 have k4:Tryz.prog.cellsOf 4=1:=by kernel_rfl
 have kB:Tryz.prog.cellsOf 49=1:=by kernel_rfl
 match xs,hlen with
 | [y0,y1,y2],_=>
  have f0:DataW.trod enc Tryz.prog w base spare held m 9 [v0]=some y0:=by have h7:=hf 0 _ rfl;simpa [k9] using h7
  have f1:DataW.trod enc Tryz.prog w base spare held m 4 [v1]=some y1:=by have h7:=hf 1 _ rfl;simpa [k9,k4] using h7
  have f2:DataW.trod enc Tryz.prog w base spare held m 49 [v2]=some y2:=by have h7:=hf 2 _ rfl;simpa [k9,k4,kB] using h7
  obtain ⟨s0,e0,q0,_⟩:=DataW.trod_string Tryz.underlying9 f0;obtain ⟨t1,e1,_⟩:=DataW.trod_bool Tryz.underlying4 f1;simp only [List.cons.injEq,and_true] at e0 e1;subst e0 e1;obtain ⟨l,hl,mE⟩:=aDb f2;refine ⟨⟨⟨s0,t1,l⟩,v2⟩,fun c u hu=> ?_,⟨hl,?_⟩,?_⟩
  ·match c,hu with
   |0,hu=>cases hu;exact c0
   |1,hu=>cases hu;exact c1
   |2,hu=>cases hu;exact c2
   |c+3,hu=>simp [ma] at hu
  ·obtain ⟨a,c,rfl,_,_,_,h⟩:=hl
   rcases h with h|⟨b',o',rfl,hb,_⟩
   ·exact .inl h
   ·exact .inr fun b hb'=>by cases hb';exact hb
  ·rw [hx,q0]
   have z0:s0.data.toList.length=s0.size:=by rw [Array.length_toList];rfl
   simp only [Rows.uptoBulk,Rows.uptoBulkAll,List.map_cons,List.map_nil,z0];omega
theorem aDg {v:Value} {fuel:Nat} {x:DataW H×List MemPlace} (h:DataW.trod enc Tryz.prog w base spare held fuel 27 [v]=some x):∃ ys,Ws (fun b=>b<w.heap.size) w v ys∧ys.length≤Rows.uptoBulk x.1∧bD (ys.map (·.x))≤Rows.uptoBulk x.1:=by
 have h':=h;have k3:Tryz.prog.cellsOf 51=3:=by kernel_rfl
 rcases Go.Deep.open_slice Tryz.underlying27 h with ⟨hcs,_⟩|⟨a,len,cap,m,n,D,Pl,hcs,_,hl,hm,jB,hx,uV⟩
 ·simp only [List.cons.injEq,and_true] at hcs
  exact ⟨[],⟨⟨none,0,by rw [hcs];rfl,ay _,bk _,fun _=>rfl,.inl rfl⟩,by simp⟩,bk _,bk _⟩
 ·simp only [List.cons.injEq,and_true] at hcs
  subst hcs;have gR:=Zi Tryz.underlying27 h';rw [k3] at uV;have tH:len≤m:=by rw [jB];split<;>omega
  by_cases hl0:len=0
  ·subst hl0
   exact ⟨[],⟨⟨some a,cap,rfl,bk _,hm,fun h=>(by cases h),.inl rfl⟩,by simp⟩,bk _,bk _⟩
  ·obtain ⟨cs0,hc0,_⟩:=uV 0 (by omega)
   obtain ⟨b,o,sp⟩:=a;obtain ⟨v0,_,_,_,hz0,_⟩:=anb hc0;have hz:w.cell? ⟨b,o,sp⟩=some v0:=by simpa [Addr.add] using hz0
   have hsp:=Zh hz;simp only at hsp;subst hsp;have hlt:=World.block_lt_of_cell? w _ hz;have hall:∀ i,i<len→∃ y:Wv,(∀ (c:Nat) (u:Value),(ma y)[c]?=some u→w.cell? ⟨b,o+i*3+c,none⟩=some u)∧oL (fun b=>b<w.heap.size) w y∧y.x.key.size+y.x.val.length≤Rows.uptoBulk (D i):=fun i hi=>by
    obtain ⟨cs',h1,h2⟩:=uV i (by omega);rw [Addr.add_lit] at h1;exact aDf h1 h2
   have:Inhabited Wv:=⟨⟨⟨⟨#[]⟩,false,[]⟩,.slice none 0 0⟩⟩
   obtain ⟨f,hf⟩:=Go.Deep.choose_lt hall;refine ⟨(List.range len).map f,⟨⟨some ⟨b,o,none⟩,cap,by simp,by simpa using hl,hm,fun h=>(by cases h),.inr ⟨b,o,rfl,hlt,hlt,fun i y hy=> ?_⟩⟩,fun y hy=> ?_⟩,by simpa using gR,?_⟩
   ·simp only [List.getElem?_map,Option.map_eq_some_iff] at hy
    obtain ⟨j,hj,rfl⟩:=hy;have kO:i<len:=by have:=(dQ.1 hj).1;simpa using this
    rw [List.getElem?_range kO] at hj;cases hj;exact (hf i kO).1
   ·obtain ⟨i,hi,rfl⟩:=List.mem_map.1 hy
    exact (hf i (by simpa using hi)).2.1
   ·have h1:=ane D (fun i=>(f i).x.key.size+(f i).x.val.length) (List.range len) (fun i hi=>(hf i (by simpa using hi)).2.2)
    rw [hx];have h2:bD (((List.range len).map f).map (·.x))=((List.range len).map fun i=>(f i).x.key.size+(f i).x.val.length).sum:=by unfold bD;rw [List.map_map,List.map_map];rfl
    rw [h2];simp only [Rows.uptoBulk];omega
end
end Go.Proofs.YtoolkdapflaeeaaGreatDoor
namespace Go.Proofs.YtoolkdapflaeeaaGreatDoor.Zj
open Go.ChangeShapes Go.WideShapes Go.ChangeAt Go.RowKit Go.Gl Go.aH Mn
theorem own:ownKnob Tryz.prog.godebug=none:=by kernel_rfl
theorem laidOut:laidOutB Tryz.prog=true:=by kernel_rfl
theorem Zk {H:Type} {d:DataW H}:∀ {l:List (DataW H)} {m:Nat},d∈l→Rows.uptoBulkAll l≤m→Rows.uptoBulk d≤m
 |x::r,m,hd,h=>by
  rw [Rows.uptoBulkAll] at h;rcases List.mem_cons.1 hd with rfl|hd
  ·omega
  ·have:=Zk hd (m:=m) (by omega);omega
theorem contract (H:Type) (enc:TypeId×Value→H) (W:World) (base:Nat) (args:Array Value) (ds gs:List (DataW H)) (before:List MemPlace)
  (hval:∀ (j:Nat) t v,Tryz.f3.params[j]?=some t→args[j]?=some v→Value.okWide Tryz.prog W .any base t v)
  (hW:DataW.Whole enc Tryz.prog Tryz.f3.params.toList Rows.lsmLastSpec.vars false W args.toList ds gs before) (hk:Rows.uptoBulkAll (ds++gs)≤1048576):
  Calls Tryz.prog 3 args W fun e W'=>∃ v,e= .returned v∧Rows.lsmLastSpec.post enc Tryz.prog Tryz.f3 false true false false W args v W':=by
 have hW':=hW;obtain ⟨p,q,hA0,hV,rfl,hfz,jo⟩:=hW;have hA:DataW.TrodAll enc Tryz.prog W 0 (fun _=>true) true Tryz.f3.params.toList args.toList ds p:=hA0;rw [Tryz.params3] at hA hval;obtain ⟨v0,vs0,d0,ds0,p0,q0,aIq,rfl,rfl,h0,r0⟩:=trodAll_cons hA;obtain ⟨v1,vs1,d1,ds1,p1,q1,rfl,rfl,rfl,h1,r1⟩:=trodAll_cons r0;obtain ⟨rfl,rfl,rfl⟩:=trodAll_nil r1;obtain rfl:args=#[v0,v1]:=by cases args;simp_all
 obtain ⟨rfl,rfl⟩:=trodVars_none hV;obtain ⟨c0,rfl,hs0⟩:=okWide_struct Tryz.underlying26 (hval 0 26 v0 rfl rfl);obtain ⟨a1,OJ,tX,rfl⟩:=okWide_slice Tryz.underlying27 (hval 1 27 v1 rfl rfl);have k0:=h0;have WA:∀ x∈p0,x.block<W.heap.size:=by obtain ⟨m,hm⟩:=k0;exact DataW.trod_lt m _ _ _ hm
 have k1:=h1;have UU:∀ x∈p1,x.block<W.heap.size:=by obtain ⟨m,hm⟩:=k1;exact DataW.trod_lt m _ _ _ hm
 obtain ⟨o0,dv0,dr0,ho0,hd0⟩:∃ o dv dr,Value.agg c0=sN o dv∧Iw (fun b=>b<W.heap.size) W dv dr:=by obtain ⟨fuel,hf⟩:=h0;exact aDd (hs0.trans (by kernel_rfl)) hf (Zk (d:=d0) (by simp) hk)
 obtain ⟨x1,bS⟩:∃ ys,Ws (fun b=>b<W.heap.size) W (.slice a1 OJ tX) ys∧ys.length≤Rows.uptoBulk d1∧bD (ys.map (·.x))≤Rows.uptoBulk d1:=by obtain ⟨fuel,hf⟩:=h1;exact aDg hf
 clear hA0;have walk:Calls Tryz.prog 3 #[.agg c0,.slice a1 OJ tX] W fun e w'=>e= .returned (.bool true)∧Grow W w':=by
  rw [ho0];exact aCP (Nn:=100) (SC _ _) (ay _) hd0 bS.1 (fun b hb=>hb) (by have:=bS.2.1;have:=bS.2.2;have:=Zk (d:=d1) (by simp) hk;omega)
 refine (walk).mono fun e W' ⟨he,Zl⟩=> ?_
 subst he;exact ⟨_,rfl,_,_,_,[],_,[],hW',trodAll_mk1 (shut_bool Tryz.underlying4 _),(trodAll_cons_mk (Below.trod laidOut (by kernel_rfl) (of_decide_eq_true (by kernel_rfl)) k0 Zl WA) (trodAll_cons_mk (Below.trod laidOut (by kernel_rfl) (of_decide_eq_true (by kernel_rfl)) k1 Zl UU) trodAll_mk0)),rfl,Zl.frame _,fun h=>by cases h⟩
noncomputable def Zm (os:Os):World:=World.laidAll Tryz.prog os Rows.lsmLastUptoRow.laid
theorem aDk (os:Os):laidMet Tryz.prog Rows.lsmLastUptoRow.laid ((Zm os).forCall (fun _ _=>0) ⟨#[],#[.agg #[.int .i64 0,.int .i64 0,.int .i64 0,.int .i64 0,.int .i64 0,.slice none 0 0],.slice none 0 0],[]⟩).memory:=
 laidMet_laidAll _ (by kernel_rfl) (by kernel_rfl)
theorem reads (os:Os) {H:Type} (enc:TypeId×Value→H):∃ places,DataW.whole enc Tryz.prog ((Zm os).forCall (fun _ _=>0) ⟨#[],#[.agg #[.int .i64 0,.int .i64 0,.int .i64 0,.int .i64 0,.int .i64 0,.slice none 0 0],.slice none 0 0],[]⟩).memory Tryz.f3.params.toList Rows.lsmLastSpec.vars false #[(.agg #[.int .i64 0,.int .i64 0,.int .i64 0,.int .i64 0,.int .i64 0,.slice none 0 0]:Value),.slice none 0 0].toList 8=some ([.agg [.lit (.int .i64 0),.lit (.int .i64 0),.agg [.lit (.int .i64 0),.lit (.int .i64 0),.lit (.int .i64 0)],.nil],.nil],[],places):=
 ⟨[],by kernel_rfl⟩
theorem lifted (os:Os) (started:os.Started) (H:Type) (enc:TypeId×Value→H) (F:Stop.Interp):
  ReturnsInHanded {} Tryz.checked os 3 .any ((Rows.OpenSpec.upto Rows.lsmLastSpec).preRow enc Tryz.prog Tryz.f3 Rows.lsmLastUptoRow.domain false Rows.lsmLastUptoRow.laid) (((Rows.OpenSpec.upto Rows.lsmLastSpec).at F).post enc Tryz.prog Tryz.f3 false true false false):=by
 obtain ⟨places,hx⟩:=reads os enc;refine returnsInHanded_of_row (C:=Tryz.checked) (s:=Rows.OpenSpec.upto Rows.lsmLastSpec) own started (by kernel_rfl) Tryz.func3
  (witness_row_at (enc:=enc) (C:=Tryz.checked) false (Zm os) #[.agg #[.int .i64 0,.int .i64 0,.int .i64 0,.int .i64 0,.int .i64 0,.slice none 0 0],.slice none 0 0] (World.laidAll_os _ _ _) (by kernel_rfl) (by kernel_rfl) (by kernel_rfl)
   (OpenSpec.preRow_of_cond 8 hx (by kernel_rfl) (fun k hk=>by cases hk;kernel_rfl) (by kernel_rfl) (aDk os))) ?_
 intro W base args ds gs before hval hW _ aDl _ _ _ _;exact contract H enc W base args ds gs before hval hW (of_decide_eq_true (aDl _ rfl))
end Go.Proofs.YtoolkdapflaeeaaGreatDoor.Zj
namespace Go.Proofs.YtoolkdapflaeeaaGreatDoor.Zj
open Go.ChangeShapes Go.WideShapes Go.ChangeAt Go.RowKit Go.Gl Go.aH Mn
theorem aDm:(Rows.lsmLastUptoRow.inPlace==Tryz.pinned.checked.prog.inPlace 3)=true:=by kernel_rfl
theorem aDn:(Rows.lsmLastUptoRow.unfollowed==Tryz.pinned.checked.prog.unfollowed 3)=true:=by kernel_rfl
theorem aDo:(Rows.lsmLastUptoRow.recurses==Tryz.pinned.checked.prog.recurses 3)=true:=by kernel_rfl
theorem aDp:(Rows.lsmLastUptoRow.named==Tryz.pinned.checked.prog.varsNamed 3)=true:=by kernel_rfl
theorem closed:joinedFacts Tryz.pinned.checked.prog 3 Tryz.f3 (Rows.OpenSpec.upto Rows.lsmLastSpec).bare Rows.lsmLastUptoRow=true:=by
 unfold joinedFacts;rw [aDm,aDn,aDo,aDp];kernel_rfl
theorem aDq:Rows.LsmLastUptoSaid:=
 OpenClaim.holds_of_cond 3 Tryz.f3 rfl rfl rfl rfl rfl rfl rfl ⟨rfl,rfl,rfl,rfl,rfl⟩ rfl rfl rfl rfl rfl (by kernel_rfl) Tryz.func3 closed
  (of_decide_eq_true (by kernel_rfl)) (by unfold Func.isWrapper;first|(rw [if_pos (by decide+kernel)];kernel_rfl)|(rw [if_neg (by decide+kernel)];exact ⟨rfl,rfl⟩))
  (fun os started H enc _ F=>by rw [OpenClaim.pre_eq_preRow];exact lifted os started H enc F)
theorem plain (f:FuncId) (fn:Func) (hf:Tryz.pinned.checked.prog.funcNamed "glacier/glacierlaw10.LsmLast"=some f) (hfn:Tryz.pinned.checked.prog.funcs[f]?=some fn):
  true=Tryz.pinned.checked.prog.looks []∧∀ (j:Nat) t,fn.params[j]?=some t→Tryz.pinned.checked.prog.wantsStandIn t=false:=by
 obtain rfl:f=3:=bB ((show Tryz.prog.funcNamed "glacier/glacierlaw10.LsmLast"=some 3 by kernel_rfl).symm.trans hf)|>.symm;obtain rfl:fn=Tryz.f3:=(bB (Tryz.func3.symm.trans hfn)).symm;refine ⟨by kernel_rfl,fun j t ht=> ?_⟩;rw [Tryz.params3] at ht;have hm:t∈ [26,27]:=by simpa using Array.mem_of_getElem? ht
 have hall:([26,27].all fun u=> !Tryz.prog.wantsStandIn u)=true:=by kernel_rfl
 exact (show Tryz.prog.wantsStandIn t=false by simpa using List.all_eq_true.1 hall t hm)
theorem proved:Rows.LsmLastUptoCardSaid:=
 Claim7.holds_tied_plain_at .later [] _ _ _ _ aDq (fun _ h=>by cases h) (by kernel_rfl) (fun _ h=>by cases h) lsmLastUpto_row_tie rfl ⟨rfl,rfl⟩ (by kernel_rfl) rfl plain (by kernel_rfl)
#print axioms proved
end Go.Proofs.YtoolkdapflaeeaaGreatDoor.Zj
