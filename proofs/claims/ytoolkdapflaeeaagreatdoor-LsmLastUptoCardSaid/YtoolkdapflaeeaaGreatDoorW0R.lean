/- Helpers. -/
import Derived.Deep.CutRange
import Derived.Deep.DeepCutAuto
import Derived.Test.YtoolkdapflaeeaaGreatDoorW0Q
set_option maxRecDepth 100000
set_option maxHeartbeats 16000000
namespace Go.Proofs.YtoolkdapflaeeaaGreatDoor
open Go.RowKit Go.Gl Go.aH Mn
def Yj (Z B Nn:Nat) (wb:World) (t0:Tr) (f:Lk) (T K:Nat) (bs:List (Nat×List Wr)) (iv:Value) (wr:World):Prop:=
 ∃ (i:Nat) (t:Tr),iv= .int .i64 (i:Int)∧i≤bs.length∧cz Z B Nn wr t f T K∧eC wb t0 wr t∧t.ns.map (fun n=>n.x.e)=(bs.take i).foldl (fun l b=>gw b.1 b.2 l) []∧t.seq=((bs.take i).map (·.1)).foldl max t0.seq∧t.V=t0.V∧t.ld=t0.ld∧t.hh=t0.hh∧t.hn=t0.hn∧t.m=t0.m
variable {Z B Nn A C i:Nat} {w:World} {f:Lk} {T K:Nat} {s:dP}
theorem Yk {p r:Nat} {F:Nat→Prop} (hd:Dl Z B w p r f T K F) (hN:cI Nn B w) {o:Od} {drv:Value} {ds:List Int} {N0:Nat→Prop} (hdr:∀ W,Rl B r w W→Iw N0 W drv ds) (rh:pY o) {Tb:Nat}
  (hmo:∀ W,Grow w W→Calls Tryz.prog 48 #[.pointer (some ⟨p,0,none⟩)] W (Yf Z B o.block.toNat A C i W p r s Tb)) (hA:A≤100000) (hC:C≤1000000) (hi:i+4≤Nn) (AJ:i≤800000) (iz:s.V.tabs.length≤100000):
  Calls Tryz.prog 23 #[.pointer (some ⟨p,0,none⟩),sN o drv] w (akJ Z B Nn A C i w p r o ds s Tb):=by
 have ai:=Grow.alloc w (.cells #[.int .i64 o.mem,.int .i64 o.block,.int .i64 o.zero,.int .i64 o.base,.int .i64 o.table,drv] 26);have gi:=aw w (.cells #[.int .i64 o.mem,.int .i64 o.block,.int .i64 o.zero,.int .i64 o.base,.int .i64 o.table,drv] 26);have Yl:=fun W=>aiJ o drv W
 rw [if_pos rh] at Yl;have Hd0:=ae hd.base;have akQ:ds.length≤1000000000:=by obtain ⟨_,_,_,h,_⟩:=hdr w (Rl.refl B r w);exact h
 have akR:=ae Yl;have Hd:=ae hd;have HN:=ae hN;have pz:=ae hdr;have aBL:=ae rh;have Hmo:=ae hmo;have Hb:=ae (ah hA (ah hC (ah hi (ah AJ (ah iz akQ)))));clear hd hN hdr rh hmo hA hC hi AJ iz Yl akQ;go_enter Tryz.func23,Tryz.ntmps23
 go_upto_region 1 with fail
 generalize w.alloc (.cells #[.int .i64 o.mem,.int .i64 o.block,.int .i64 o.zero,.int .i64 o.base,.int .i64 o.table,drv] 26)=w1 at*;obtain ⟨xb,ym⟩:∃ xb,xb=w.heap.size:=⟨_,rfl⟩
 rw [←ym] at gi ⊢;have akT:=ae ym;have wU:∀ (W:World) (u:Value),W.heap[xb]?=some (.cells #[.int .i64 o.mem,.int .i64 o.block,.int .i64 o.zero,.int .i64 o.base,.int .i64 o.table,u] 26 (0,0))→(W.cell? ⟨xb,0,none⟩=some (.int .i64 o.mem)∧W.cell? ⟨xb,1,none⟩=some (.int .i64 o.block)∧W.cell? ⟨xb,2,none⟩=some (.int .i64 o.zero)∧W.cell? ⟨xb,3,none⟩=some (.int .i64 o.base)∧W.cell? ⟨xb,4,none⟩=some (.int .i64 o.table)∧W.cell? ⟨xb,5,none⟩=some u)∧xb<W.heap.size:=fun W u h=>by
  refine ⟨⟨?_,?_,?_,?_,?_,?_⟩,af h⟩<;>simp [World.cell?,h]
 have QO:=ae wU;obtain ⟨⟨x0,x1,x2,x3,x4,x5⟩,lx⟩:=wU _ _ gi;have tZ:=ae gi;have dK:=ae ai;clear ym wU gi ai
 go_wp2_with fail
 (with_reducible refine (akR.out w1).mono ?_);rintro e w2 ⟨rfl,hg2⟩;have eD:=ae (dK.out.trans hg2);have Pg:=ae hg2;clear hg2 x0 x1 x2 x3 x4 x5 lx
 go_wp2_with fail
 (with_reducible refine (Hmo.out w2 eD.out).mono ?_);rintro e w3 ⟨sb,rfl,LR,tv,f3,T3,K3,F3,Lh,kX,eV,hr3,uB,AD⟩;have LS:=ae (hr3.hold.keep _ _ _ _ (Pg.out.heap tZ.out) (by unfold zn;decide));have QP:=ae ((Rl.grow (r:=r) eD.out Hd.out.base).trans hr3);obtain ⟨⟨x0,x1,x2,x3,x4,x5⟩,lx⟩:=QO.out _ _ LS.out;have Ln:=ae Lh;have Ho3:=ae kX;have AH:=ae eV;have kf:=ae (ah uB (ah AD LR));have BU:=ae hr3;clear Lh kX eV hr3 uB AD LR;have aQ:=aeE (pz.out w3 QP.out);have fL:=ae aQ;clear aQ
 go_wp2_with fail
 (with_reducible refine fL.out.mono ?_);rintro e w4 ⟨cv,rfl,hcv,hg4⟩;clear x0 x1 x2 x3 x4 x5 lx fL;have nO:=hg4.heap LS.out;have fx:∀ j,w4.frozen? ⟨xb,j,none⟩=false:=fun j=>by simp [World.frozen?,nO]
 obtain ⟨⟨x0,x1,x2,x3,x4,x5⟩,lx⟩:=QO.out _ _ nO;have vd:=Go.Gl.aI nO 5 cv;have akV:∀ b,cv.ownBlock=some b→b≠xb:=fun b hb e=>by
  obtain ⟨cur,hc⟩:=hcv.block hb;rw [e,nO] at hc;exact absurd (cA (bB hc)).2.1 (by decide)
 have QQ:Go.Gl.Row1 3 w3.heap.size (w4.setCell ⟨xb,5,none⟩ cv) cv (ds.map (fun x=> .int .i64 x)):=hcv.keep (fun b hb=>aK _ _ _ _ (fun e=>akV b hb e));have hiw:Iw (fun b=>w3.heap.size≤b) (w4.setCell ⟨xb,5,none⟩ cv) cv ds:=JR QQ Hb.out.2.2.2.2.2 (fun g hg=>(QQ.lt hg).1);have eM:w.heap.size≤xb:=Nat.le_of_eq akT.out.symm;have cE:dy (w4.setCell ⟨xb,5,none⟩ cv) sb p tv s.V ((0:Nat):Int):=by
  have h1:w4.heap[sb]?=some (.cells (setCells p tv s.V ((0:Nat):Int)) 154 (0,0)):=Ln.out.grow hg4;refine dy.same h1 (aK _ _ _ _ (fun e=> ?_));have e':sb=xb:=e;rw [e',nO] at h1;exact absurd (cA (bB h1)).2.1 (by decide)
 have hown:Mn.Own 0 (w4.setCell ⟨xb,5,none⟩ cv) tv s.V.tabs:=AB (ek Ho3.out hg4) (fun b cur hc=>aK _ _ _ _ (fun e=>by
  have e':b=xb:=e;rw [e',nO] at hc;exact absurd (cA (bB hc)).2.1 (by decide)))
 have hdk:Dl Z B (w4.setCell ⟨xb,5,none⟩ cv) p r f3 T3 K3 F3:=by
  have jh:=AH.out.grow hg4;have vH:=jh.apart nO (by decide) (by decide) (by decide);obtain ⟨V,d1,d2,d3,d4⟩:=jh;exact ⟨V,d1.keep (by simp) (fun b hb=>aK _ _ _ _ (fun e=>vH (by have e':b=xb:=e;rw [←e'];exact hb))),d2,d3,d4⟩
 have Ym:B≤xb:=aN Hd.out.base eM;have xJ:Rl B r w (w4.setCell ⟨xb,5,none⟩ cv):=by
  have h1:=QP.out.trans (Rl.grow (r:=r) hg4 AH.out.base);refine ⟨⟨h1.hold.os,h1.hold.tape,h1.hold.output,by simpa using h1.hold.size,fun b arr ty fz h ht=> ?_,fun b ob h hc hn=> ?_⟩,h1.below.setCell (p:=⟨xb,5,none⟩) Ym cv⟩
  ·rw [aK _ _ _ _ (fun e=>by have e':b=xb:=e;have:=af h;omega)];exact h1.hold.keep b arr ty fz h ht
  ·rw [aK _ _ _ _ (fun e=>by have e':b=xb:=e;have:=af h;omega)];exact h1.hold.maps b ob h hc hn
 have iT:cI Nn B (w4.setCell ⟨xb,5,none⟩ cv):=HN.out.keep (fun b hb=>xJ.below.block b hb);have akY:w.heap.size≤w3.heap.size:=QP.out.hold.size;have akZ:w3.heap.size≤(w4.setCell ⟨xb,5,none⟩ cv).heap.size:=by simpa using hg4.size
 have HX:=ae vd;have HIw:=ae hiw;have Yn:=ae QQ;have qL:=ae cE;have Yo:=ae hown;have qG:=ae hdk;have HR5:=ae xJ;have HN5:=ae iT;have AX:=ae (ah akY (ah akZ Ym));obtain ⟨ca,cc,ald⟩:=hcv.slice;rw [List.length_map] at ald;subst ald;clear hcv hg4 nO vd akV QQ hiw eM cE hown hdk Ym xJ iT akY akZ Ln Ho3 AH BU QP LS Hd HN pz akR Hmo dK eD Pg tZ
 go_upto_region 8 with fail
 generalize w4.setCell ⟨xb,5,none⟩ (.slice ca ds.length cc)=w5 at*;have jB:= @run_makeMap Tryz.prog;have hgd:=Grow.drew w5;refine uD (fun a0 ha0=> ?_);have F3:a0.tmps[3]?=some (.pointer (some ⟨xb,0,none⟩)):=by rw [ha0];rfl
 have F7:a0.tmps[7]?=some (.pointer (some ⟨sb,0,none⟩)):=by rw [ha0];rfl
 have hsz:a0.tmps.size=113:=by rw [ha0];rfl
 have mC:=ae ha0;have uC:=ae hgd;clear ha0 hgd fx x0 x1 x2 x3 x4 x5 lx;refine uG (S8 w5 sb xb o (.slice ca ds.length cc) ds) (T8 w5) Grow [39,40,41,42,43,44,45,46,47,9] (by kernel_rfl) (by kernel_rfl) (by rw [hsz];rfl) S8.keep ⟨uC.out,fun h=>by cases h⟩ ?_ (fun a1 W1 hf=> ?_);rotate_left
 ·obtain ⟨v9,s9,db,mb,ha,tm,hm,dv,q9,oz,hC,hop⟩:=hf.slot 9 9 rfl (by rfl)
  subst q9;have QR:Grow w5 W1:=hf.world.1;have e:=hf.alike.fill;rw [mC.out] at e;simp only [List.foldl_cons,List.foldl_nil,Act.put,List.setIfInBounds_toArray,List.set_cons_zero,List.set_cons_succ] at e;have h9:a1.tmps.getD 9 undef= .pointer (some ⟨db,0,none⟩):=by rw [fI,s9];rfl
  obtain ⟨u39,Jh⟩:∃ u,a1.tmps.getD 39 undef=u:=⟨_,rfl⟩
  obtain ⟨u40,Ji⟩:∃ u,a1.tmps.getD 40 undef=u:=⟨_,rfl⟩
  obtain ⟨u41,Jj⟩:∃ u,a1.tmps.getD 41 undef=u:=⟨_,rfl⟩
  obtain ⟨u42,Jk⟩:∃ u,a1.tmps.getD 42 undef=u:=⟨_,rfl⟩
  obtain ⟨u43,Jl⟩:∃ u,a1.tmps.getD 43 undef=u:=⟨_,rfl⟩
  obtain ⟨u44,h44⟩:∃ u,a1.tmps.getD 44 undef=u:=⟨_,rfl⟩
  obtain ⟨u45,h45⟩:∃ u,a1.tmps.getD 45 undef=u:=⟨_,rfl⟩
  obtain ⟨u46,h46⟩:∃ u,a1.tmps.getD 46 undef=u:=⟨_,rfl⟩
  obtain ⟨u47,h47⟩:∃ u,a1.tmps.getD 47 undef=u:=⟨_,rfl⟩
  rw [h9,Jh,Ji,Jj,Jk,Jl,h44,h45,h46,h47] at e;clear hf h9 Jh Ji Jj Jk Jl h44 h45 h46 h47 s9;rw [e];have Jr:=qL.out.grow QR;have sK:=Ua Jr (ek Yo.out QR) (by have:=Hb.out;omega);have Au:=ae sK;have Di:=ae hC;have DF:=ae hop;have JS:=ae QR;have se:=ae oz;obtain ⟨c0,_,_,_,_,c10,_,bA⟩:=hC.cells;clear e mC F3 F7 hsz Jr sK hC hop QR oz jB
  go_wp2_with fail
  (with_reducible refine Au.out.mono ?_);rintro e w7 ⟨v7,rfl,je,cF⟩;obtain ⟨ta,tc,rfl⟩:=iV je;have hgb:=Grow.alloc w7 (.cells (bz (.slice ta s.V.tabs.length tc) s.V.seq s.V.next s.V.aj) 85);have iO:=aw w7 (.cells (bz (.slice ta s.V.tabs.length tc) s.V.seq s.V.next s.V.aj) 85);have pF:=ek je hgb;have QS:=cF.trans hgb;clear c0 c10 bA Au
  go_upto_region 10 with fail
  generalize w7.alloc (.cells (bz (.slice ta s.V.tabs.length tc) s.V.seq s.V.next s.V.aj) 85)=w8 at*;obtain ⟨vb,ali⟩:∃ vb,vb=w7.heap.size:=⟨_,rfl⟩
  rw [←ali] at iO ⊢;have DG:w8.heap[db]?=some (.cells (oO sb o (.slice ca ds.length cc) (.pointer none) mb tm 0 hm) 93 (0,0)):=Di.out.grow QS;obtain ⟨wk,sP⟩:∃ q:Nat,s.V.seq=(q:Int):=⟨s.V.seq.toNat,by have:=kf.out.1.gy.good.seq.1;omega⟩
  have DA:=Go.Gl.aI DG 10 (.int .u64 s.V.seq);have iY:Sep (fun b=>b=db) w8 (w8.setCell ⟨db,10,none⟩ (.int .u64 s.V.seq)) (fun b=>b=db):=⟨rfl,rfl,rfl,by simp,fun b _ hn=>aK _ _ _ _ hn,fun b hb=> .inl hb⟩
  have yn:∀ {b:Nat} {arr:Array Value} {ty:TypeId} {fz:Nat×Nat},w8.heap[b]?=some (.cells arr ty fz)→ty≠93→(w8.setCell ⟨db,10,none⟩ (.int .u64 s.V.seq)).heap[b]?=w8.heap[b]?:=fun hb sA=>aK _ _ _ _ (fun e=>by
   rw [e,DG] at hb;exact sA (cA (bB hb)).2.1.symm)
  have DI:=JS.out.trans QS;have alj:dy (w8.setCell ⟨db,10,none⟩ (.int .u64 s.V.seq)) sb p tv s.V ((0:Nat):Int):=by
   have h1:w8.heap[sb]?=some (.cells (setCells p tv s.V ((0:Nat):Int)) 154 (0,0)):=qL.out.grow DI;exact dy.same h1 (yn h1 (by decide))
  have alk:Mn.Own 0 (w8.setCell ⟨db,10,none⟩ (.int .u64 s.V.seq)) tv s.V.tabs:=AB (ek Yo.out DI) (fun b cur hc=>yn hc (by decide));have KP:Mn.Own w8.heap.size (w8.setCell ⟨db,10,none⟩ (.int .u64 s.V.seq)) (.slice none 0 0) []:=⟨rfl,.inl ⟨rfl,rfl⟩⟩
  have alm:Mn.Own W1.heap.size (w8.setCell ⟨db,10,none⟩ (.int .u64 s.V.seq)) (.slice ta s.V.tabs.length tc) s.V.tabs:=AB pF (fun b cur hc=>yn hc (by decide));have aln:=(yn iO (by decide)).trans iO;have fF:Dl Z B (w8.setCell ⟨db,10,none⟩ (.int .u64 s.V.seq)) p r f3 T3 K3 F3:=by
   have ED:=qG.out.grow DI;have vH:=ED.apart DG (by decide) (by decide) (by decide);obtain ⟨V,d1,d2,d3,d4⟩:=ED;exact ⟨V,d1.keep (by simp) (fun b hb=>aK _ _ _ _ (fun e=>vH (by have e':b=db:=e;rw [←e'];exact hb))),d2,d3,d4⟩
  have yu:=DF.out.grow QS;obtain ⟨Nm,si⟩:=yu.mem;have alo:Go.Gl.Row1 3 w5.heap.size (w8.setCell ⟨db,10,none⟩ (.int .u64 s.V.seq)) dv (ds.map (fun x=> .int .i64 x)):=yu.row.keep (fun b hb=>by
   obtain ⟨cur,hc⟩:=yu.row.block hb;exact yn hc (by decide))
  have alp:cX (fun b=>dv.ownBlock=some b) (w8.setCell ⟨db,10,none⟩ (.int .u64 s.V.seq)) mb ha [] 0 dv ds:=by
   have k:∀ b,FM mb ha [] b→(w8.setCell ⟨db,10,none⟩ (.int .u64 s.V.seq)).heap[b]?=w8.heap[b]?:=fun b hb=>by
    obtain ⟨arr,ty,h1,h2⟩:=si.kind hb;refine yn h1 ?_;rcases h2 with rfl|rfl|rfl<;>decide
   have Vb:cX (fun b=>dv.ownBlock=some b) w8 mb ha [] 0 dv ds:=⟨si.self,⟨fun n hn=>(by cases hn),si.skip.gZ,fun n hn=>(by cases hn),List.nodup_nil,si.skip.Cz,fun n hn=>(by cases hn),cQ.nil⟩,bk _,JR yu.row Hb.out.2.2.2.2.2 (fun g hg=>hg)⟩
   exact Vb.keep k ⟨by simp,fun b hb _=>by
    obtain ⟨cur,hc⟩:=yu.row.block hb;exact yn hc (by decide)⟩
  have Yp:∀ {m:Nat} {enc:Int→Value} {g:Int→Option Value} {n:Nat},fA w8 m enc g n→fA (w8.setCell ⟨db,10,none⟩ (.int .u64 s.V.seq)) m enc g n:=fun rq=>rq.keep (aK _ _ _ _ (fun e=>by
   have:=rq.map (arr:=_) (ty:=_) (fz:=_) (by rw [e];exact DG);exact this))
  have alq:=Yp yu.tab;have Yq:=(Yn.out.mono (bk _)).grow DI;have alr:Go.Gl.Row1 3 0 (w8.setCell ⟨db,10,none⟩ (.int .u64 s.V.seq)) (.slice ca ds.length cc) (ds.map (fun x=> .int .i64 x)):=Yq.keep (fun b hb=>by
   obtain ⟨cur,hc⟩:=Yq.block hb;exact yn hc (by decide))
  have als:B≤db:=aN qG.out.base se.out;have alu:dT (w8.setCell ⟨db,10,none⟩ (.int .u64 s.V.seq)) db sb o (.slice ca ds.length cc) (.pointer none) mb tm wk hm:=by rw [sP] at DA ⊢;exact DA
  have hbl:Bl Z B Nn (w8.setCell ⟨db,10,none⟩ (.int .u64 s.V.seq)) db sb p r mb ha tm hm wk o (.slice ca ds.length cc) dv tv ds s.V f3 T3 K3 F3:=⟨alu,alj,alk,alp,alo.mono (bk _),alr,Yp yu.held,fF,HN5.out.keep (fun b hb=>by
   rw [aK _ _ _ _ (fun e=>by have e':b=db:=e;omega)];exact DI.block b (cj hb qG.out.base))⟩
  have hr9:Rl B r w (w8.setCell ⟨db,10,none⟩ (.int .u64 s.V.seq)):=by
   have h1:=HR5.out.trans (Rl.grow (r:=r) DI qG.out.base);have hdw:w.heap.size≤db:=aN (aN AX.out.1 AX.out.2.1) se.out;refine ⟨⟨h1.hold.os,h1.hold.tape,h1.hold.output,by simpa using h1.hold.size,fun b arr ty fz h ht=> ?_,fun b ob h hc hn=> ?_⟩,h1.below.setCell (p:=⟨db,10,none⟩) als _⟩
   ·rw [aK _ _ _ _ (fun e=>by have e':b=db:=e;have:=af h;omega)];exact h1.hold.keep b arr ty fz h ht
   ·rw [aK _ _ _ _ (fun e=>by have e':b=db:=e;have:=af h;omega)];exact h1.hold.maps b ob h hc hn
  have alw:w.heap.size≤w5.heap.size∧w5.heap.size≤tm∧w5.heap.size≤hm∧w5.heap.size≤mb∧w5.heap.size≤ha∧tm≠hm∧B≤w5.heap.size∧w5.heap.size≤db:=⟨aN AX.out.1 AX.out.2.1,DF.out.Gw,DF.out.Gx,DF.out.QL,DF.out.QM,DF.out.ne,qG.out.base,se.out⟩
  have sQ:∀ b,F3 b→b<w5.heap.size:=fun b hb=>(qG.out.foot hb).2
  have vQ:∀ j,w8.frozen? ⟨db,j,none⟩=false:=fun j=>by simp [World.frozen?,DG]
  obtain ⟨c0,_,_,_,_,c10,_,bA⟩:=(show dT w8 db sb o (.slice ca ds.length cc) (.pointer none) mb tm 0 hm from DG).cells;obtain ⟨v0,v1,v2,v3⟩:=bZ iO;have Lm:=af iO;have HBl:=ae hbl;have HCw:=ae (fun b (hb:(Value.slice ca ds.length cc).ownBlock=some b)=>(show w.heap.size≤b from aN AX.out.1 (Yn.out.lt hb).1));have HDw:=ae (fun b (hb:dv.ownBlock=some b)=>(show w.heap.size≤b from aN (aN AX.out.1 AX.out.2.1) (yu.row.lt hb).1));have HR9:=ae hr9;have LU:=ae alq;have Hnu:=ae (ah alw (ah sQ sP));have aBP:=ae (qx alm (bk _));have LV:=ae aln;clear ali DG DA iY yn DI alj alk KP alm aln fF yu si alo alp Yp alq Yq alr als alu hbl hr9 alw sQ sP iO pF QS hgb je cF qL Yo qG HR5 HN5 AX HIw Yn HX Di DF JS se akT QO
  go_upto_region 11 with fail
  generalize w8.setCell ⟨db,10,none⟩ (.int .u64 s.V.seq)=w9 at*;have alz:Yh w9 tm s.V.tabs s.az (.int .i64 0) w9:=⟨0,fun _=>none,fun _=>none,0,rfl,bk _,GX.refl _ _,LU.out,(fun k b l h=>by cases h),(fun x hx=>by simp at hx)⟩
  have alA:=ae alz;clear alz;obtain ⟨v0,v1,v2,v3⟩:=bZ LV.out;have Lm:=af LV.out
  go_wp2_with fail
  clear v0 v1 v2 v3 Lm
  go_loopw [61] (fun iv wr=>Yh w9 tm s.V.tabs s.az iv wr) (fun iv _=>s.V.tabs.length-(intOf iv).toNat)
  case atStart=>exact alA.out
  case round=>
   clear alA;obtain ⟨i,ld,g,gm,rfl,hi,hgx,rq,jz,hall⟩:=hrel;obtain ⟨⟨n1,n2,n3,n4,n5,n6,n7,n8⟩,sQ,sP⟩:=Hnu.out;have Yr:¬ F3 tm:=fun hf=>by have:=sQ _ hf;omega
   have wo:=HBl.out.gx LU.out hgx n6 Yr (by omega);have DJ:=Sep.Lf hgx;by_cases hlt:i<s.V.tabs.length
   ·obtain ⟨x,hx⟩:∃ x,s.V.tabs[i]?=some x:=⟨s.V.tabs[i],by simp [hlt]⟩
    have ow:=dY hx;have Ys:Mn.Own 0 wr (.slice ta s.V.tabs.length tc) s.V.tabs:=AB aBP.out (fun b cur hc=>DJ.out b (af hc) (fun e=>LU.out.map (by rw [←e];exact hc)));obtain ⟨gT,azp,azq,jN,KR,jO⟩:∃ (g cap:Nat) (cur:Array Value),(Value.slice ta s.V.tabs.length tc)= .slice (some ⟨g,0,none⟩) s.V.tabs.length cap∧wr.heap[g]?=some (.cells cur 101 (0,0))∧Rd wr g 0 ig 5 s.V.tabs:=by
     rcases id Ys.2 with ⟨h1,h0⟩|⟨g,cap,cur,h1,h2,h3,h4⟩
     ·omega
     ·exact ⟨g,cap,cur,h1,h3,wO pw (h1 ▸ Ys)⟩
    cases jN;have gW:=jO i x hx;obtain ⟨n,hn⟩:∃ n:Nat,x.file=(n:Int):=⟨x.file.toNat,by have:=(kf.out.1.gy.good.tabs x ow).file.1;omega⟩
    have Ff:x.file.toNat=n:=by omega
    have Qx:n<i+n+1:=by omega
    have hb:=Hb.out;have dw:n+4≤Nn∧n<1000000:=by
     have h1:=kf.out.1.gy.files x ow;have h2:=kf.out.1.lim.next;omega
    obtain ⟨t1,t2⟩:=kf.out.1.table ow;have t3:=Qv (s.az x.file);obtain ⟨e1,e2⟩:=kf.out.1.gy.az x ow;have aM:=fun o'=>Grow.alloc wr o'
    have Gs:=kf.out.1.gy.tabs x ow;rw [Ff] at Gs;have alB:=fun (W:World) (hg:Grow wr W)=>aie (wo.cell.grow hg) (wo.set.grow hg) (wo.aW.grow hg) (wo.gV.grow hg wo.aW.base) (n:=n) (by omega) dw.2 Gs e1 e2.ord e2.gone e2.ok (by omega) (by omega) (rq.grow hg)
    have gO:∀ (W w2:World) (tb:Nat),Grow wr W→PV W tm g gm n (s.az x.file) w2 tb→Yh w9 tm s.V.tabs s.az (.int .i64 ((i:Int)+1)) w2:=fun W w2 tb hg hl=>by
     have Eg:=(GX.of (g:=tm) hg).trans hl.gx;refine ⟨i+1,fun k=>if k=(n:Int) then some (tb,s.az x.file) else ld k,_,gm+1,by simp,hlt,hgx.trans Eg,hl.map,fun k b l hk=> ?_,fun y hy=> ?_⟩
     ·dsimp only at hk
      split at hk
      ·rename_i he
       cases hk;exact ⟨by unfold vT;rw [if_pos he],hl.sst.mono (aN DJ.size hg.size),x,ow,rfl⟩
      ·rename_i he
       obtain ⟨h1,h2,h3⟩:=jz k b l hk;exact ⟨by unfold vT;rw [if_neg he];exact h1,h2.gx Eg rq.WL,h3⟩
     ·rw [take_one hx] at hy
      dsimp only;by_cases he:y.file=(n:Int)
      ·refine ⟨tb,?_⟩
       rw [if_pos he,he,hn]
      ·rw [if_neg he]
       rcases List.mem_append.1 hy with hy|hy
       ·exact hall y hy
       ·rw [cY.1 hy] at he
        exact absurd hn he
    obtain ⟨f0,f1,f2,f3',f4⟩:=x;dsimp only at hn;subst hn;have a0:=gW 0 _ rfl;have a1:=gW 1 _ rfl;have a2:=gW 2 _ rfl;have a3:=gW 3 _ rfl;have a4:=gW 4 _ rfl;simp only [Nat.add_zero,Nat.zero_add] at a0 a1 a2 a3 a4;have lT:gT<wr.heap.size:=af KR;have dJ:(i:Int)<(s.V.tabs.length:Int):=by omega
    have bK:(0:Int)≤(i:Int):=by omega
    have eE:IntKind.i64.wrap ((i:Int)+1)=(i:Int)+1:=aR _ (by omega);have ai:=Grow.alloc wr (.cells #[.int .i64 (n:Int),.int .i64 f1,.string f2,.string f3',.int .i64 f4] 101);have Yt:=aw wr (.cells #[.int .i64 (n:Int),.int .i64 f1,.string f2,.string f3',.int .i64 f4] 101);obtain ⟨b0,b1,b2,b3,b4⟩:=cw Yt;have lb:=af Yt;have alC:=ae (alB _ ai);have jY:=ae (fun w2 tb=>gO _ w2 tb ai);have nS:=ae hlt;clear alB gO gW jO KR Ys hx ow Ff Qx hb dw t1 t2 t3 e1 e2 aM Gs wo DJ hgx rq jz hall Yr n1 n2 n3 n4 n5 n6 n7 n8 sQ sP ai Yt hlt
    go_wp2_with fail
    (with_reducible refine alC.out.mono ?_);rintro e w2 ⟨rfl,tb,LF⟩;have bq:=ae (jY.out w2 tb LF);clear LF alC jY a0 a1 a2 a3 a4 b0 b1 b2 b3 b4 lb lT;go_wp2;go_roundw
    case rel=>exact bq.out
    case measure=>simp [intOf];have:=nS.out;omega
   ·obtain rfl:i=s.V.tabs.length:=by omega
    rw [List.take_length] at hall;have HLd:=ae (ah rq (ah jz (ah hall hgx)));have LW:=ae wo;have QT:=ae ((DJ.out vb (af LV.out) (fun e=>LU.out.map (by rw [←e];exact LV.out))).trans LV.out);obtain ⟨a,ha⟩:∃ a:Nat,s.V.aj=(a:Int):=⟨s.V.aj.toNat,by have:=kf.out.1.lim.vY;omega⟩
    have hat:s.V.aj.toNat=a:=by omega
    have kK:=kf.out.1.log;rw [hat] at kK;have hb:=Hb.out;have QU:=kf.out.1.lim;have LD:=kf.out.1.K;have eh:∀ ps∈ib s.LL,∀ q∈ps,q.length≤67108864:=fun ps eh q hq=>by
     obtain ⟨bs,uj,rfl⟩:=List.mem_map.1 eh;obtain ⟨b,EP,rfl⟩:=List.mem_map.1 hq;have dR:=QU.Dw b (List.mem_flatten.2 ⟨bs,uj,EP⟩);have h1:=VX b.1 b.2;have h2:=dR.len;have h3:=dR.bytes;show (lF b.1 b.2).length≤_;omega
    have Gy:=aix (ib s.LL) eh;have LX:(ib s.LL).flatten.length=s.LL.flatten.length:=by
     rw [←List.map_flatten,List.length_map]
    have yw:=QU.aj;have mE:=QU.Gk;have hop:=auo (a:=a) (nm:=bU) rfl (fun w=>atW w) kK (azG eh) wo.aW wo.gV (by omega) (by rw [yh];omega) (by rw [yh];omega) (by rw [Gy,LX];omega);have Hop:=ae hop;have xi:=ae (ah Gy (ah LX (ah ha (ah kK (ah yw mE)))));have QV:=QT.out;rw [ha] at QV;obtain ⟨v0,v1,v2,v3⟩:=bZ QV;have Lm:=af QV;clear rq jz hall hgx wo DJ hop Gy LX eh ha hat kK hb QU LD yw mE QV n1 n2 n3 n4 n5 n6 n7 n8 sQ sP Yr
    go_wp2_with fail
    (with_reducible refine Hop.out.mono ?_);rintro e wa ⟨lb,rv,Fa,rfl,aBR,EU,nD,JQ,xn⟩;obtain ⟨⟨n1,n2,n3,n4,n5,n6,n7,n8⟩,sQ,sP⟩:=Hnu.out;have DK:=HBl.out;have Yu:∀ b,F3 b→b<w9.heap.size:=fun b hb=>(DK.aW.foot hb).2
    obtain ⟨rq,jz,hall,hgx⟩:=HLd.out;have DJ:=(Sep.Lf hgx).size;have QW:=LW.out.sep EU nD (fun hf=>by have:=sQ _ hf;omega);have hta:fA wa tm encI g gm:=rq.keep (nD.out tm rq.lt (fun hf=>by have:=sQ _ hf;omega));have aBS:=LU.out.lt;have aBT:=DK.held.lt;have aBU:=DK.cell.cells.2.2.2.2.2.2.2;have aBV:=DK.set.cells.2.2.2.2.2.2;have alE:∀ k b l,ld k=some (b,l)→g k=some (.pointer (some ⟨b,0,none⟩))∧pX (fun b=>w9.heap.size≤b∧b<wr.heap.size) wa b l:=fun k b l hk=>by
     obtain ⟨h1,h2,x,hx,rfl⟩:=jz k b l hk;have he:=(kf.out.1.gy.az x hx).2;have ht:=kf.out.1.table hx;have hb:=Hb.out;exact ⟨h1,(h2.inN (fun b a c=>⟨a,c⟩) he.ord (by omega) (fun y hy=>(he.ok y hy).val)).kp ⟨nD.size,fun b hb _=>nD.out b hb.2 (fun hf=>by have:=Yu b hf;have:=hb.1;omega)⟩⟩
    have LQ:∀ b,(w9.heap.size≤b∧b<wr.heap.size)→b<wa.heap.size∧¬ Fa b∧¬ FM mb ha [] b∧b≠db∧b≠sb∧b≠lb∧b≠tm∧b≠hm:=fun b hb=>by
     refine ⟨cj hb.2 nD.size,fun hf=> ?_,fun hf=> ?_,by omega,by omega,by omega,by omega,by omega⟩
     ·rcases nD.foot b hf with h1|h1
      ·have:=Yu b h1;omega
      ·omega
     ·have:=DK.mem.lt hf;omega
    have LR:=kf.out.2.2;have alF:¬ Fa tm:=fun hf=>(nD.foot tm hf).elim (fun h1=>by have:=sQ _ h1;omega) (fun h1=>by have:=rq.lt;omega)
    have alG:¬ Fa hm:=fun hf=>(nD.foot hm hf).elim (fun h1=>by have:=sQ _ h1;omega) (fun h1=>by have:=LW.out.held.lt;omega)
    have rp:=QW.tree (sq:=wk) JQ hta alE LQ ⟨by omega,LR,by have:=LW.out.aW.base;omega,by omega,by omega,by omega,by omega⟩ alF alG n6 Hb.out.2.2.2.2.2;have LY:wa.heap[db]?=some (.cells (oO sb o (.slice ca ds.length cc) (.pointer none) mb tm wk hm) 93 (0,0)):=QW.cell;have zS:wa.heap[vb]?=some (.cells (bz (.slice ta s.V.tabs.length tc) s.V.seq s.V.next s.V.aj) 85 (0,0)):=(nD.out vb (af QT.out) (LW.out.aW.apart QT.out (by decide) (by decide) (by decide))).trans QT.out;have Yv:(wa.setCell ⟨db,7,none⟩ (.pointer (some ⟨lb,0,none⟩))).heap[vb]?=some (.cells (bz (.slice ta s.V.tabs.length tc) s.V.seq s.V.next s.V.aj) 85 (0,0)):=(aK _ _ _ _ (fun e=>by
     have e':vb=db:=e;rw [e',LY] at zS;exact absurd (cA (bB zS)).2.1 (by decide))).trans zS
    have vQ:∀ j,wa.frozen? ⟨db,j,none⟩=false:=fun j=>by simp [World.frozen?,LY]
    obtain ⟨c0,_,c7,_,_,_,_,bA⟩:=QW.cell.cells;obtain ⟨Gy,LX,LZ,kK,yw,mE⟩:=xi.out;obtain ⟨Fj,hLp⟩:=akN s.LL;have QX:=Um kK;rw [Yi] at QX;obtain ⟨fo,eN⟩:∃ fo,fo=oB bU a f3 (fB (ib s.LL)):=⟨_,rfl⟩
    have nG:(fB (ib (iu s.LL))).length=(iu s.LL).length:=yh _;rw [Yi,nG] at rp;rw [←eN] at rp QX;obtain ⟨t0,oh⟩:∃ t0,t0=akI db sb p r lb mb tm hm ha o (.slice ca ds.length cc) ds tv dv s.V wk (a+((iu s.LL).length-1)) (fun b=>w9.heap.size≤b∧b<wr.heap.size) Fa g gm ld:=⟨_,rfl⟩
    rw [←oh] at rp;have hb:=Hb.out;have LD:=kf.out.1.K;have Gt:di (wa.setCell ⟨db,7,none⟩ (.pointer (some ⟨lb,0,none⟩))) lb p bU ((a+((iu s.LL).length-1):Nat):Int):=by have:=rp.log;rw [oh] at this;exact this
    have FV:Dl Z B (wa.setCell ⟨db,7,none⟩ (.pointer (some ⟨lb,0,none⟩))) p r fo T3 (K3+1) Fa:=by have:=rp.aW;rw [oh] at this;exact this
    have DB:=fun (W:World) (hg:Grow (wa.setCell ⟨db,7,none⟩ (.pointer (some ⟨lb,0,none⟩))) W)=>adL (b:=0) (m:=a+((iu s.LL).length-1)) rfl QX (FV.grow hg) (Gt.grow hg) (rp.gV.grow hg FV.base) (by omega) (by rw [nG];omega) (by rw [nG];omega) (by rw [nG];omega) (by rw [nG];omega) (by rw [nG];omega)
    rw [Nat.add_zero] at DB;obtain ⟨vals,hrow,xY,vM⟩:=xn;have df:∀ b,((rv.ownBlock=some b)∨∃ u∈vals,u.ownBlock=some b)→b<wa.heap.size∧b≠db∧¬ FT t0 b:=fun b hb=>by
     rcases hb with hb|⟨u,hu,hb⟩
     ·obtain ⟨cur,hc⟩:=hrow.block hb
      have jo:b≠db:=fun e=>by rw [e,LY] at hc;exact absurd (cA (bB hc)).2.1 (by decide)
      exact ⟨(hrow.lt hb).2,jo,rp.off (ty:=49) ((aK _ _ _ _ jo).trans hc) (by decide)⟩
     ·obtain ⟨k,hk⟩:=List.mem_iff_getElem?.1 hu
      have eP:=(dQ.1 hk).1;obtain ⟨q,hq⟩:∃ q,(lD (fB (ib s.LL)))[k]?=some q:=⟨_,List.getElem?_eq_getElem (by rw [←xY];exact eP)⟩
      obtain ⟨iW,qY⟩:=vM k u q hk hq;obtain ⟨cur,hc⟩:=iW.block hb;have hlt:=iW.lt hb;have jo:b≠db:=fun e=>by rw [e,LY] at hc;exact absurd (cA (bB hc)).2.1 (by decide)
      have inj:∀ {a2:Array Value} {t2:TypeId} {f2:Nat×Nat},wa.heap[b]?=some (.cells a2 t2 f2)→(5:TypeId)=t2:=fun h2=>(cA (bB (hc.symm.trans h2))).2.1
      refine ⟨hlt.2,jo,?_⟩;rw [oh];rintro (q1|q1|q1|q1|q1|q1|q1)
      ·exact qY b hb q1
      ·have h6:=DK.mem.lt q1;omega
      ·exact jo q1
      ·have kn:b=sb:=q1;omega
      ·have kn:b=lb:=q1
       have:=inj (by rw [kn];exact JQ.self);revert this;decide
      ·have kn:b=tm:=q1;omega
      ·have kn:b=hm:=q1;omega
    have px:=Hd0.out;have hra:Rl B r w (wa.setCell ⟨db,7,none⟩ (.pointer (some ⟨lb,0,none⟩))):=by
     have h2:Rl B r w wr:=HR9.out.akK (Sep.Lf hgx) (fun b hb=>by omega) px;have h3:=h2.trans (Rl.sep LW.out.aW nD);exact h3.akK (G:=fun b=>b=db) (G':=fun b=>b=db) ⟨rfl,rfl,rfl,by simp,fun b _ hn=>aK _ _ _ _ hn,fun b hb=> .inl hb⟩ (fun b hb=>by omega) px
    have Yw:∀ b,((rv.ownBlock=some b)∨∃ u∈vals,u.ownBlock=some b)→(wa.setCell ⟨db,7,none⟩ (.pointer (some ⟨lb,0,none⟩))).heap[b]?=wa.heap[b]?:=fun b hb=>aK _ _ _ _ (df b hb).2.1
    have alI:Go.Gl.Row1 49 0 (wa.setCell ⟨db,7,none⟩ (.pointer (some ⟨lb,0,none⟩))) rv vals:=(hrow.mono (bk _)).keep (fun b hb=>Yw b (.inl hb));rw [Gy] at xY vM;have Lv:(ib s.LL).flatten=s.LL.flatten.map jx:=by rw [List.map_flatten]
    rw [Lv] at xY vM;have alJ:∀ (k:Nat) (u:Value) (b:Nat×List Wr),vals[k]?=some u→s.LL.flatten[k]?=some b→aG 0 (wa.setCell ⟨db,7,none⟩ (.pointer (some ⟨lb,0,none⟩))) u (jx b):=fun k u b hk hb=>by
     have h1:=(vM k u (jx b) hk (by rw [List.getElem?_map,hb];rfl)).1;exact (h1.mono (bk _)).keep (fun c hc=>Yw c (.inr ⟨u,dY hk,hc⟩))
    have alK:∀ b,((rv.ownBlock=some b)∨∃ u∈vals,u.ownBlock=some b)→b<(wa.setCell ⟨db,7,none⟩ (.pointer (some ⟨lb,0,none⟩))).heap.size∧¬ FT t0 b:=fun b hb=>⟨by simpa using (df b hb).1,(df b hb).2.2⟩
    have hf0:t0.db=db∧t0.p=p∧t0.r=r∧t0.lb=lb∧t0.mb=mb∧t0.ha=ha∧t0.tm=tm∧t0.hm=hm∧t0.o=o∧t0.ds=ds∧t0.V=s.V∧t0.seq=wk∧t0.m=a+((iu s.LL).length-1)∧t0.ld=ld∧t0.hh=(fun _=>none)∧t0.hn=0∧t0.ns= []∧t0.F=Fa:=by rw [oh];exact ⟨rfl,rfl,rfl,rfl,rfl,rfl,rfl,rfl,rfl,rfl,rfl,rfl,rfl,rfl,rfl,rfl,rfl,rfl⟩
    have wJ:∀ b,t0.N b→w.heap.size≤b:=fun b hb=>by
     rw [oh] at hb;rcases hb with hb|hb|hb
     ·have:=hb.1;omega
     ·have:=HCw.out b hb;omega
     ·have:=HDw.out b hb;omega
    rw [LZ] at Yv;have Htr:=ae DB;have QY:=ae (ah alI (ah alJ alK));have AU:=ae rp;have QZ:=ae Yv;have Yx:=ae hf0;have HN0:=ae wJ;have Hra:=ae hra;have kr:=ae eN;have hCb:dT (wa.setCell ⟨db,7,none⟩ (.pointer (some ⟨lb,0,none⟩))) db sb o (.slice ca ds.length cc) (.pointer (some ⟨lb,0,none⟩)) mb tm wk hm:=by have:=rp.cell;rw [oh] at this;exact this
    have HCb:=ae hCb;have aBY:=ae (ah hall (ah FV.total (ah (show w.heap.size≤db∧w.heap.size≤mb∧w.heap.size≤ha∧w.heap.size≤lb∧w.heap.size≤tm∧w.heap.size≤hm from ⟨by omega,by omega,by omega,by omega,by omega,by omega⟩) (ah sP LZ))));obtain ⟨bs,uj⟩:∃ bs,bs=s.LL.flatten:=⟨_,rfl⟩
    have Yy:vals.length=bs.length:=by rw [xY,List.length_map,uj]
    obtain ⟨ra,rc,rfl⟩:=hrow.slice;rw [Yy];have Ma:=ae uj;rw [←uj] at QY;have Yz:=ae Yy;clear hrow xY vM df Yw alI alJ alK hf0 wJ Yv rp hra eN hCb DB Gt FV QX nG Fj hLp Gy LX kK yw mE Lv px hb LD oh n1 n2 n3 n4 n5 n6 n7 n8 sQ sP DK Yu rq jz hall hgx DJ QW hta aBS aBT aBU aBV alE LQ LR alF alG zS LY aBR EU nD JQ v0 v1 v2 v3 Lm Yy LZ uj
    go_upto_region 22 with fail
    generalize wa.setCell ⟨db,7,none⟩ (.pointer (some ⟨lb,0,none⟩))=wb at*;have hgd:=Grow.drew wb;have S22:∀ W,Grow wb W→W.cell? ⟨db,7,none⟩=some (.pointer (some ⟨lb,0,none⟩))∧db<W.heap.size∧W.cell? ⟨vb,3,none⟩=some (.int .i64 (a:Int))∧vb<W.heap.size:=fun W hg=>by
     obtain ⟨_,_,c7,_,_,_,_,bA⟩:=(HCb.out.grow hg).cells;have hv:=hg.heap QZ.out;obtain ⟨_,_,_,v3⟩:=bZ hv;exact ⟨c7,bA,v3,af hv⟩
    refine bX (fun W=>W.cell? ⟨db,7,none⟩=some (.pointer (some ⟨lb,0,none⟩))∧db<W.heap.size∧W.cell? ⟨vb,3,none⟩=some (.int .i64 (a:Int))∧vb<W.heap.size) [(0,false),(1,false),(2,false),(3,false),(4,false),(5,false),(6,true)] (by kernel_rfl) (by kernel_rfl) (fun c a d v w h=>by cases d<;>exact h) (S22 _ hgd) ?_;simp only [aP,nth];clear S22 c0 c7 bA vQ
    repeat (first|(refine aB (v:= ?_) (by rfl) ?_ ?_;rotate_left;(rintro W ⟨hW0,hW1,hW2,hW3⟩;go_simp;with_reducible rfl);simp only [ag,List.set])|(refine aC (by rfl) ?_;simp only [ag,List.set]))
    refine bj (by rfl) (by go_simp) (Htr.out _ hgd) ?_;rintro e wc ⟨rfl,Fc,zx,hlc,hsc⟩;obtain ⟨f1,f2,f3',f4,f5,f6,f7,f8,f9,f10,f11,f12,f13,f14,f15,f16,f17,f18⟩:=Yx.out;have alQ:Dl Z B wc t0.p t0.r fo (T3-vt ((fB (ib (iu s.LL))).take 0)) (K3+1) Fc:=by rw [f2,f3'];exact zx
    have Rb:Sep t0.F wb.drew wc Fc:=by rw [f18];exact hsc
    obtain ⟨lG,alR⟩:=(AU.out.grow hgd).Ds alQ Rb;have Gz:eC wb t0 wc {t0 with F:=Fc}:=(eC.bF t0 hgd).trans alR;have hCc:dT wc db sb o (.slice ca ds.length cc) (.pointer (some ⟨lb,0,none⟩)) mb tm wk hm:=by
     have h1:wb.heap[db]?=some (.cells (oO sb o (.slice ca ds.length cc) (.pointer (some ⟨lb,0,none⟩)) mb tm wk hm) 93 (0,0)):=HCb.out;exact (Rb.out db (af (hgd.heap h1)) ((AU.out.grow hgd).aW.apart (hgd.heap h1) (by decide) (by decide) (by decide))).trans (hgd.heap h1)
    have YA:=(Rb.out vb (af (hgd.heap QZ.out)) ((AU.out.grow hgd).aW.apart (hgd.heap QZ.out) (by decide) (by decide) (by decide))).trans (hgd.heap QZ.out);obtain ⟨_,_,c7,_,_,_,_,bA⟩:=hCc.cells;obtain ⟨_,_,_,v3⟩:=bZ YA;refine ⟨_,rfl,⟨c7,bA,v3,af YA⟩,?_⟩;have JM:∀ b,(((Value.slice ra vals.length rc).ownBlock=some b)∨∃ u∈vals,u.ownBlock=some b)→wc.heap[b]?=wb.heap[b]?∧b<wc.heap.size∧¬ FT {t0 with F:=Fc} b:=fun b hb=>by
     obtain ⟨h1,h2⟩:=QY.out.2.2 b hb;refine ⟨Gz.sep.out b h1 h2,cj h1 Gz.sep.size,fun hf=> ?_⟩;rcases Gz.sep.foot b hf with h3|h3
     ·exact h2 h3
     ·omega
    have hT4:T3-vt ((fB (ib (iu s.LL))).take 0)≤T3:=Nat.sub_le _ _;generalize T3-vt ((fB (ib (iu s.LL))).take 0)=T4 at*;obtain ⟨tc,YB⟩:∃ tc,tc={t0 with F:=Fc}:=⟨_,rfl⟩
    rw [←YB] at lG Gz JM;have YC:tc.ns= []∧tc.seq=wk∧tc.V=s.V∧tc.ld=ld∧tc.hh=(fun _=>none)∧tc.hn=0∧tc.m=a+((iu s.LL).length-1):=by rw [YB];exact ⟨f17,f12,f11,f14,f15,f16,f13⟩
    have ze:Yj Z B Nn wc tc fo T4 (K3+1) bs (.int .i64 0) wc:=⟨0,tc,rfl,bk _,lG,eC.refl _ _,by rw [YC.1];rfl,rfl,rfl,rfl,rfl,rfl,rfl⟩
    have Mb:=ae ze;have Htc:=ae lG;have alU:=ae Gz;have Hkc:=ae JM;have aCa:=ae YC;have HT4:=ae hT4;clear ze lG Gz JM YC hT4 zx hlc hsc alQ Rb alR hCc YA c7 bA v3 hgd YB f1 f2 f3' f4 f5 f6 f7 f8 f9 f10 f11 f12 f13 f14 f15 f16 f17 f18
    try first|simp only [ag,List.set]|simp only [aD]
    refine bm ?_
    go_wp2_with fail
    go_loopw [98] (fun iv wr=>Yj Z B Nn wc tc fo T4 (K3+1) bs iv wr) (fun iv _=>bs.length-(intOf iv).toNat)
    case atStart=>exact Mb.out
    case round=>
     clear Mb;obtain ⟨k,t,rfl,hk,cC,hst,oV,dh,hV,Rc,GA,GC,Re⟩:=hrel;have Rf:t.db=db:=(hst.db.trans alU.out.db).trans Yx.out.1;by_cases hlt:k<bs.length
     ·obtain ⟨b,hb⟩:∃ b,bs[k]?=some b:=⟨bs[k],by simp [hlt]⟩
      obtain ⟨u,hu⟩:∃ u,vals[k]?=some u:=⟨vals[k]'(by rw [Yz.out];exact hlt),by simp [Yz.out,hlt]⟩
      have JN:∀ c,(((Value.slice ra vals.length rc).ownBlock=some c)∨∃ u∈vals,u.ownBlock=some c)→wr.heap[c]?=wb.heap[c]?:=fun c hc=>by
       obtain ⟨h1,h2,h3⟩:=Hkc.out c hc;exact (hst.sep.out c h2 h3).trans h1
      have hrow':=QY.out.1.keep (fun c hc=>JN c (.inl hc));have YD:=(QY.out.2.1 k u b hu hb).keep (fun c hc=>JN c (.inr ⟨u,dY hu,hc⟩));obtain ⟨gs,cap,jN,ej⟩:∃ gs cap,Value.slice ra vals.length rc= .slice (some ⟨gs,0,none⟩) vals.length cap∧gs<wr.heap.size:=by
       rcases id hrow' with ⟨_,h0⟩|⟨gs,cap,cur,h1,_,h2,_⟩
       ·rw [h0] at hu;cases hu
       ·exact ⟨gs,cap,h1,af h2⟩
      cases jN;have WW:wr.cell? ⟨gs,k,none⟩=some u:=by have:=Go.Gl.Row1.cells hrow' rfl hu;simpa using this
      obtain ⟨ua,uc,hue⟩:=YD.slice;have hpl:(cR (jx b)).length=(jx b).length:=iL _;rw [hpl] at hue;subst hue;have dR:=kf.out.1.lim.Dw b (by rw [←Ma.out];exact dY hb);have LN:=axY (cy YD) dR.seq (by have:=dR.len;omega) (by have:=dR.bytes;omega);have dJ:(k:Int)<(bs.length:Int):=by omega
      have bK:(0:Int)≤(k:Int):=by omega
      have cZ:=Hb.out;have alW:=kf.out.1.lim.Gk;rw [←Ma.out] at alW;have eE:IntKind.i64.wrap ((k:Int)+1)=(k:Int)+1:=aR _ (by omega);obtain ⟨yI,hl2⟩:=ajE (bs.take k) [];rw [←oV] at yI hl2;have bS:((bs.take k).map fun b=>b.2.length).sum≤A:=by rw [List.map_take];exact aN (XA _ _) (by rw [Ma.out];exact kf.out.1.lim.Ls)
      have hw2:((bs.take k).map fun b=>bD b.2).sum≤C:=by rw [List.map_take];exact aN (XA _ _) (by rw [Ma.out];exact kf.out.1.lim.Lt)
      have alX:t.ns.length≤100000000:=by rw [List.length_map] at hl2;simp only [List.length_nil] at hl2;omega
      have alY:costs (t.ns.map (fun n=>n.x.e))≤100000000000:=by
       have h0:costs ([]:List En)=0:=rfl;rw [h0] at yI;generalize costs (t.ns.map (fun n=>n.x.e))=cc at*;omega
      have aCc:=Yz.out;have aCd:=ae LN;have xM:=ae dR;have Hw:=ae (ah alX alY);have lz:=ae cC;have bI:=ae hst;have YE:=ae (ah oV (ah dh (ah hV (ah Rc (ah GA (ah GC Re))))));have JX:=ae hb;have nS:=ae hlt;have Rg:=ae Rf;clear JN hrow' YD hpl dR LN cZ alW yI hl2 bS hw2 alX alY cC hst oV dh hV Rc GA GC Re hb hu hlt Rf aCc
      go_wp2_with fail
      (with_reducible refine aCd.out.mono ?_);rintro e w2 ⟨yv,ys,rfl,bJ,xZ,hg2⟩;have wQ:=lz.out.grow hg2;obtain ⟨aht,iy⟩:=wQ.mem;have alZ:=(xZ.ws (M:=fun c=>wr.heap.size≤c) (fun c hc=>hc.elim (fun x=>x.elim) id)).lt;have dX:ys.length=b.2.length:=by rw [←bJ,List.length_map]
      have hbl:=xM.out.len;have vS:=aho wQ.cell iy (fun hf=>(lz.out.ne.fm _ hf).2.1 rfl) (fun c hc=>⟨(wQ.apart c hc).1,fun hf=>(wQ.apart c hc).2 (.inr (.inl hf)),fun e=>(wQ.apart c hc).2 (.inr (.inr (.inl e)))⟩) (fun c hc=>⟨hc.2,fun hf=>by have:=lz.out.lt (.inr (.inl hf));have:=hc.1;omega,fun e=>by have:=lz.out.lt (.inr (.inr (.inl e)));have:=hc.1;omega⟩) alZ (s:=b.1) xM.out.seq (by omega) (by rw [bJ];have:=xM.out.bytes;omega) Hw.out.1 Hw.out.2;rw [bJ] at vS;obtain ⟨ya,yc,rfl⟩:=oN.slice xZ;have Am:=ae vS;have eD:=ae hg2;have hdq:=Rg.out;rw [hdq] at Am;clear vS wQ iy alZ dX hbl xZ bJ hg2 hdq WW ej
      go_wp2_with fail
      (with_reducible refine Am.out.mono ?_);rintro e w3 ⟨rfl,N',bE,AR⟩;rw [←Rg.out] at AR;have oV:=AR.pV;obtain ⟨uB,hs3⟩:=(lz.out.grow eD.out).laid AR;obtain ⟨i1,i2,i3,i4,i5,i6,i7⟩:=YE.out;have hrel:Yj Z B Nn wc tc fo T4 (K3+1) bs (.int .i64 ((k:Int)+1)) w3:=by
       refine ⟨k+1,_,by simp,nS.out,uB,(bI.out.grow eD.out).trans hs3,?_,?_,i3,i4,i5,i6,i7⟩
       ·rw [take_one JX.out,List.foldl_append,←i1]
        exact oV
       ·rw [take_one JX.out,List.map_append,List.foldl_append,←i2]
        rfl
      have bq:=ae hrel;clear hrel uB hs3 oV AR Am i1 i2 i3 i4 i5 i6 i7;go_wp2;go_roundw
      case rel=>exact bq.out
      case measure=>simp [intOf];have:=nS.out;omega
     ·obtain rfl:k=bs.length:=by omega
      rw [List.take_length] at oV dh;have lz:=ae cC;have bI:=ae hst;have YE:=ae (ah oV (ah dh (ah hV (ah Rc (ah GA (ah GC Re))))));have Rg:=ae Rf;clear cC hst oV dh hV Rc GA GC Re Rf;go_wp2;go_ret2;obtain ⟨i1,i2,i3,i4,i5,i6,i7⟩:=YE.out;rw [Ma.out] at i1 i2;obtain ⟨q1,q2,q3,q4,q5,q6,q7⟩:=aCa.out;obtain ⟨f1,f2,f3',f4,f5,f6,f7,f8,f9,f10,f11,f12,f13,f14,f15,f16,f17,f18⟩:=Yx.out;obtain ⟨hall,aHT,⟨l1,l2,l3,l4,l5,l6⟩,sP,LZ⟩:=aBY.out;have hs:=alU.out.trans bI.out;have rB:t.o=o:=hs.o.trans f9;have Mc:Told t.o.block.toNat A C i f3 K3 s:=by rw [rB];exact kf.out.1
      have cC:=lz.out;rw [kr.out] at cC;have rH:=Mc.opened LZ cC (i3.trans q3) i1 (by rw [i7,q7]) (fun x hx=>by rw [i4,q4];exact hall x hx) (by rw [rB];exact aBL.out) (by rw [i2,q2,sP];simp) (by omega);have qj:Rl B t0.r w wr:=Rl.stp (by rw [f3'];exact Hra.out) AU.out hs f17 (by rw [f1];exact l1) (by rw [f5];exact l2) (by rw [f6];exact l3) (by rw [f4];exact l4) (by rw [f7];exact l5) (by rw [f8];exact l6) Hd0.out;refine ⟨t,_,T4,_,{s with LL:=iu s.LL},by rw [Rg.out];rfl,rH,hs.p.trans f2,hs.r.trans f3',rB,hs.ds.trans f10,rfl,fun x=> ?_,?_,by rw [i5,q5],by rw [i6,q6],by rw [hs.tm,f7];exact l5,by rw [hs.hm,f8];exact l6,fun b hb=> ?_,by rw [f3'] at qj;exact qj,aN HT4.out kf.out.2.1⟩
      ·have lH:aS (iu s.LL)=aS s.LL:=by unfold aS;rw [akL]
       unfold dE;dsimp only;rw [lH]
      ·rw [i2,q2]
       unfold mL;rw [sP];simp
      ·rcases hs.new b hb with h1|h1
       ·exact HN0.out b h1
       ·have:=Hra.out.hold.size;omega
 have hx:∀ W,Grow w5 W→(W.cell? ⟨xb,0,none⟩=some (.int .i64 o.mem)∧W.cell? ⟨xb,1,none⟩=some (.int .i64 o.block)∧W.cell? ⟨xb,2,none⟩=some (.int .i64 o.zero)∧W.cell? ⟨xb,3,none⟩=some (.int .i64 o.base)∧W.cell? ⟨xb,4,none⟩=some (.int .i64 o.table)∧W.cell? ⟨xb,5,none⟩=some (.slice ca ds.length cc))∧xb<W.heap.size:=fun W hg=>QO.out W _ (hg.heap HX.out)
 refine ⟨?_,?_,?_,?_,?_,?_,?_,?_,?_,?_,True.intro⟩
 ·intro listed a V hf ar ak
  have hs1:a.tmps.size=113:=hf.alike.size.trans hsz;have hT:=hf.world;have G7:a.tmps[7]'(by rw [hs1];decide)= .pointer (some ⟨sb,0,none⟩):=ax ((hf.alike.same 7 (by decide)).trans F7) _;refine aX rfl (by rfl) (fun K' hK'=> ?_);go_simp;exact hK' _ _ ⟨_,rfl,(fun _ _=>rfl),Grow.refl _,hT.next (by decide) (by decide) (Grow.refl _)⟩
 ·intro listed a V hf ar ak
  have hs1:a.tmps.size=113:=hf.alike.size.trans hsz;have hT:=hf.world;have G3:a.tmps[3]'(by rw [hs1];decide)= .pointer (some ⟨xb,0,none⟩):=ax ((hf.alike.same 3 (by decide)).trans F3) _;obtain ⟨⟨x0,x1,x2,x3,x4,x5⟩,lx⟩:=hx V hT.1;refine aX rfl (by rfl) (fun K' hK'=> ?_);go_simp;exact hK' _ _ ⟨_,rfl,(fun _ _=>rfl),Grow.refl _,hT.next (by decide) (by decide) (Grow.refl _)⟩
 ·intro listed a V hf ar ak
  have hs1:a.tmps.size=113:=hf.alike.size.trans hsz;have hT:=hf.world;have G3:a.tmps[3]'(by rw [hs1];decide)= .pointer (some ⟨xb,0,none⟩):=ax ((hf.alike.same 3 (by decide)).trans F3) _;obtain ⟨_,lx⟩:=hx V hT.1;refine aX rfl (by rfl) (fun K' hK'=> ?_);go_simp;exact hK' _ _ ⟨_,rfl,(fun _ _=>rfl),Grow.refl _,hT.next (by decide) (by decide) (Grow.refl _)⟩
 ·intro listed a V hf ar ak
  have hs1:a.tmps.size=113:=hf.alike.size.trans hsz;have hT:=hf.world;obtain ⟨v2,s2,q2⟩:=hf.slot 2 41 rfl (aJ ak 2 (by kernel_rfl));have od:v2=_:=q2;subst od;have G41:=ax s2 (by rw [hs1];decide);obtain ⟨⟨x0,x1,x2,x3,x4,x5⟩,lx⟩:=hx V hT.1;refine aX rfl (by rfl) (fun K' hK'=> ?_);go_simp;exact hK' _ _ ⟨_,rfl,(fun _ _=>rfl),Grow.refl _,hT.next (by decide) (by decide) (Grow.refl _)⟩
 ·intro listed a V hf ar ak
  have hs1:a.tmps.size=113:=hf.alike.size.trans hsz;have hT:=hf.world;obtain ⟨v3,s3,q3⟩:=hf.slot 3 42 rfl (aJ ak 3 (by kernel_rfl));have qF:v3=_:=q3;subst qF;have G42:=ax s3 (by rw [hs1];decide);refine jc rfl (by rfl) (by go_simp) (afI (HIw.out.kp (.bF hT.1))) ?_;rintro e V2 ⟨mb,ha,dv,rfl,hM,hg,ue,Gd,xZ⟩;have yx:=hT.1.size;exact ⟨_,rfl,_,rfl,(fun _ _=>⟨mb,ha,dv,rfl,⟨_,hM⟩,xZ.mono yx,aN yx ue,aN yx Gd⟩),hg,hT.next (by decide) (by decide) hg⟩
 ·intro listed a V hf ar ak
  have hs1:a.tmps.size=113:=hf.alike.size.trans hsz;have hT:=hf.world;have yx:=hT.1.size;refine aX rfl (by rfl) (fun K' hK'=> ?_);go_simp;refine hK' _ _ ⟨_,rfl,(fun _ _=>⟨V.heap.size,rfl,ahw V encI,yx⟩),Grow.alloc _ _,hT.1.trans (Grow.alloc _ _),fun h5 h6=> ?_⟩;rw [getD_set_ne false (by decide)] at h6;obtain ⟨v6,s6,hm,q6,m6,l6⟩:=hf.slot 6 45 rfl h6;exact ⟨V.heap.size,hm,uF (by rw [hs1];decide),ix (by decide) (by rw [s6,q6]),by have:=m6.lt;omega⟩
 ·intro listed a V hf ar ak
  have hs1:a.tmps.size=113:=hf.alike.size.trans hsz;have hT:=hf.world;have yx:=hT.1.size;refine aX rfl (by rfl) (fun K' hK'=> ?_);go_simp;refine hK' _ _ ⟨_,rfl,(fun _ _=>⟨V.heap.size,rfl,ahw V KT,yx⟩),Grow.alloc _ _,hT.1.trans (Grow.alloc _ _),fun h5 h6=> ?_⟩;rw [getD_set_ne false (by decide)] at h5;obtain ⟨v6,s6,hm,q6,m6,l6⟩:=hf.slot 5 44 rfl h5;exact ⟨hm,V.heap.size,ix (by decide) (by rw [s6,q6]),uF (by rw [hs1];decide),by have:=m6.lt;omega⟩
 ·intro listed a V hf ar ak
  have hs1:a.tmps.size=113:=hf.alike.size.trans hsz;have hT:=hf.world;obtain ⟨v0,s0,q0⟩:=hf.slot 0 39 rfl (aJ ak 0 (by kernel_rfl));have kZ:v0=_:=q0;subst kZ;obtain ⟨v1,s1,q1⟩:=hf.slot 1 40 rfl (aJ ak 1 (by kernel_rfl));have kn:v1=_:=q1;subst kn;obtain ⟨v4,s4,mb,ha,dv,q4,m4,mr,QL,QM⟩:=hf.slot 4 43 rfl (aJ ak 4 (by kernel_rfl));subst q4;obtain ⟨v5,s5,tm,q5,m5,Gw⟩:=hf.slot 5 44 rfl (aJ ak 5 (by kernel_rfl));subst q5;obtain ⟨v6,s6,hm,q6,m6,Gx⟩:=hf.slot 6 45 rfl (aJ ak 6 (by kernel_rfl));subst q6;obtain ⟨tm',Qu,e1,e2,hne⟩:=hT.2 (aJ ak 5 (by kernel_rfl)) (aJ ak 6 (by kernel_rfl));rw [s5] at e1;cases e1;rw [s6] at e2;cases e2;have G39:=ax s0 (by rw [hs1];decide);have G40:=ax s1 (by rw [hs1];decide);have G43:=ax s4 (by rw [hs1];decide);have G44:=ax s5 (by rw [hs1];decide);have G45:=ax s6 (by rw [hs1];decide);have hop:DD w5 V ds mb ha tm hm dv:=⟨m4,mr,QL,QM,m5,Gw,m6,Gx,hne⟩
  clear m4 m5 m6 mr;refine aX rfl (by rfl) (fun K' hK'=> ?_);go_simp;exact hK' _ _ ⟨_,rfl,(fun _ _=>⟨mb,ha,tm,hm,dv,rfl,hop⟩),Grow.refl _,hT.next (by decide) (by decide) (Grow.refl _)⟩
 ·intro listed a V hf ar ak
  have hs1:a.tmps.size=113:=hf.alike.size.trans hsz;have hT:=hf.world;obtain ⟨v7,s7,mb,ha,tm,hm,dv,q7,hop⟩:=hf.slot 7 46 rfl (aJ ak 7 (by kernel_rfl));subst q7;have G46:=ax s7 (by rw [hs1];decide);have yx:=hT.1.size;have ai:=Grow.alloc V (.cells (oO sb o (.slice ca ds.length cc) (.pointer none) mb tm 0 hm) 93);have dw:=aw V (.cells (oO sb o (.slice ca ds.length cc) (.pointer none) mb tm 0 hm) 93);refine aX rfl (by rfl) (fun K' hK'=> ?_);go_simp;exact hK' _ _ ⟨_,rfl,(fun _ _=>⟨V.heap.size,mb,ha,tm,hm,dv,rfl,yx,dw,hop.grow ai⟩),ai,hT.next (by decide) (by decide) ai⟩
 ·intro listed a V hf ar ak
  have hs1:a.tmps.size=113:=hf.alike.size.trans hsz;have hT:=hf.world;obtain ⟨v8,s8,db,mb,ha,tm,hm,dv,q8,h1,h2,h3⟩:=hf.slot 8 47 rfl (aJ ak 8 (by kernel_rfl));subst q8;have G47:=ax s8 (by rw [hs1];decide);refine aX rfl (by rfl) (fun K' hK'=> ?_);go_simp;exact hK' _ _ ⟨_,rfl,(fun _ _=>⟨db,mb,ha,tm,hm,dv,rfl,h1,h2,h3⟩),Grow.refl _,hT.next (by decide) (by decide) (Grow.refl _)⟩
end Go.Proofs.YtoolkdapflaeeaaGreatDoor
namespace Go.Proofs.YtoolkdapflaeeaaGreatDoor
open Go.RowKit Go.Gl Go.aH Mn
theorem aCe (a b:Option En):yb a b=sk a b:=by
 cases b with
 |none=>cases a<;>rfl
 |some x=>cases a<;>rfl
theorem aCf (key:ByteArray) (up:Nat) (ls:List (List En)):Dq key up ls=eK key up ls.flatten:=by
 induction ls using Oz with
 |h0=>rfl
 |h1 ls l ih=>rw [aiD,ih,aCe,List.flatten_append,auU];simp
variable {Z B Nn A C i:Nat} {w:World} {t:Tr} {f:Lk} {T K:Nat} {s:dP}
theorem amb (h:dI Z B Nn A C i w t f T K s) (hA:A≤100000) (key:ByteArray) {up:Nat} (xN:up<18446744073709551616):Calls Tryz.prog 16 #[.pointer (some ⟨t.db,0,none⟩),.string key,.int .u64 (up:Int)] w (AA w (eK key up (dE s))):=by
 obtain ⟨aM,hm⟩:=h.tree.mem;have hV:=h.V;have aHV:=fun x (hx:x∈s.V.tabs)=>h.told.table hx
 have hlen:s.V.tabs.length≤100000:=by
  have h1:s.V.tabs.length≤(s.V.tabs.map fun x=>(s.az x.file).length).sum:=by
   have hp:∀ l:List Tb,(∀ x∈l,s.az x.file≠ [])→l.length≤(l.map fun x=>(s.az x.file).length).sum:=by
    intro l
    induction l with
    |nil=>intro _;exact ay _
    |cons x l ih=>
     intro hl;have h2:=List.length_pos_iff.2 (hl x (eQ ..));have h3:=ih (fun y hy=>hl y (gz _ hy));simp only [List.length_cons,List.map_cons,List.sum_cons];omega
   exact hp _ (fun x hx=>(h.gy.az x hx).1)
  have:=h.lim.pV;omega
 have hown:=h.tree.own;have cE:=h.tree.set;rw [hV] at hown cE;have hat:=azV h.tree.cell cE hown hlen h.tree.tabs (tbs:=s.V.tabs.map fun x=>((t.ld x.file).map Prod.fst).getD 0) (by rw [List.length_map]) (fun i x b hx hb=>by
   rw [List.getElem?_map,hx] at hb;obtain ⟨b',hb'⟩:=h.ld x (dY hx);rw [Option.map_some,hb'] at hb;cases hb;exact (h.tree.load _ _ _ hb').1) hm (fun b hb=>(h.tree.apart b hb).1) (fun n hn=>by
   have h1:n.x.e∈aS s.LL:=by rw [←h.mem];exact List.mem_map.2 ⟨n,hn,rfl⟩
   have:=(h.Gm.ok _ h1).val;omega) (lss:=s.V.tabs.map fun x=>s.az x.file) (by rw [List.length_map,List.length_map]) (fun i b l hb hl=>by
   rw [List.getElem?_map] at hb hl;cases hx:s.V.tabs[i]? with
   |none=>rw [hx] at hb;cases hb
   |some x=>
    rw [hx] at hb hl;obtain ⟨b',hb'⟩:=h.ld x (dY hx);rw [Option.map_some,hb'] at hb;cases hb;cases hl;exact (h.tree.load _ _ _ hb').2) key xN
 rw [aCf,List.flatten_cons,h.mem] at hat;exact hat
theorem YF (h:dI Z B Nn A C i w t f T K s) (hA:A≤100000) (key:ByteArray):Calls Tryz.prog 15 #[.pointer (some ⟨t.db,0,none⟩),.string key] w (AA w (eK key 18446744073709551615 (dE s))):=
 azX (amb h hA key (by decide))
theorem aCg (h:dI Z B Nn A C i w t f T K s):Calls Tryz.prog 27 #[.pointer (some ⟨t.db,0,none⟩)] w fun e w'=>e= .returned (.int .u64 (t.seq:Int))∧w'=w:=ayl h.tree.cell
theorem aCh {size:Nat} {l:List En} (hne:l≠ []) (hlen:l.length≤1000000) (mQ:(aZ l).length+30*l.length≤50000000):(fX size l).length≤3*(aZ l).length+100*l.length+1000:=by
 have h1:=Fx (dM size [] l);have h2:=Kr size l [];have h3:=JH size l [] hne;have h5:=WU (dM size [] l) 0 (JI size l []);rw [List.nil_append] at h3;rw [h3] at h1 h5;have h4:=JW l;have h6:=Fl l l.length;have h7:fP l≤8+(10*l.length+7) / 8:=by unfold fP;omega
 have h8:=kT aq (iR 0 (dM size [] l));have h9:=kT aq (dn l);have h10:=cf (iR 0 (dM size [] l)).length;have h11:=cf (dn l).length;unfold fX fN dz;simp only [List.length_append,Oa,kQ];omega
theorem aCi {seq D m:Nat} {k0 k1:ByteArray} (hV:s.V=cd) (hk:(Op.bytesLess k0.toList k1.toList||k0.toList==k1.toList)=true) (hD:D≤300000000) (hm:m≤1000000):(aV s.V (bO s seq D k0 k1 m)).1=0:=by
 rw [hV];have e1:(bO s seq D k0 k1 m)=⟨[⟨0,0,k0,k1,(D:Int)⟩],[],(seq:Int),1,(m:Int)⟩:=by unfold bO;rw [hV];rfl
 rw [e1];have a1:ik [] ⟨0,0,k0,k1,(D:Int)⟩=false:=by
  unfold ik;rw [hk];have d1:decide ((D:Int)<0)=false:=by simp
  have d2:decide (1099511627776<(D:Int))=false:=by simp;omega
  rw [d1,d2];rfl
 unfold aV;have hs:jq [(⟨0,0,k0,k1,(D:Int)⟩:Tb)]= [⟨0,0,k0,k1,(D:Int)⟩]:=by
  have hp:=zb [(⟨0,0,k0,k1,(D:Int)⟩:Tb)];exact List.perm_singleton.1 hp
 have hn:qA cd ⟨[⟨0,0,k0,k1,(D:Int)⟩],[],(seq:Int),1,(m:Int)⟩=false:=by
  unfold qA cd;have d1:decide ((seq:Int)<0)=false:=by simp
  have d2:decide ((m:Int)<0)=false:=by simp
  have d3:decide (1099511627776<(m:Int))=false:=by simp;omega
  simp only [d1,d2,d3];simp
 rw [if_neg (show ¬ qz cd.tabs [] []=true by decide)];have ha:kz (cd.tabs.filter (gK [])) [⟨0,0,k0,k1,(D:Int)⟩]=some [⟨0,0,k0,k1,(D:Int)⟩]:=by
  show kz [] _=_;unfold kz;rw [a1];rfl
 simp only [ha,hs];rw [if_neg (by simp),if_neg (by simp [ky]),if_neg (by rw [hn];exact Bool.false_ne_true)]
theorem aCj {l:List En} (h:cQ l) {k0 k1:ByteArray} (h0:l[0]?.map En.key=some k0) (h1:l[l.length-1]?.map En.key=some k1):(Op.bytesLess k0.toList k1.toList||k0.toList==k1.toList)=true:=by
 cases l with
 |nil=>simp at h0
 |cons a l=>
  simp only [List.getElem?_cons_zero,Option.map_some,Option.some.injEq] at h0;subst h0;by_cases hl:l= []
  ·subst hl
   simp at h1;subst h1;simp
  ·obtain ⟨b,hb⟩:∃ b,(a::l)[(a::l).length-1]?=some b:=⟨_,List.getElem?_eq_getElem (by simp)⟩
   rw [hb] at h1;simp only [Option.map_some,Option.some.injEq] at h1;subst h1;have hbl:b∈l:=by
    have hp:=List.length_pos_iff.2 hl;rw [List.length_cons,Nat.add_sub_cancel] at hb;obtain ⟨n,hn⟩:∃ n,l.length=n+1:=⟨l.length-1,by omega⟩
    rw [hn,List.getElem?_cons_succ] at hb;exact dY hb
   have hlt:=(xu.1 h).1 b hbl;rcases hlt with h2|⟨h2,_⟩
   ·have h3:jF a.key b.key<0:=(SX _ _).2 (by rw [ByteArray.toList_eq,ByteArray.toList_eq];exact h2)
    have h4:Op.bytesLess a.key.toList b.key.toList=true:=by
     unfold jF at h3
     split at h3
     ·assumption
     ·split at h3<;>omega
    rw [h4];rfl
   ·rw [h2];simp
end Go.Proofs.YtoolkdapflaeeaaGreatDoor
