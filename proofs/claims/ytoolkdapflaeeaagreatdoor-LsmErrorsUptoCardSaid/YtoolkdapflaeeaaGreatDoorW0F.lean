/- Helpers. -/
import Derived.Deep.CutRange
import Derived.Deep.DeepCutAuto
import Derived.Test.YtoolkdapflaeeaaGreatDoorW0E
import Derived.Lib.UnsafeStr
import Derived.Test.YtoolkdapflaeeaaGreatDoorW09
import Derived.Test.YtoolkdapflaeeaaGreatDoorW0C
set_option maxRecDepth 100000
set_option maxHeartbeats 16000000
set_option linter.unusedSimpArgs false
open Go
variable {A B B' C K Nn T Z b c g i p r seq : Nat} {F N : Nat → Prop} {W W' w w' w0 : World} {bv u v : Value} {ds : List Int} {f : Nat × Nat} {k0 k1 : ByteArray}
namespace Go.Proofs.YtoolkdapflaeeaaGreatDoor
open Go.RowKit Go.Gl Go.aF Mn
section
def OpJ (Z B Nn:Nat) (wb:World) (t0:Tr) (f:Lk) (T K:Nat) (bs:List (Nat×List Wr)) (iv:Value) (wr:World):Prop:=
 ∃ (i:Nat) (t:Tr),iv= .int .i64 (i:Int)∧i≤bs.length∧dm Z B Nn wr t f T K∧fD wb t0 wr t∧t.ns.map (fun n=>n.x.e)=(bs.take i).foldl (fun l b=>gA b.1 b.2 l) []∧t.seq=((bs.take i).map (·.1)).foldl max t0.seq∧t.V=t0.V∧t.ld=t0.ld∧t.hh=t0.hh∧t.hn=t0.hn∧t.m=t0.m
variable {Z B Nn A C i:Nat} {w:World} {f:Lk} {T K:Nat} {s:eP}
theorem aaf (hd:Dl Z B w p r f T K F) (hN:dn Nn B w) {o:Od} {drv:Value} {N0:Nat→Prop} (hdr:∀ W,Rl B r w W→Iw N0 W drv ds) (sH:qy o) {Tb:Nat}
  (Nl:∀ W,Grow w W→Calls Tryz.prog 48 #[.pointer (some ⟨p,0,none⟩)] W (aaa Z B o.block.toNat A C i W p r s Tb)) (hA:A≤100000) (hC:C≤1000000) (hi:i+4≤Nn) (zG:i≤800000) (ib:s.V.tabs.length≤100000):
  Calls Tryz.prog 23 #[.pointer (some ⟨p,0,none⟩),xC o drv] w (amV Z B Nn A C i w p r o ds s Tb):=by
 have ah:=ar w (.cells #[.int .i64 o.mem,.int .i64 o.block,.int .i64 o.zero,.int .i64 o.base,.int .i64 o.table,drv] 26);have il:=ax w (.cells #[.int .i64 o.mem,.int .i64 o.block,.int .i64 o.zero,.int .i64 o.base,.int .i64 o.table,drv] 26);have Fb:=fun W=>YQ o drv W
 rw [if_pos sH] at Fb;have Hd0:=ae hd.base;have anb:ds.length≤1000000000:=by obtain ⟨_,_,_,h,_⟩:=hdr w (Rl.refl B r w);exact h
 have SL:=ae Fb;have Hd:=ae hd;have HN:=ae hN;have tz:=ae hdr;have aEV:=ae sH;have Hmo:=ae Nl;have Hb:=ae (ag hA (ag hC (ag hi (ag zG (ag ib anb)))));clear hd hN hdr sH Nl hA hC hi zG ib Fb anb;go_enter Tryz.func23,Tryz.ntmps23
 go_upto_region 1 with fail
 generalize w.alloc (.cells #[.int .i64 o.mem,.int .i64 o.block,.int .i64 o.zero,.int .i64 o.base,.int .i64 o.table,drv] 26)=w1 at*;obtain ⟨xb,zJ⟩:∃ xb,xb=w.heap.size:=⟨_,rfl⟩
 rw [←zJ] at il ⊢;have ane:=ae zJ;obtain ⟨⟨x0,x1,x2,x3,x4,x5⟩,lx⟩:=xD il;have yY:=ae il;have eC:=ae ah;clear zJ il ah
 go_wp2_with fail
 (with_reducible refine (SL.out w1).mono ?_);rintro e w2 ⟨rfl,hg2⟩;have fA:=ae (eC.out.trans hg2);have QK:=ae hg2;clear hg2 x0 x1 x2 x3 x4 x5 lx
 go_wp2_with fail
 (with_reducible refine (Hmo.out w2 fA.out).mono ?_);rintro e w3 ⟨sb,rfl,Np,tv,f3,T3,K3,F3,Mx,mz,fZ,hr3,vS,Cb⟩;have Nq:=ae (hr3.hold.keep _ _ _ _ (QK.out.heap yY.out) (by unfold CY;decide));have SN:=ae ((Rl.grow (r:=r) fA.out Hd.out.base).trans hr3);obtain ⟨⟨x0,x1,x2,x3,x4,x5⟩,lx⟩:=xD Nq.out;have MF:=ae Mx;have Ho3:=ae mz;have Cf:=ae fZ;have lC:=ae (ag vS (ag Cb Np));have Dd:=ae hr3;clear Mx mz fZ hr3 vS Cb Np;have aQ:=agQ (tz.out w3 SN.out);have gp:=ae aQ;clear aQ
 go_wp2_with fail
 (with_reducible refine gp.out.mono ?_);rintro e w4 ⟨cv,rfl,hcv,hg4⟩;clear x0 x1 x2 x3 x4 x5 lx gp;have qf:=hg4.heap Nq.out;have fx:=bG qf;obtain ⟨⟨x0,x1,x2,x3,x4,x5⟩,lx⟩:=xD qf;have wK:=Go.Gl.aK qf 5 cv;have ang:∀ b,cv.ownBlock=some b→b≠xb:=fun b hb e=>by
  obtain ⟨cur,hc⟩:=hcv.block hb;rw [e,qf] at hc;exact absurd (cE (bk hc)).2.1 (by decide)
 have SP:Go.Gl.Row1 3 w3.heap.size (w4.setCell ⟨xb,5,none⟩ cv) cv (ds.map (fun x=> .int .i64 x)):=hcv.keep (fun b hb=>aP _ _ _ _ (fun e=>ang b hb e));have hiw:Iw (fun b=>w3.heap.size≤b) (w4.setCell ⟨xb,5,none⟩ cv) cv ds:=Lb SP Hb.out.2.2.2.2.2 (fun g hg=>(SP.lt hg).1);have dp:w.heap.size≤xb:=Nat.le_of_eq ane.out.symm;have cM:eh (w4.setCell ⟨xb,5,none⟩ cv) sb p tv s.V ((0:Nat):Int):=by
  have h1:w4.heap[sb]?=some (.cells (setCells p tv s.V ((0:Nat):Int)) 154 (0,0)):=MF.out.grow hg4;refine eh.same h1 (aP _ _ _ _ (fun e=> ?_));have e':sb=xb:=e;rw [e',qf] at h1;exact absurd (cE (bk h1)).2.1 (by decide)
 have hown:Mn.Own 0 (w4.setCell ⟨xb,5,none⟩ cv) tv s.V.tabs:=EK (eM Ho3.out hg4) (fun b cur hc=>aP _ _ _ _ (fun e=>by
  have e':b=xb:=e;rw [e',qf] at hc;exact absurd (cE (bk hc)).2.1 (by decide)))
 have hdk:Dl Z B (w4.setCell ⟨xb,5,none⟩ cv) p r f3 T3 K3 F3:=by
  have jV:=Cf.out.grow hg4;have xj:=jV.apart qf (by decide) (by decide) (by decide);obtain ⟨V,d1,d2,d3,d4⟩:=jV;exact ⟨V,d1.keep (by simp) (fun b hb=>aP _ _ _ _ (fun e=>xj (by have e':b=xb:=e;rw [←e'];exact hb))),d2,d3,d4⟩
 have hBx:B≤xb:=aM Hd.out.base dp;have tX:Rl B r w (w4.setCell ⟨xb,5,none⟩ cv):=by
  have h1:=SN.out.trans (Rl.grow (r:=r) hg4 Cf.out.base);refine ⟨⟨h1.hold.os,h1.hold.tape,h1.hold.output,by simpa using h1.hold.size,fun b arr ty fz h ht=> ?_,fun b ob h hc hn=> ?_⟩,h1.below.setCell (p:=⟨xb,5,none⟩) hBx cv⟩
  ·rw [aP _ _ _ _ (fun e=>by have e':b=xb:=e;have:=af h;omega)];exact h1.hold.keep b arr ty fz h ht
  ·rw [aP _ _ _ _ (fun e=>by have e':b=xb:=e;have:=af h;omega)];exact h1.hold.maps b ob h hc hn
 have jJ:dn Nn B (w4.setCell ⟨xb,5,none⟩ cv):=HN.out.keep (fun b hb=>tX.below.block b hb);have anj:w.heap.size≤w3.heap.size:=SN.out.hold.size;have ank:w3.heap.size≤(w4.setCell ⟨xb,5,none⟩ cv).heap.size:=by simpa using hg4.size
 have HX:=ae wK;have HIw:=ae hiw;have HCr:=ae SP;have rY:=ae cM;have HO5:=ae hown;have rS:=ae hdk;have HR5:=ae tX;have HN5:=ae jJ;have Cn:=ae (ag anj (ag ank hBx));obtain ⟨ca,cc,ano⟩:=hcv.slice;rw [bF] at ano;subst ano;clear hcv hg4 qf wK ang SP hiw dp cM hown hdk hBx tX jJ anj ank MF Ho3 Cf Dd SN Nq Hd HN tz SL Hmo eC fA QK yY
 go_upto_region 8 with fail
 generalize w4.setCell ⟨xb,5,none⟩ (.slice ca ds.length cc)=w5 at*;have kA:= @run_makeMap Tryz.prog;have hgd:=az w5;refine uB (fun a0 ha0=> ?_);have F3:a0.tmps[3]?=some (.pointer (some ⟨xb,0,none⟩)):=by rw [ha0];rfl
 have F7:a0.tmps[7]?=some (.pointer (some ⟨sb,0,none⟩)):=by rw [ha0];rfl
 have hsz:a0.tmps.size=113:=by rw [ha0];rfl
 have lS:=ae ha0;have zI:=ae hgd;clear ha0 hgd fx x0 x1 x2 x3 x4 x5 lx;refine uD (S8 w5 sb xb o (.slice ca ds.length cc) ds) (T8 w5) Grow [39,40,41,42,43,44,45,46,47,9] (by kernel_rfl) (by kernel_rfl) (by rw [hsz];rfl) S8.keep ⟨zI.out,fun h=>by cases h⟩ ?_ (fun a1 W1 hf=> ?_);rotate_left
 ·obtain ⟨v9,s9,db,mb,ha,tm,hm,dv,q9,pT,hC,hop⟩:=hf.slot 9 9 rfl (by rfl)
  subst q9;have SQ:Grow w5 W1:=hf.world.1;have e:=hf.alike.fill;rw [lS.out] at e;simp only [List.foldl_cons,List.foldl_nil,Act.put,mf,List.set_cons_zero,kz] at e;have h9:a1.tmps.getD 9 undef= .pointer (some ⟨db,0,none⟩):=by rw [eQ,s9];rfl
  obtain ⟨Pf,Ku⟩:∃ u,a1.tmps.getD 39 undef=u:=⟨_,rfl⟩
  obtain ⟨Pg,Kv⟩:∃ u,a1.tmps.getD 40 undef=u:=⟨_,rfl⟩
  obtain ⟨Ph,Kw⟩:∃ u,a1.tmps.getD 41 undef=u:=⟨_,rfl⟩
  obtain ⟨Pj,Ky⟩:∃ u,a1.tmps.getD 42 undef=u:=⟨_,rfl⟩
  obtain ⟨Pk,Kz⟩:∃ u,a1.tmps.getD 43 undef=u:=⟨_,rfl⟩
  obtain ⟨u44,h44⟩:∃ u,a1.tmps.getD 44 undef=u:=⟨_,rfl⟩
  obtain ⟨u45,h45⟩:∃ u,a1.tmps.getD 45 undef=u:=⟨_,rfl⟩
  obtain ⟨u46,h46⟩:∃ u,a1.tmps.getD 46 undef=u:=⟨_,rfl⟩
  obtain ⟨u47,h47⟩:∃ u,a1.tmps.getD 47 undef=u:=⟨_,rfl⟩
  rw [h9,Ku,Kv,Kw,Ky,Kz,h44,h45,h46,h47] at e;clear hf h9 Ku Kv Kw Ky Kz h44 h45 h46 h47 s9;rw [e];have KE:=rY.out.grow SQ;have uh:=VN KE (eM HO5.out SQ) (by have:=Hb.out;omega);have BS:=ae uh;have EB:=ae hC;have Ff:=ae hop;have Lc:=ae SQ;have yH:=ae pT;obtain ⟨c0,_,_,_,_,c10,_,bu⟩:=hC.cells;clear e lS F3 F7 hsz KE uh hC hop SQ pT kA
  go_wp2_with fail
  (with_reducible refine BS.out.mono ?_);rintro e w7 ⟨v7,rfl,jT,cG⟩;obtain ⟨ta,tc,rfl⟩:=jL jT;have hgb:=ar w7 (.cells (bP (.slice ta s.V.tabs.length tc) s.V.seq s.V.next s.V.wal) 85);have jG:=ax w7 (.cells (bP (.slice ta s.V.tabs.length tc) s.V.seq s.V.next s.V.wal) 85);have qT:=eM jT hgb;have SR:=cG.trans hgb;clear c0 c10 bu BS
  go_upto_region 10 with fail
  generalize w7.alloc (.cells (bP (.slice ta s.V.tabs.length tc) s.V.seq s.V.next s.V.wal) 85)=w8 at*;obtain ⟨vb,ant⟩:∃ vb,vb=w7.heap.size:=⟨_,rfl⟩
  rw [←ant] at jG ⊢;have Fg:w8.heap[db]?=some (.cells (ru sb o (.slice ca ds.length cc) (.pointer none) mb tm 0 hm) 93 (0,0)):=EB.out.grow SR;obtain ⟨xM,uo⟩:∃ q:Nat,s.V.seq=(q:Int):=⟨s.V.seq.toNat,by have:=lC.out.1.gM.good.seq.1;omega⟩
  have EW:=Go.Gl.aK Fg 10 (.int .u64 s.V.seq);have jN:Sep (fun b=>b=db) w8 (w8.setCell ⟨db,10,none⟩ (.int .u64 s.V.seq)) (fun b=>b=db):=⟨rfl,rfl,rfl,by simp,fun b _ hn=>aP _ _ _ _ hn,fun b hb=> .inl hb⟩
  have zK:∀ {b:Nat} {arr:Array Value} {ty:TypeId} {fz:Nat×Nat},w8.heap[b]?=some (.cells arr ty fz)→ty≠93→(w8.setCell ⟨db,10,none⟩ (.int .u64 s.V.seq)).heap[b]?=w8.heap[b]?:=fun hb ri=>aP _ _ _ _ (fun e=>by
   rw [e,Fg] at hb;exact ri (cE (bk hb)).2.1.symm)
  have xN:=Lc.out.trans SR;have anu:eh (w8.setCell ⟨db,10,none⟩ (.int .u64 s.V.seq)) sb p tv s.V ((0:Nat):Int):=by
   have h1:w8.heap[sb]?=some (.cells (setCells p tv s.V ((0:Nat):Int)) 154 (0,0)):=rY.out.grow xN;exact eh.same h1 (zK h1 (by decide))
  have anv:Mn.Own 0 (w8.setCell ⟨db,10,none⟩ (.int .u64 s.V.seq)) tv s.V.tabs:=EK (eM HO5.out xN) (fun b cur hc=>zK hc (by decide));have Mi:Mn.Own w8.heap.size (w8.setCell ⟨db,10,none⟩ (.int .u64 s.V.seq)) (.slice none 0 0) []:=⟨rfl,.inl ⟨rfl,rfl⟩⟩
  have anw:Mn.Own W1.heap.size (w8.setCell ⟨db,10,none⟩ (.int .u64 s.V.seq)) (.slice ta s.V.tabs.length tc) s.V.tabs:=EK qT (fun b cur hc=>zK hc (by decide));have anx:=(zK jG (by decide)).trans jG;have gJ:Dl Z B (w8.setCell ⟨db,10,none⟩ (.int .u64 s.V.seq)) p r f3 T3 K3 F3:=by
   have Gf:=rS.out.grow xN;have xj:=Gf.apart Fg (by decide) (by decide) (by decide);obtain ⟨V,d1,d2,d3,d4⟩:=Gf;exact ⟨V,d1.keep (by simp) (fun b hb=>aP _ _ _ _ (fun e=>xj (by have e':b=db:=e;rw [←e'];exact hb))),d2,d3,d4⟩
  have zL:=Ff.out.grow SR;obtain ⟨Nm,tI⟩:=zL.mem;have anz:Go.Gl.Row1 3 w5.heap.size (w8.setCell ⟨db,10,none⟩ (.int .u64 s.V.seq)) dv (ds.map (fun x=> .int .i64 x)):=zL.row.keep (fun b hb=>by
   obtain ⟨cur,hc⟩:=zL.row.block hb;exact zK hc (by decide))
  have anB:dQ (fun b=>dv.ownBlock=some b) (w8.setCell ⟨db,10,none⟩ (.int .u64 s.V.seq)) mb ha [] 0 dv ds:=by
   have k:∀ b,FM mb ha [] b→(w8.setCell ⟨db,10,none⟩ (.int .u64 s.V.seq)).heap[b]?=w8.heap[b]?:=fun b hb=>by
    obtain ⟨arr,ty,h1,h2⟩:=tI.kind hb;refine zK h1 ?_;rcases h2 with rfl|rfl|rfl<;>decide
   have GL:dQ (fun b=>dv.ownBlock=some b) w8 mb ha [] 0 dv ds:=⟨tI.self,⟨fun n hn=>(by cases hn),tI.skip.iZ,fun n hn=>(by cases hn),List.nodup_nil,tI.skip.DK,fun n hn=>(by cases hn),cn.nil⟩,aY _,Lb zL.row Hb.out.2.2.2.2.2 (fun g hg=>hg)⟩
   exact GL.keep k ⟨by simp,fun b hb _=>by
    obtain ⟨cur,hc⟩:=zL.row.block hb;exact zK hc (by decide)⟩
  have ndm:∀ {m:Nat} {enc:Int→Value} {g:Int→Option Value} {n:Nat},fj w8 m enc g n→fj (w8.setCell ⟨db,10,none⟩ (.int .u64 s.V.seq)) m enc g n:=fun pF=>pF.keep (aP _ _ _ _ (fun e=>by
   have:=pF.map (arr:=_) (ty:=_) (fz:=_) (by rw [e];exact Fg);exact this))
  have anC:=ndm zL.tab;have aan:=(HCr.out.mono (aY _)).grow xN;have anD:Go.Gl.Row1 3 0 (w8.setCell ⟨db,10,none⟩ (.int .u64 s.V.seq)) (.slice ca ds.length cc) (ds.map (fun x=> .int .i64 x)):=aan.keep (fun b hb=>by
   obtain ⟨cur,hc⟩:=aan.block hb;exact zK hc (by decide))
  have anE:B≤db:=aM rS.out.base yH.out;have anF:ep (w8.setCell ⟨db,10,none⟩ (.int .u64 s.V.seq)) db sb o (.slice ca ds.length cc) (.pointer none) mb tm xM hm:=by rw [uo] at EW ⊢;exact EW
  have hbl:Bl Z B Nn (w8.setCell ⟨db,10,none⟩ (.int .u64 s.V.seq)) db sb p r mb ha tm hm xM o (.slice ca ds.length cc) dv tv ds s.V f3 T3 K3 F3:=⟨anF,anu,anv,anB,anz.mono (aY _),anD,ndm zL.held,gJ,HN5.out.keep (fun b hb=>by
   rw [aP _ _ _ _ (fun e=>by have e':b=db:=e;omega)];exact xN.block b (cf hb rS.out.base))⟩
  have hr9:Rl B r w (w8.setCell ⟨db,10,none⟩ (.int .u64 s.V.seq)):=by
   have h1:=HR5.out.trans (Rl.grow (r:=r) xN rS.out.base);have hdw:w.heap.size≤db:=aM (aM Cn.out.1 Cn.out.2.1) yH.out;refine ⟨⟨h1.hold.os,h1.hold.tape,h1.hold.output,by simpa using h1.hold.size,fun b arr ty fz h ht=> ?_,fun b ob h hc hn=> ?_⟩,h1.below.setCell (p:=⟨db,10,none⟩) anE _⟩
   ·rw [aP _ _ _ _ (fun e=>by have e':b=db:=e;have:=af h;omega)];exact h1.hold.keep b arr ty fz h ht
   ·rw [aP _ _ _ _ (fun e=>by have e':b=db:=e;have:=af h;omega)];exact h1.hold.maps b ob h hc hn
  have anH:w.heap.size≤w5.heap.size∧w5.heap.size≤tm∧w5.heap.size≤hm∧w5.heap.size≤mb∧w5.heap.size≤ha∧tm≠hm∧B≤w5.heap.size∧w5.heap.size≤db:=⟨aM Cn.out.1 Cn.out.2.1,Ff.out.IX,Ff.out.IY,Ff.out.SI,Ff.out.SJ,Ff.out.ne,rS.out.base,yH.out⟩
  have uq:∀ b,F3 b→b<w5.heap.size:=fun b hb=>(rS.out.foot hb).2
  have xx:=bG Fg;obtain ⟨c0,_,_,_,_,c10,_,bu⟩:=(show ep w8 db sb o (.slice ca ds.length cc) (.pointer none) mb tm 0 hm from Fg).cells;obtain ⟨v0,v1,v2,v3⟩:=dy jG;have ME:=af jG;have HBl:=ae hbl;have HCw:=ae (fun b (hb:(Value.slice ca ds.length cc).ownBlock=some b)=>(show w.heap.size≤b from aM Cn.out.1 (HCr.out.lt hb).1));have HDw:=ae (fun b (hb:dv.ownBlock=some b)=>(show w.heap.size≤b from aM (aM Cn.out.1 Cn.out.2.1) (zL.row.lt hb).1));have HR9:=ae hr9;have Nr:=ae anC;have Hnu:=ae (ag anH (ag uq uo));have aEZ:=ae (qK anw (aY _));have Ns:=ae anx;clear ant Fg EW jN zK xN anu anv Mi anw anx gJ zL tI anz anB ndm anC aan anD anE anF hbl hr9 anH uq uo jG qT SR hgb jT cG rY HO5 rS HR5 HN5 Cn HIw HCr HX EB Ff Lc yH ane
  go_upto_region 11 with fail
  generalize w8.setCell ⟨db,10,none⟩ (.int .u64 s.V.seq)=w9 at*;have anK:LdI w9 tm s.V.tabs s.ay (.int .i64 0) w9:=⟨0,fun _=>none,fun _=>none,0,rfl,aY _,GX.refl _ _,Nr.out,(fun k b l h=>by cases h),(fun x hx=>by simp at hx)⟩
  have anL:=ae anK;clear anK;obtain ⟨v0,v1,v2,v3⟩:=dy Ns.out;have ME:=af Ns.out
  go_wp2_with fail
  clear v0 v1 v2 v3 ME
  go_loopw [61] (fun iv wr=>LdI w9 tm s.V.tabs s.ay iv wr) (fun iv _=>s.V.tabs.length-(intOf iv).toNat)
  case atStart=>exact anL.out
  case round=>
   clear anL;obtain ⟨i,ld,g,gm,rfl,hi,hgx,pF,js,hall⟩:=hrel;obtain ⟨⟨n1,n2,n3,n4,n5,n6,n7,n8⟩,uq,uo⟩:=Hnu.out;have aao:¬ F3 tm:=fun hf=>by have:=uq _ hf;omega
   have xO:=HBl.out.gx Nr.out hgx n6 aao (by omega);have Fh:=Sep.IB hgx;by_cases hlt:i<s.V.tabs.length
   ·obtain ⟨x,hx⟩:∃ x,s.V.tabs[i]?=some x:=⟨s.V.tabs[i],by simp [hlt]⟩
    have mK:=dB hx;have aap:Mn.Own 0 wr (.slice ta s.V.tabs.length tc) s.V.tabs:=EK aEZ.out (fun b cur hc=>Fh.out b (af hc) (fun e=>Nr.out.map (by rw [←e];exact hc)));obtain ⟨gT,aCv,aCw,lA,Mj,kR⟩:∃ (g cap:Nat) (cur:Array Value),(Value.slice ta s.V.tabs.length tc)= .slice (some ⟨g,0,none⟩) s.V.tabs.length cap∧wr.heap[g]?=some (.cells cur 101 (0,0))∧Rd wr g 0 ji 5 s.V.tabs:=by
     rcases id aap.2 with ⟨h1,h0⟩|⟨g,cap,cur,h1,h2,h3,h4⟩
     ·omega
     ·exact ⟨g,cap,cur,h1,h3,wC qL (h1 ▸ aap)⟩
    cases lA;have iX:=kR i x hx;obtain ⟨n,hn⟩:∃ n:Nat,x.file=(n:Int):=⟨x.file.toNat,by have:=(lC.out.1.gM.good.tabs x mK).file.1;omega⟩
    have GD:x.file.toNat=n:=by omega
    have Sr:n<i+n+1:=by omega
    have hb:=Hb.out;have dJ:n+4≤Nn∧n<1000000:=by
     have h1:=lC.out.1.gM.files x mK;have h2:=lC.out.1.lim.next;omega
    obtain ⟨t1,t2⟩:=lC.out.1.table mK;have t3:=Sp (s.ay x.file);obtain ⟨e1,e2⟩:=lC.out.1.gM.ay x mK;have aU:=fun o'=>ar wr o'
    have IQ:=lC.out.1.gM.tabs x mK;rw [GD] at IQ;have anM:=fun (W:World) (hg:Grow wr W)=>akp (xO.cell.grow hg) (xO.set.grow hg) (xO.bg.grow hg) (xO.jn.grow hg xO.bg.base) (n:=n) (by omega) dJ.2 IQ e1 e2.ord e2.gone e2.ok (by omega) (by omega) (pF.grow hg)
    have fP:∀ (W w2:World) (tb:Nat),Grow wr W→RI W tm g gm n (s.ay x.file) w2 tb→LdI w9 tm s.V.tabs s.ay (.int .i64 ((i:Int)+1)) w2:=fun W w2 tb hg hl=>by
     have ym:=(GX.of (g:=tm) hg).trans hl.gx;refine ⟨i+1,fun k=>if k=(n:Int) then some (tb,s.ay x.file) else ld k,_,gm+1,by simp,hlt,hgx.trans ym,hl.map,fun k b l hk=> ?_,fun y hy=> ?_⟩
     ·dsimp only at hk
      split at hk
      ·rename_i he
       cases hk;exact ⟨by unfold lX;rw [if_pos he],hl.sst.mono (aM Fh.size hg.size),x,mK,rfl⟩
      ·rename_i he
       obtain ⟨h1,h2,h3⟩:=js k b l hk;exact ⟨by unfold lX;rw [if_neg he];exact h1,h2.gx ym pF.Iu,h3⟩
     ·rw [take_one hx] at hy
      dsimp only;by_cases he:y.file=(n:Int)
      ·refine ⟨tb,?_⟩
       rw [if_pos he,he,hn]
      ·rw [if_neg he]
       rcases cU.1 hy with hy|hy
       ·exact hall y hy
       ·rw [cY.1 hy] at he
        exact absurd hn he
    obtain ⟨f0,f1,f2,f3',f4⟩:=x;dsimp only at hn;subst hn;have a0:=iX 0 _ rfl;have a1:=iX 1 _ rfl;have a2:=iX 2 _ rfl;have a3:=iX 3 _ rfl;have a4:=iX 4 _ rfl;simp only [Nat.add_zero,Nat.zero_add] at a0 a1 a2 a3 a4;have lT:gT<wr.heap.size:=af Mj;have eB:(i:Int)<(s.V.tabs.length:Int):=by omega
    have bO:(0:Int)≤(i:Int):=by omega
    have fE:IntKind.i64.wrap ((i:Int)+1)=(i:Int)+1:=aS _ (by omega);have ah:=ar wr (.cells #[.int .i64 (n:Int),.int .i64 f1,.string f2,.string f3',.int .i64 f4] 101);have aaq:=ax wr (.cells #[.int .i64 (n:Int),.int .i64 f1,.string f2,.string f3',.int .i64 f4] 101);obtain ⟨b0,b1,b2,b3,b4⟩:=dw aaq;have lb:=af aaq;have anN:=ae (anM _ ah);have kr:=ae (fun w2 tb=>fP _ w2 tb ah);have qm:=ae hlt;clear anM fP iX kR Mj aap hx mK GD Sr hb dJ t1 t2 t3 e1 e2 aU IQ xO Fh hgx pF js hall aao n1 n2 n3 n4 n5 n6 n7 n8 uq uo ah aaq hlt
    go_wp2_with fail
    (with_reducible refine anN.out.mono ?_);rintro e w2 ⟨rfl,tb,MV⟩;have aX:=ae (kr.out w2 tb MV);clear MV anN kr a0 a1 a2 a3 a4 b0 b1 b2 b3 b4 lb lT;go_wp2;go_roundw
    case rel=>exact aX.out
    case measure=>simp [intOf];have:=qm.out;omega
   ·obtain rfl:i=s.V.tabs.length:=by omega
    rw [ij] at hall;have HLd:=ae (ag pF (ag js (ag hall hgx)));have Nt:=ae xO;have SS:=ae ((Fh.out vb (af Ns.out) (fun e=>Nr.out.map (by rw [←e];exact Ns.out))).trans Ns.out);obtain ⟨a,ha⟩:∃ a:Nat,s.V.wal=(a:Int):=⟨s.V.wal.toNat,by have:=lC.out.1.lim.xH;omega⟩
    have hat:s.V.wal.toNat=a:=by omega
    have lZ:=lC.out.1.log;rw [hat] at lZ;have hb:=Hb.out;have SU:=lC.out.1.lim;have MU:=lC.out.1.K;have fw:∀ ps∈jb s.LL,∀ q∈ps,q.length≤67108864:=fun ps fw q hq=>by
     obtain ⟨bs,vA,rfl⟩:=aZ.1 fw;obtain ⟨b,Gt,rfl⟩:=aZ.1 hq;have eV:=SU.ES b (List.mem_flatten.2 ⟨bs,vA,Gt⟩);have h1:=XQ b.1 b.2;have h2:=eV.len;have h3:=eV.bytes;show (kM b.1 b.2).length≤_;omega
    have IZ:=akK (jb s.LL) fw;have Nu:(jb s.LL).flatten.length=s.LL.flatten.length:=by
     rw [←List.map_flatten,bF]
    have SV:=SU.wal;have nZ:=SU.IJ;have hop:=axx (a:=a) (nm:=cr) rfl (fun w=>axf w) lZ (aCR fw) xO.bg xO.jn (by omega) (by rw [zF];omega) (by rw [zF];omega) (by rw [IZ,Nu];omega);have Hop:=ae hop;have yM:=ae (ag IZ (ag Nu (ag ha (ag lZ (ag SV nZ)))));have SX:=SS.out;rw [ha] at SX;obtain ⟨v0,v1,v2,v3⟩:=dy SX;have ME:=af SX;clear pF js hall hgx xO Fh hop IZ Nu fw ha hat lZ hb SU MU SV nZ SX n1 n2 n3 n4 n5 n6 n7 n8 uq uo aao
    go_wp2_with fail
    (with_reducible refine Hop.out.mono ?_);rintro e wa ⟨lb,rv,Fa,rfl,aFb,Gx,oX,La,yO⟩;obtain ⟨⟨n1,n2,n3,n4,n5,n6,n7,n8⟩,uq,uo⟩:=Hnu.out;have Fi:=HBl.out;have hF9:∀ b,F3 b→b<w9.heap.size:=fun b hb=>(Fi.bg.foot hb).2
    obtain ⟨pF,js,hall,hgx⟩:=HLd.out;have Fh:=(Sep.IB hgx).size;have SY:=Nt.out.sep Gx oX (fun hf=>by have:=uq _ hf;omega);have hta:fj wa tm encI g gm:=pF.keep (oX.out tm pF.lt (fun hf=>by have:=uq _ hf;omega));have aFc:=Nr.out.lt;have aFd:=Fi.held.lt;have aFe:=Fi.cell.cells.2.2.2.2.2.2.2;have aFf:=Fi.set.cells.2.2.2.2.2.2;have anP:∀ k b l,ld k=some (b,l)→g k=some (.pointer (some ⟨b,0,none⟩))∧qx (fun b=>w9.heap.size≤b∧b<wr.heap.size) wa b l:=fun k b l hk=>by
     obtain ⟨h1,h2,x,hx,rfl⟩:=js k b l hk;have he:=(lC.out.1.gM.ay x hx).2;have ht:=lC.out.1.table hx;have hb:=Hb.out;exact ⟨h1,(h2.inN (fun b a c=>⟨a,c⟩) he.ord (by omega) (fun y hy=>(he.ok y hy).val)).kp ⟨oX.size,fun b hb _=>oX.out b hb.2 (fun hf=>by have:=hF9 b hf;have:=hb.1;omega)⟩⟩
    have Nk:∀ b,(w9.heap.size≤b∧b<wr.heap.size)→b<wa.heap.size∧¬ Fa b∧¬ FM mb ha [] b∧b≠db∧b≠sb∧b≠lb∧b≠tm∧b≠hm:=fun b hb=>by
     refine ⟨cf hb.2 oX.size,fun hf=> ?_,fun hf=> ?_,by omega,by omega,by omega,by omega,by omega⟩
     ·rcases oX.foot b hf with h1|h1
      ·have:=hF9 b h1;omega
      ·omega
     ·have:=Fi.mem.lt hf;omega
    have Np:=lC.out.2.2;have anQ:¬ Fa tm:=fun hf=>(oX.foot tm hf).elim (fun h1=>by have:=uq _ h1;omega) (fun h1=>by have:=pF.lt;omega)
    have anR:¬ Fa hm:=fun hf=>(oX.foot hm hf).elim (fun h1=>by have:=uq _ h1;omega) (fun h1=>by have:=Nt.out.held.lt;omega)
    have sK:=SY.tree (sq:=xM) La hta anP Nk ⟨by omega,Np,by have:=Nt.out.bg.base;omega,by omega,by omega,by omega,by omega⟩ anQ anR n6 Hb.out.2.2.2.2.2;have Nv:wa.heap[db]?=some (.cells (ru sb o (.slice ca ds.length cc) (.pointer none) mb tm xM hm) 93 (0,0)):=SY.cell;have Bg:wa.heap[vb]?=some (.cells (bP (.slice ta s.V.tabs.length tc) s.V.seq s.V.next s.V.wal) 85 (0,0)):=(oX.out vb (af SS.out) (Nt.out.bg.apart SS.out (by decide) (by decide) (by decide))).trans SS.out;have aas:(wa.setCell ⟨db,7,none⟩ (.pointer (some ⟨lb,0,none⟩))).heap[vb]?=some (.cells (bP (.slice ta s.V.tabs.length tc) s.V.seq s.V.next s.V.wal) 85 (0,0)):=(aP _ _ _ _ (fun e=>by
     have e':vb=db:=e;rw [e',Nv] at Bg;exact absurd (cE (bk Bg)).2.1 (by decide))).trans Bg
    have xx:=bG Nv;obtain ⟨c0,_,c7,_,_,_,_,bu⟩:=SY.cell.cells;obtain ⟨IZ,Nu,Nw,lZ,SV,nZ⟩:=yM.out;obtain ⟨GI,hLp⟩:=amZ s.LL;have SZ:=VZ lZ;rw [aad] at SZ;obtain ⟨fo,fQ⟩:∃ fo,fo=pW cr a f3 (gF (jb s.LL)):=⟨_,rfl⟩
    have nG:(gF (jb (jt s.LL))).length=(jt s.LL).length:=zF _;rw [aad,nG] at sK;rw [←fQ] at sK SZ;obtain ⟨t0,pM⟩:∃ t0,t0=amU db sb p r lb mb tm hm ha o (.slice ca ds.length cc) ds tv dv s.V xM (a+((jt s.LL).length-1)) (fun b=>w9.heap.size≤b∧b<wr.heap.size) Fa g gm ld:=⟨_,rfl⟩
    rw [←pM] at sK;have hb:=Hb.out;have MU:=lC.out.1.K;have IU:dT (wa.setCell ⟨db,7,none⟩ (.pointer (some ⟨lb,0,none⟩))) lb p cr ((a+((jt s.LL).length-1):Nat):Int):=by have:=sK.log;rw [pM] at this;exact this
    have Il:Dl Z B (wa.setCell ⟨db,7,none⟩ (.pointer (some ⟨lb,0,none⟩))) p r fo T3 (K3+1) Fa:=by have:=sK.bg;rw [pM] at this;exact this
    have EX:=fun (W:World) (hg:Grow (wa.setCell ⟨db,7,none⟩ (.pointer (some ⟨lb,0,none⟩))) W)=>aga (b:=0) (m:=a+((jt s.LL).length-1)) rfl SZ (Il.grow hg) (IU.grow hg) (sK.jn.grow hg Il.base) (by omega) (by rw [nG];omega) (by rw [nG];omega) (by rw [nG];omega) (by rw [nG];omega) (by rw [nG];omega)
    rw [Nat.add_zero] at EX;obtain ⟨vals,hrow,qu,xp⟩:=yO;have dS:∀ b,((rv.ownBlock=some b)∨∃ u∈vals,u.ownBlock=some b)→b<wa.heap.size∧b≠db∧¬ FT t0 b:=fun b hb=>by
     rcases hb with hb|⟨u,hu,hb⟩
     ·obtain ⟨cur,hc⟩:=hrow.block hb
      have iB:b≠db:=fun e=>by rw [e,Nv] at hc;exact absurd (cE (bk hc)).2.1 (by decide)
      exact ⟨(hrow.lt hb).2,iB,sK.off (ty:=49) ((aP _ _ _ _ iB).trans hc) (by decide)⟩
     ·obtain ⟨k,hk⟩:=List.mem_iff_getElem?.1 hu
      have fR:=(dG.1 hk).1;obtain ⟨q,hq⟩:∃ q,(mN (gF (jb s.LL)))[k]?=some q:=⟨_,dZ (by rw [←qu];exact fR)⟩
      obtain ⟨fG,sB⟩:=xp k u q hk hq;obtain ⟨cur,hc⟩:=fG.block hb;have hlt:=fG.lt hb;have iB:b≠db:=fun e=>by rw [e,Nv] at hc;exact absurd (cE (bk hc)).2.1 (by decide)
      have inj:∀ {a2:Array Value} {t2:TypeId} {f2:Nat×Nat},wa.heap[b]?=some (.cells a2 t2 f2)→(5:TypeId)=t2:=fun h2=>(cE (bk (hc.symm.trans h2))).2.1
      refine ⟨hlt.2,iB,?_⟩;rw [pM];rintro (q1|q1|q1|q1|q1|q1|q1)
      ·exact sB b hb q1
      ·have h6:=Fi.mem.lt q1;omega
      ·exact iB q1
      ·have Br:b=sb:=q1;omega
      ·have Br:b=lb:=q1
       have:=inj (by rw [Br];exact La.self);revert this;decide
      ·have Br:b=tm:=q1;omega
      ·have Br:b=hm:=q1;omega
    have qM:=Hd0.out;have hra:Rl B r w (wa.setCell ⟨db,7,none⟩ (.pointer (some ⟨lb,0,none⟩))):=by
     have h2:Rl B r w wr:=HR9.out.amW (Sep.IB hgx) (fun b hb=>by omega) qM;have h3:=h2.trans (Rl.sep Nt.out.bg oX);exact h3.amW (G:=fun b=>b=db) (G':=fun b=>b=db) ⟨rfl,rfl,rfl,by simp,fun b _ hn=>aP _ _ _ _ hn,fun b hb=> .inl hb⟩ (fun b hb=>by omega) qM
    have aat:∀ b,((rv.ownBlock=some b)∨∃ u∈vals,u.ownBlock=some b)→(wa.setCell ⟨db,7,none⟩ (.pointer (some ⟨lb,0,none⟩))).heap[b]?=wa.heap[b]?:=fun b hb=>aP _ _ _ _ (dS b hb).2.1
    have anT:Go.Gl.Row1 49 0 (wa.setCell ⟨db,7,none⟩ (.pointer (some ⟨lb,0,none⟩))) rv vals:=(hrow.mono (aY _)).keep (fun b hb=>aat b (.inl hb));rw [IZ] at qu xp;have MO:(jb s.LL).flatten=s.LL.flatten.map kx:=by rw [List.map_flatten]
    rw [MO] at qu xp;have anU:∀ (k:Nat) (u:Value) (b:Nat×List Wr),vals[k]?=some u→s.LL.flatten[k]?=some b→aI 0 (wa.setCell ⟨db,7,none⟩ (.pointer (some ⟨lb,0,none⟩))) u (kx b):=fun k u b hk hb=>by
     have h1:=(xp k u (kx b) hk (by rw [gZ,hb];rfl)).1;exact (h1.mono (aY _)).keep (fun c hc=>aat c (.inr ⟨u,dB hk,hc⟩))
    have anV:∀ b,((rv.ownBlock=some b)∨∃ u∈vals,u.ownBlock=some b)→b<(wa.setCell ⟨db,7,none⟩ (.pointer (some ⟨lb,0,none⟩))).heap.size∧¬ FT t0 b:=fun b hb=>⟨by simpa using (dS b hb).1,(dS b hb).2.2⟩
    have hf0:t0.db=db∧t0.p=p∧t0.r=r∧t0.lb=lb∧t0.mb=mb∧t0.ha=ha∧t0.tm=tm∧t0.hm=hm∧t0.o=o∧t0.ds=ds∧t0.V=s.V∧t0.seq=xM∧t0.m=a+((jt s.LL).length-1)∧t0.ld=ld∧t0.hh=(fun _=>none)∧t0.hn=0∧t0.ns= []∧t0.F=Fa:=by rw [pM];exact ⟨rfl,rfl,rfl,rfl,rfl,rfl,rfl,rfl,rfl,rfl,rfl,rfl,rfl,rfl,rfl,rfl,rfl,rfl⟩
    have FK:∀ b,t0.N b→w.heap.size≤b:=fun b hb=>by
     rw [pM] at hb;rcases hb with hb|hb|hb
     ·have:=hb.1;omega
     ·have:=HCw.out b hb;omega
     ·have:=HDw.out b hb;omega
    rw [Nw] at aas;have Htr:=ae EX;have Ta:=ae (ag anT (ag anU anV));have Ck:=ae sK;have Tc:=ae aas;have Hf0:=ae hf0;have HN0:=ae FK;have Hra:=ae hra;have lI:=ae fQ;have hCb:ep (wa.setCell ⟨db,7,none⟩ (.pointer (some ⟨lb,0,none⟩))) db sb o (.slice ca ds.length cc) (.pointer (some ⟨lb,0,none⟩)) mb tm xM hm:=by have:=sK.cell;rw [pM] at this;exact this
    have HCb:=ae hCb;have aFi:=ae (ag hall (ag Il.total (ag (show w.heap.size≤db∧w.heap.size≤mb∧w.heap.size≤ha∧w.heap.size≤lb∧w.heap.size≤tm∧w.heap.size≤hm from ⟨by omega,by omega,by omega,by omega,by omega,by omega⟩) (ag uo Nw))));obtain ⟨bs,vA⟩:∃ bs,bs=s.LL.flatten:=⟨_,rfl⟩
    have aaw:vals.length=bs.length:=by rw [qu,bF,vA]
    obtain ⟨ra,rc,rfl⟩:=hrow.slice;rw [aaw];have Nx:=ae vA;rw [←vA] at Ta;have aax:=ae aaw;clear hrow qu xp dS aat anT anU anV hf0 FK aas sK hra fQ hCb EX IU Il SZ nG GI hLp IZ Nu lZ SV nZ MO qM hb MU pM n1 n2 n3 n4 n5 n6 n7 n8 uq uo Fi hF9 pF js hall hgx Fh SY hta aFc aFd aFe aFf anP Nk Np anQ anR Bg Nv aFb Gx oX La v0 v1 v2 v3 ME aaw Nw vA
    go_upto_region 22 with fail
    generalize wa.setCell ⟨db,7,none⟩ (.pointer (some ⟨lb,0,none⟩))=wb at*;have hgd:=az wb;have S22:∀ W,Grow wb W→W.cell? ⟨db,7,none⟩=some (.pointer (some ⟨lb,0,none⟩))∧db<W.heap.size∧W.cell? ⟨vb,3,none⟩=some (.int .i64 (a:Int))∧vb<W.heap.size:=fun W hg=>by
     obtain ⟨_,_,c7,_,_,_,_,bu⟩:=(HCb.out.grow hg).cells;have hv:=hg.heap Tc.out;obtain ⟨_,_,_,v3⟩:=dy hv;exact ⟨c7,bu,v3,af hv⟩
    refine dz (fun W=>W.cell? ⟨db,7,none⟩=some (.pointer (some ⟨lb,0,none⟩))∧db<W.heap.size∧W.cell? ⟨vb,3,none⟩=some (.int .i64 (a:Int))∧vb<W.heap.size) [6] (by kernel_rfl) (bK fun _ _ _ _ _ h=>h) (S22 _ hgd) ?_;simp only [cF];clear S22 c0 c7 bu xx
    repeat ((first|(refine aA (v:= ?_) (by rfl) ?_ ?_;rotate_left;rintro W ⟨hW0,hW1,hW2,hW3⟩;go_simp;with_reducible rfl)|refine aB (by rfl) ?_);simp only [ai,List.set])
    refine bp (by rfl) (by go_simp) (Htr.out _ hgd) ?_;rintro e wc ⟨rfl,Fc,AE,hlc,hsc⟩;obtain ⟨f1,f2,f3',f4,f5,f6,f7,f8,f9,f10,f11,f12,f13,f14,f15,f16,f17,f18⟩:=Hf0.out;have aoa:Dl Z B wc t0.p t0.r fo (T3-wT ((gF (jb (jt s.LL))).take 0)) (K3+1) Fc:=by rw [f2,f3'];exact AE
    have Td:Sep t0.F wb.drew wc Fc:=by rw [f18];exact hsc
    obtain ⟨mS,aob⟩:=(Ck.out.grow hgd).EN aoa Td;have Ja:fD wb t0 wc {t0 with F:=Fc}:=(fD.bT t0 hgd).trans aob;have hCc:ep wc db sb o (.slice ca ds.length cc) (.pointer (some ⟨lb,0,none⟩)) mb tm xM hm:=by
     have h1:wb.heap[db]?=some (.cells (ru sb o (.slice ca ds.length cc) (.pointer (some ⟨lb,0,none⟩)) mb tm xM hm) 93 (0,0)):=HCb.out;exact (Td.out db (af (hgd.heap h1)) ((Ck.out.grow hgd).bg.apart (hgd.heap h1) (by decide) (by decide) (by decide))).trans (hgd.heap h1)
    have Jb:=(Td.out vb (af (hgd.heap Tc.out)) ((Ck.out.grow hgd).bg.apart (hgd.heap Tc.out) (by decide) (by decide) (by decide))).trans (hgd.heap Tc.out);obtain ⟨_,_,c7,_,_,_,_,bu⟩:=hCc.cells;obtain ⟨_,_,_,v3⟩:=dy Jb;refine ⟨_,rfl,⟨c7,bu,v3,af Jb⟩,?_⟩;have KV:∀ b,(((Value.slice ra vals.length rc).ownBlock=some b)∨∃ u∈vals,u.ownBlock=some b)→wc.heap[b]?=wb.heap[b]?∧b<wc.heap.size∧¬ FT {t0 with F:=Fc} b:=fun b hb=>by
     obtain ⟨h1,h2⟩:=Ta.out.2.2 b hb;refine ⟨Ja.sep.out b h1 h2,cf h1 Ja.sep.size,fun hf=> ?_⟩;rcases Ja.sep.foot b hf with h3|h3
     ·exact h2 h3
     ·omega
    have hT4:T3-wT ((gF (jb (jt s.LL))).take 0)≤T3:=Nat.sub_le _ _;generalize T3-wT ((gF (jb (jt s.LL))).take 0)=T4 at*;obtain ⟨tc,aay⟩:∃ tc,tc={t0 with F:=Fc}:=⟨_,rfl⟩
    rw [←aay] at mS Ja KV;have aaz:tc.ns= []∧tc.seq=xM∧tc.V=s.V∧tc.ld=ld∧tc.hh=(fun _=>none)∧tc.hn=0∧tc.m=a+((jt s.LL).length-1):=by rw [aay];exact ⟨f17,f12,f11,f14,f15,f16,f13⟩
    have Al:OpJ Z B Nn wc tc fo T4 (K3+1) bs (.int .i64 0) wc:=⟨0,tc,rfl,aY _,mS,fD.refl _ _,by rw [aaz.1];rfl,rfl,rfl,rfl,rfl,rfl,rfl⟩
    have Ny:=ae Al;have Htc:=ae mS;have aoe:=ae Ja;have Hkc:=ae KV;have aFk:=ae aaz;have HT4:=ae hT4;clear Al mS Ja KV aaz hT4 AE hlc hsc aoa Td aob hCc Jb c7 bu v3 hgd aay f1 f2 f3' f4 f5 f6 f7 f8 f9 f10 f11 f12 f13 f14 f15 f16 f17 f18
    try simp only [ai,List.set,aC]
    refine bj ?_
    go_wp2_with fail
    go_loopw [98] (fun iv wr=>OpJ Z B Nn wc tc fo T4 (K3+1) bs iv wr) (fun iv _=>bs.length-(intOf iv).toNat)
    case atStart=>exact Ny.out
    case round=>
     clear Ny;obtain ⟨k,t,rfl,hk,eG,hst,qA,eD,hV,Te,zM,Jc,Tf⟩:=hrel;have Tg:t.db=db:=(hst.db.trans aoe.out.db).trans Hf0.out.1;by_cases hlt:k<bs.length
     ·obtain ⟨b,hb⟩:∃ b,bs[k]?=some b:=⟨bs[k],by simp [hlt]⟩
      obtain ⟨u,hu⟩:∃ u,vals[k]?=some u:=⟨vals[k]'(by rw [aax.out];exact hlt),by simp [aax.out,hlt]⟩
      have KW:∀ c,(((Value.slice ra vals.length rc).ownBlock=some c)∨∃ u∈vals,u.ownBlock=some c)→wr.heap[c]?=wb.heap[c]?:=fun c hc=>by
       obtain ⟨h1,h2,h3⟩:=Hkc.out c hc;exact (hst.sep.out c h2 h3).trans h1
      have hrow':=Ta.out.1.keep (fun c hc=>KW c (.inl hc));have hu':=(Ta.out.2.1 k u b hu hb).keep (fun c hc=>KW c (.inr ⟨u,dB hu,hc⟩));obtain ⟨gs,cap,lA,eT⟩:∃ gs cap,Value.slice ra vals.length rc= .slice (some ⟨gs,0,none⟩) vals.length cap∧gs<wr.heap.size:=by
       rcases id hrow' with ⟨_,h0⟩|⟨gs,cap,cur,h1,_,h2,_⟩
       ·rw [h0] at hu;cases hu
       ·exact ⟨gs,cap,h1,af h2⟩
      cases lA;have BZ:wr.cell? ⟨gs,k,none⟩=some u:=by have:=Go.Gl.Row1.cells hrow' rfl hu;simpa using this
      obtain ⟨ua,uc,hue⟩:=hu'.slice;have hpl:(dE (kx b)).length=(kx b).length:=jF _;rw [hpl] at hue;subst hue;have eV:=lC.out.1.lim.ES b (by rw [←Nx.out];exact dB hb);have Ng:=aBk (cI hu') eV.seq (by have:=eV.len;omega) (by have:=eV.bytes;omega);have eB:(k:Int)<(bs.length:Int):=by omega
      have bO:(0:Int)≤(k:Int):=by omega
      have dX:=Hb.out;have aog:=lC.out.1.lim.IJ;rw [←Nx.out] at aog;have fE:IntKind.i64.wrap ((k:Int)+1)=(k:Int)+1:=aS _ (by omega);obtain ⟨yh,hl2⟩:=alO (bs.take k) [];rw [←qA] at yh hl2;have cp:((bs.take k).map fun b=>b.2.length).sum≤A:=by rw [List.map_take];exact aM (Zv _ _) (by rw [Nx.out];exact lC.out.1.lim.ML)
      have hw2:((bs.take k).map fun b=>bA b.2).sum≤C:=by rw [List.map_take];exact aM (Zv _ _) (by rw [Nx.out];exact lC.out.1.lim.MM)
      have aoh:t.ns.length≤100000000:=by rw [bF] at hl2;simp only [iK] at hl2;omega
      have aoi:costs (t.ns.map (fun n=>n.x.e))≤100000000000:=by
       have h0:costs ([]:List En)=0:=rfl;rw [h0] at yh;generalize costs (t.ns.map (fun n=>n.x.e))=cc at*;omega
      have aFm:=aax.out;have aFn:=ae Ng;have zn:=ae eV;have Hw:=ae (ag aoh aoi);have nV:=ae eG;have bJ:=ae hst;have aaB:=ae (ag qA (ag eD (ag hV (ag Te (ag zM (ag Jc Tf))))));have Li:=ae hb;have qm:=ae hlt;have Th:=ae Tg;clear KW hrow' hu' hpl eV Ng dX aog yh hl2 cp hw2 aoh aoi eG hst qA eD hV Te zM Jc Tf hb hu hlt Tg aFm
      go_wp2_with fail
      (with_reducible refine aFn.out.mono ?_);rintro e w2 ⟨yv,ys,rfl,bQ,zB,hg2⟩;have yx:=nV.out.grow hg2;obtain ⟨ajH,gH⟩:=yx.mem;have aoj:=(zB.ws (M:=fun c=>wr.heap.size≤c) (fun c hc=>hc.elim (fun x=>x.elim) id)).lt;have dW:ys.length=b.2.length:=by rw [←bQ,bF]
      have hbl:=zn.out.len;have xA:=ajB yx.cell gH (fun hf=>(nV.out.ne.fm _ hf).2.1 rfl) (fun c hc=>⟨(yx.apart c hc).1,fun hf=>(yx.apart c hc).2 (.inr (.inl hf)),fun e=>(yx.apart c hc).2 (.inr (.inr (.inl e)))⟩) (fun c hc=>⟨hc.2,fun hf=>by have:=nV.out.lt (.inr (.inl hf));have:=hc.1;omega,fun e=>by have:=nV.out.lt (.inr (.inr (.inl e)));have:=hc.1;omega⟩) aoj (s:=b.1) zn.out.seq (by omega) (by rw [bQ];have:=zn.out.bytes;omega) Hw.out.1 Hw.out.2;rw [bQ] at xA;obtain ⟨ya,yc,rfl⟩:=oh.slice zB;have BM:=ae xA;have fA:=ae hg2;have hdq:=Th.out;rw [hdq] at BM;clear xA yx gH aoj dW hbl zB bQ hg2 hdq BZ eT
      go_wp2_with fail
      (with_reducible refine BM.out.mono ?_);rintro e w3 ⟨rfl,N',bN,Cj⟩;rw [←Th.out] at Cj;have qA:=Cj.pB;obtain ⟨vS,hs3⟩:=(nV.out.grow fA.out).laid Cj;obtain ⟨i1,i2,i3,i4,i5,i6,i7⟩:=aaB.out;have hrel:OpJ Z B Nn wc tc fo T4 (K3+1) bs (.int .i64 ((k:Int)+1)) w3:=by
       refine ⟨k+1,_,by simp,qm.out,vS,(bJ.out.grow fA.out).trans hs3,?_,?_,i3,i4,i5,i6,i7⟩
       ·rw [take_one Li.out,List.foldl_append,←i1]
        exact qA
       ·rw [take_one Li.out,dD,List.foldl_append,←i2]
        rfl
      have aX:=ae hrel;clear hrel vS hs3 qA Cj BM i1 i2 i3 i4 i5 i6 i7;go_wp2;go_roundw
      case rel=>exact aX.out
      case measure=>simp [intOf];have:=qm.out;omega
     ·obtain rfl:k=bs.length:=by omega
      rw [ij] at qA eD;have nV:=ae eG;have bJ:=ae hst;have aaB:=ae (ag qA (ag eD (ag hV (ag Te (ag zM (ag Jc Tf))))));have Th:=ae Tg;clear eG hst qA eD hV Te zM Jc Tf Tg;go_wp2;go_ret2;obtain ⟨i1,i2,i3,i4,i5,i6,i7⟩:=aaB.out;rw [Nx.out] at i1 i2;obtain ⟨q1,q2,q3,q4,q5,q6,q7⟩:=aFk.out;obtain ⟨f1,f2,f3',f4,f5,f6,f7,f8,f9,f10,f11,f12,f13,f14,f15,f16,f17,f18⟩:=Hf0.out;obtain ⟨hall,aLN,⟨l1,l2,l3,l4,l5,l6⟩,uo,Nw⟩:=aFi.out;have hs:=aoe.out.trans bJ.out;have sT:t.o=o:=hs.o.trans f9;have Nz:Told t.o.block.toNat A C i f3 K3 s:=by rw [sT];exact lC.out.1
      have eG:=nV.out;rw [lI.out] at eG;have iR:=Nz.opened Nw eG (i3.trans q3) i1 (by rw [i7,q7]) (fun x hx=>by rw [i4,q4];exact hall x hx) (by rw [sT];exact aEV.out) (by rw [i2,q2,uo];simp) (by omega);have ng:Rl B t0.r w wr:=Rl.stp (by rw [f3'];exact Hra.out) Ck.out hs f17 (by rw [f1];exact l1) (by rw [f5];exact l2) (by rw [f6];exact l3) (by rw [f4];exact l4) (by rw [f7];exact l5) (by rw [f8];exact l6) Hd0.out;refine ⟨t,_,T4,_,{s with LL:=jt s.LL},by rw [Th.out];rfl,iR,hs.p.trans f2,hs.r.trans f3',sT,hs.ds.trans f10,rfl,fun x=> ?_,?_,by rw [i5,q5],by rw [i6,q6],by rw [hs.tm,f7];exact l5,by rw [hs.hm,f8];exact l6,fun b hb=> ?_,by rw [f3'] at ng;exact ng,aM HT4.out lC.out.2.1⟩
      ·have jP:aN (jt s.LL)=aN s.LL:=by unfold aN;rw [amX]
       unfold eu;dsimp only;rw [jP]
      ·rw [i2,q2]
       unfold pE;rw [uo];simp
      ·rcases hs.new b hb with h1|h1
       ·exact HN0.out b h1
       ·have:=Hra.out.hold.size;omega
 have hx:∀ W,Grow w5 W→(W.cell? ⟨xb,0,none⟩=some (.int .i64 o.mem)∧W.cell? ⟨xb,1,none⟩=some (.int .i64 o.block)∧W.cell? ⟨xb,2,none⟩=some (.int .i64 o.zero)∧W.cell? ⟨xb,3,none⟩=some (.int .i64 o.base)∧W.cell? ⟨xb,4,none⟩=some (.int .i64 o.table)∧W.cell? ⟨xb,5,none⟩=some (.slice ca ds.length cc))∧xb<W.heap.size:=fun W hg=>xD (hg.heap HX.out)
 refine ⟨?_,?_,?_,?_,?_,?_,?_,?_,?_,?_,True.intro⟩
 ·intro listed a V hf ak aj
  have hs1:=hf.sz hsz;have hT:=hf.world;have G7:=hf.got (by decide) F7 (by rw [hs1];decide);refine aR rfl (by rfl) (fun K' hK'=> ?_);go_simp;exact hK' _ _ ⟨_,rfl,(fun _ _=>rfl),aV _,hT.next (by decide) (by decide) (aV _)⟩
 ·intro listed a V hf ak aj
  have hs1:=hf.sz hsz;have hT:=hf.world;have G3:=hf.got (by decide) F3 (by rw [hs1];decide);obtain ⟨⟨x0,x1,x2,x3,x4,x5⟩,lx⟩:=hx V hT.1;refine aR rfl (by rfl) (fun K' hK'=> ?_);go_simp;exact hK' _ _ ⟨_,rfl,(fun _ _=>rfl),aV _,hT.next (by decide) (by decide) (aV _)⟩
 ·intro listed a V hf ak aj
  have hs1:=hf.sz hsz;have hT:=hf.world;have G3:=hf.got (by decide) F3 (by rw [hs1];decide);obtain ⟨_,lx⟩:=hx V hT.1;refine aR rfl (by rfl) (fun K' hK'=> ?_);go_simp;exact hK' _ _ ⟨_,rfl,(fun _ _=>rfl),aV _,hT.next (by decide) (by decide) (aV _)⟩
 ·intro listed a V hf ak aj
  have hs1:=hf.sz hsz;have hT:=hf.world;have G41:=aO (hf.sv 2 41 rfl (aH aj 2 (by kernel_rfl)) fun _ _ h=>h) (by rw [hs1];decide);obtain ⟨⟨x0,x1,x2,x3,x4,x5⟩,lx⟩:=hx V hT.1;refine aR rfl (by rfl) (fun K' hK'=> ?_);go_simp;exact hK' _ _ ⟨_,rfl,(fun _ _=>rfl),aV _,hT.next (by decide) (by decide) (aV _)⟩
 ·intro listed a V hf ak aj
  have hs1:=hf.sz hsz;have hT:=hf.world;have G42:=aO (hf.sv 3 42 rfl (aH aj 3 (by kernel_rfl)) fun _ _ h=>h) (by rw [hs1];decide);refine jE rfl (by rfl) (by go_simp) (ahT (HIw.out.kp (.bT hT.1))) ?_;rintro e V2 ⟨mb,ha,dv,rfl,hM,hg,vt,IC,zB⟩;have zN:=hT.1.size;exact ⟨_,rfl,_,rfl,(fun _ _=>⟨mb,ha,dv,rfl,⟨_,hM⟩,zB.mono zN,aM zN vt,aM zN IC⟩),hg,hT.next (by decide) (by decide) hg⟩
 ·intro listed a V hf ak aj
  have hs1:=hf.sz hsz;have hT:=hf.world;have zN:=hT.1.size;refine aR rfl (by rfl) (fun K' hK'=> ?_);go_simp;refine hK' _ _ ⟨_,rfl,(fun _ _=>⟨V.heap.size,rfl,ajJ V encI,zN⟩),ar _ _,hT.1.trans (ar _ _),fun h5 h6=> ?_⟩;rw [getD_set_ne false (by decide)] at h6;obtain ⟨v6,s6,hm,q6,m6,l6⟩:=hf.slot 6 45 rfl h6;exact ⟨V.heap.size,hm,pK (by rw [hs1];decide),gi (by decide) (by rw [s6,q6]),by have:=m6.lt;omega⟩
 ·intro listed a V hf ak aj
  have hs1:=hf.sz hsz;have hT:=hf.world;have zN:=hT.1.size;refine aR rfl (by rfl) (fun K' hK'=> ?_);go_simp;refine hK' _ _ ⟨_,rfl,(fun _ _=>⟨V.heap.size,rfl,ajJ V vC,zN⟩),ar _ _,hT.1.trans (ar _ _),fun h5 h6=> ?_⟩;rw [getD_set_ne false (by decide)] at h5;obtain ⟨v6,s6,hm,q6,m6,l6⟩:=hf.slot 5 44 rfl h5;exact ⟨hm,V.heap.size,gi (by decide) (by rw [s6,q6]),pK (by rw [hs1];decide),by have:=m6.lt;omega⟩
 ·intro listed a V hf ak aj
  have hs1:=hf.sz hsz;have hT:=hf.world;obtain ⟨v0,s0,q0⟩:=hf.slot 0 39 rfl (aH aj 0 (by kernel_rfl));have WO:v0=_:=q0;subst WO;obtain ⟨v1,s1,q1⟩:=hf.slot 1 40 rfl (aH aj 1 (by kernel_rfl));have Br:v1=_:=q1;subst Br;obtain ⟨v4,s4,mb,ha,dv,q4,m4,mr,SI,SJ⟩:=hf.slot 4 43 rfl (aH aj 4 (by kernel_rfl));subst q4;obtain ⟨v5,s5,tm,q5,m5,IX⟩:=hf.slot 5 44 rfl (aH aj 5 (by kernel_rfl));subst q5;obtain ⟨v6,s6,hm,q6,m6,IY⟩:=hf.slot 6 45 rfl (aH aj 6 (by kernel_rfl));subst q6;obtain ⟨tm',Sn,e1,e2,hne⟩:=hT.2 (aH aj 5 (by kernel_rfl)) (aH aj 6 (by kernel_rfl));rw [s5] at e1;cases e1;rw [s6] at e2;cases e2;have G39:=aO s0 (by rw [hs1];decide);have G40:=aO s1 (by rw [hs1];decide);have G43:=aO s4 (by rw [hs1];decide);have G44:=aO s5 (by rw [hs1];decide);have G45:=aO s6 (by rw [hs1];decide);have hop:EZ w5 V ds mb ha tm hm dv:=⟨m4,mr,SI,SJ,m5,IX,m6,IY,hne⟩
  clear m4 m5 m6 mr;refine aR rfl (by rfl) (fun K' hK'=> ?_);go_simp;exact hK' _ _ ⟨_,rfl,(fun _ _=>⟨mb,ha,tm,hm,dv,rfl,hop⟩),aV _,hT.next (by decide) (by decide) (aV _)⟩
 ·intro listed a V hf ak aj
  have hs1:=hf.sz hsz;have hT:=hf.world;obtain ⟨v7,s7,mb,ha,tm,hm,dv,q7,hop⟩:=hf.slot 7 46 rfl (aH aj 7 (by kernel_rfl));subst q7;have G46:=aO s7 (by rw [hs1];decide);have zN:=hT.1.size;have ah:=ar V (.cells (ru sb o (.slice ca ds.length cc) (.pointer none) mb tm 0 hm) 93);have dJ:=ax V (.cells (ru sb o (.slice ca ds.length cc) (.pointer none) mb tm 0 hm) 93);refine aR rfl (by rfl) (fun K' hK'=> ?_);go_simp;exact hK' _ _ ⟨_,rfl,(fun _ _=>⟨V.heap.size,mb,ha,tm,hm,dv,rfl,zN,dJ,hop.grow ah⟩),ah,hT.next (by decide) (by decide) ah⟩
 ·intro listed a V hf ak aj
  have hs1:=hf.sz hsz;have hT:=hf.world;obtain ⟨v8,s8,db,mb,ha,tm,hm,dv,q8,h1,h2,h3⟩:=hf.slot 8 47 rfl (aH aj 8 (by kernel_rfl));subst q8;have G47:=aO s8 (by rw [hs1];decide);refine aR rfl (by rfl) (fun K' hK'=> ?_);go_simp;exact hK' _ _ ⟨_,rfl,(fun _ _=>⟨db,mb,ha,tm,hm,dv,rfl,h1,h2,h3⟩),aV _,hT.next (by decide) (by decide) (aV _)⟩
end
section
theorem aFo (a b:Option En):zE a b=tM a b:=by
 cases b with
 |none=>cases a<;>rfl
 |some x=>cases a<;>rfl
theorem aFp (key:ByteArray) (up:Nat) (ls:List (List En)):EJ key up ls=fT key up ls.flatten:=by
 induction ls using ahm with
 |h0=>rfl
 |h1 ls l ih=>rw [akQ,ih,aFo,List.flatten_append,axZ];simp
variable {Z B Nn A C i:Nat} {w:World} {t:Tr} {f:Lk} {T K:Nat} {s:eP}
theorem aFq (h:eJ Z B Nn A C i w t f T K s) (hA:A≤100000) (key:ByteArray) {up:Nat} (BR:up<18446744073709551616):Calls Tryz.prog 16 #[.pointer (some ⟨t.db,0,none⟩),.string key,.int .u64 (up:Int)] w (Mt w (fT key up (eu s))):=by
 obtain ⟨aU,hm⟩:=h.tree.mem;have hV:=h.V;have aLP:=fun x (hx:x∈s.V.tabs)=>h.told.table hx
 have hlen:s.V.tabs.length≤100000:=by
  have h1:s.V.tabs.length≤(s.V.tabs.map fun x=>(s.ay x.file).length).sum:=by
   have hp:∀ l:List Tb,(∀ x∈l,s.ay x.file≠ [])→l.length≤(l.map fun x=>(s.ay x.file).length).sum:=by
    intro l
    induction l with
    |nil=>intro _;exact aw _
    |cons x l ih=>
     intro hl;have h2:=List.length_pos_iff.2 (hl x (dR ..));have h3:=ih (fun y hy=>hl y (fk _ hy));simp only [dH,cg,List.sum_cons];omega
   exact hp _ (fun x hx=>(h.gM.ay x hx).1)
  have:=h.lim.pB;omega
 have hown:=h.tree.own;have cM:=h.tree.set;rw [hV] at hown cM;have hat:=aDf h.tree.cell cM hown hlen h.tree.tabs (tbs:=s.V.tabs.map fun x=>((t.ld x.file).map Prod.fst).getD 0) (by rw [bF]) (fun i x b hx hb=>by
   rw [gZ,hx] at hb;obtain ⟨b',hb'⟩:=h.ld x (dB hx);rw [Option.map_some,hb'] at hb;cases hb;exact (h.tree.load _ _ _ hb').1) hm (fun b hb=>(h.tree.apart b hb).1) (fun n hn=>by
   have h1:n.x.e∈aN s.LL:=by rw [←h.mem];exact aZ.2 ⟨n,hn,rfl⟩
   have:=(h.Cg.ok _ h1).val;omega) (lss:=s.V.tabs.map fun x=>s.ay x.file) (by rw [bF,bF]) (fun i b l hb hl=>by
   rw [gZ] at hb hl;cases hx:s.V.tabs[i]? with
   |none=>rw [hx] at hb;cases hb
   |some x=>
    rw [hx] at hb hl;obtain ⟨b',hb'⟩:=h.ld x (dB hx);rw [Option.map_some,hb'] at hb;cases hb;cases hl;exact (h.tree.load _ _ _ hb').2) key BR
 rw [aFp,List.flatten_cons,h.mem] at hat;exact hat
theorem aol (h:eJ Z B Nn A C i w t f T K s) (hA:A≤100000) (key:ByteArray):Calls Tryz.prog 15 #[.pointer (some ⟨t.db,0,none⟩),.string key] w (Mt w (fT key 18446744073709551615 (eu s))):=
 aDj (aFq h hA key (by decide))
theorem aom (h:eJ Z B Nn A C i w t f T K s):Calls Tryz.prog 27 #[.pointer (some ⟨t.db,0,none⟩)] w fun e w'=>e= .returned (.int .u64 (t.seq:Int))∧w'=w:=aBv h.tree.cell
theorem aFr {size:Nat} {l:List En} (hne:l≠ []) (_hlen:l.length≤1000000) (_htot:(bh l).length+30*l.length≤50000000):(gX size l).length≤3*(bh l).length+100*l.length+1000:=by
 have h1:=GV (eN size [] l);have h2:=LI size l [];have h3:=KQ size l [] hne;have h5:=YJ (eN size [] l) 0 (KR size l []);rw [iq] at h3;rw [h3] at h1 h5;have h4:=Lg l;have h6:=GK l l.length;have h7:gV l≤8+(10*l.length+7) / 8:=by unfold gV;omega
 have h8:=my aq (jI 0 (eN size [] l));have h9:=my aq (dV l);have h10:=cB (jI 0 (eN size [] l)).length;have h11:=cB (dV l).length;unfold gX gS ek;simp only [aJ,PU,mq];omega
theorem aFs {D m:Nat} (hV:s.V=dh) (hk:(Op.bytesLess k0.toList k1.toList||k0.toList==k1.toList)=true) (hD:D≤300000000) (hm:m≤1000000):(bz s.V (bX s seq D k0 k1 m)).1=0:=by
 rw [hV];have e1:(bX s seq D k0 k1 m)=⟨[⟨0,0,k0,k1,(D:Int)⟩],[],(seq:Int),1,(m:Int)⟩:=by unfold bX;rw [hV];rfl
 rw [e1];have a1:rL [] ⟨0,0,k0,k1,(D:Int)⟩=false:=by
  unfold rL;rw [hk];have d1:decide ((D:Int)<0)=false:=by simp
  have d2:decide (1099511627776<(D:Int))=false:=by simp;omega
  rw [d1,d2];rfl
 unfold bz;have hs:kf [(⟨0,0,k0,k1,(D:Int)⟩:Tb)]= [⟨0,0,k0,k1,(D:Int)⟩]:=by
  have hp:=Ak [(⟨0,0,k0,k1,(D:Int)⟩:Tb)];exact List.perm_singleton.1 hp
 have hn:rM dh ⟨[⟨0,0,k0,k1,(D:Int)⟩],[],(seq:Int),1,(m:Int)⟩=false:=by
  unfold rM dh;have d1:decide ((seq:Int)<0)=false:=by simp
  have d2:decide ((m:Int)<0)=false:=by simp
  have d3:decide (1099511627776<(m:Int))=false:=by simp;omega
  simp only [d1,d2,d3];simp
 rw [if_neg (show ¬ rK dh.tabs [] []=true by decide)];have ha:lN (dh.tabs.filter (iD [])) [⟨0,0,k0,k1,(D:Int)⟩]=some [⟨0,0,k0,k1,(D:Int)⟩]:=by
  show lN [] _=_;unfold lN;rw [a1];rfl
 simp only [ha,hs];rw [if_neg (by simp),if_neg (by simp [lM]),if_neg (by rw [hn];exact Bool.false_ne_true)]
theorem aFt {l:List En} (h:cn l) (h0:l[0]?.map En.key=some k0) (h1:l[l.length-1]?.map En.key=some k1):(Op.bytesLess k0.toList k1.toList||k0.toList==k1.toList)=true:=by
 cases l with
 |nil=>simp at h0
 |cons a l=>
  simp only [List.getElem?_cons_zero,Option.map_some,Option.some.injEq] at h0;subst h0;by_cases hl:l= []
  ·subst hl
   simp at h1;subst h1;simp
  ·obtain ⟨b,hb⟩:∃ b,(a::l)[(a::l).length-1]?=some b:=⟨_,dZ (by simp)⟩
   rw [hb] at h1;simp only [Option.map_some,Option.some.injEq] at h1;subst h1;have hbl:b∈l:=by
    have hp:=List.length_pos_iff.2 hl;rw [dH,Nat.add_sub_cancel] at hb;obtain ⟨n,hn⟩:∃ n,l.length=n+1:=⟨l.length-1,by omega⟩
    rw [hn,List.getElem?_cons_succ] at hb;exact dB hb
   have hlt:=(tK.1 h).1 b hbl;rcases hlt with h2|⟨h2,_⟩
   ·have h3:ke a.key b.key<0:=(OA _ _).2 (by rw [jd,jd];exact h2)
    have h4:Op.bytesLess a.key.toList b.key.toList=true:=by
     unfold ke at h3
     split at h3
     ·assumption
     ·split at h3<;>omega
    rw [h4];rfl
   ·rw [h2];simp
end
abbrev NA:Od:=⟨100,40,2,200,80⟩
theorem aon:qy NA:=by decide
theorem aoo (w:World):Calls Tryz.prog 36 #[] w fun e w'=>∃ dv,e= .returned (xC NA dv)∧Go.Gl.Row1 3 w.heap.size w' dv ([3,1].map (fun x=>Value.int .i64 x))∧Grow w w':=by
 have ah:=ar w (.cells #[.int .i64 0,.int .i64 0,.int .i64 0,.int .i64 0,.int .i64 0,.slice none 0 0] 26);have hb:=ax w (.cells #[.int .i64 0,.int .i64 0,.int .i64 0,.int .i64 0,.int .i64 0,.slice none 0 0] 26);have hbi:=agF;go_enter Tryz.func36,Tryz.ntmps36
 go_upto_region 1 with fail
 generalize w.alloc (.cells #[.int .i64 0,.int .i64 0,.int .i64 0,.int .i64 0,.int .i64 0,.slice none 0 0] 26)=w1 at*;obtain ⟨xb,il⟩:∃ xb,xb=w.heap.size:=⟨_,rfl⟩
 rw [←il] at hb ⊢;have yY:=ae il;clear il;have hgb:=ar w1 (.cells #[.int .i64 3,.int .i64 1] 3);have dJ:=ax w1 (.cells #[.int .i64 3,.int .i64 1] 3);have hb2:=hgb.heap hb;have hf2:=bG hb2;have hc2:∀ j v,(#[Value.int .i64 0,.int .i64 0,.int .i64 0,.int .i64 0,.int .i64 0,.slice none 0 0]:Array Value)[j]?=some v→(w1.alloc (.cells #[.int .i64 3,.int .i64 1] 3)).cell? ⟨xb,j,none⟩=some v:=fun j v h=>by simp [World.cell?,hb2,h]
 have c0:=hc2 0 _ rfl;have c1:=hc2 1 _ rfl;have c2:=hc2 2 _ rfl;have c3:=hc2 3 _ rfl;have c4:=hc2 4 _ rfl;have c5:=hc2 5 _ rfl;have lx:=af hb2;have hst:=Go.Gl.aK (Go.Gl.aK (Go.Gl.aK (Go.Gl.aK (Go.Gl.aK (Go.Gl.aK hb2 0 (.int .i64 100)) 1 (.int .i64 40)) 2 (.int .i64 2)) 3 (.int .i64 200)) 4 (.int .i64 80)) 5 (.slice (some ⟨w1.heap.size,0,none⟩) 2 2);have hle:w.heap.size≤xb:=Nat.le_of_eq yY.out.symm;have hgr:Grow w (((((((w1.alloc (.cells #[.int .i64 3,.int .i64 1] 3)).setCell ⟨xb,0,none⟩ (.int .i64 100)).setCell ⟨xb,1,none⟩ (.int .i64 40)).setCell ⟨xb,2,none⟩ (.int .i64 2)).setCell ⟨xb,3,none⟩ (.int .i64 200)).setCell ⟨xb,4,none⟩ (.int .i64 80)).setCell ⟨xb,5,none⟩ (.slice (some ⟨w1.heap.size,0,none⟩) 2 2)):=((((((ah.trans hgb).setCell (p:=⟨xb,0,none⟩) hle _).setCell (p:=⟨xb,1,none⟩) hle _).setCell (p:=⟨xb,2,none⟩) hle _).setCell (p:=⟨xb,3,none⟩) hle _).setCell (p:=⟨xb,4,none⟩) hle _).setCell (p:=⟨xb,5,none⟩) hle _;have ie:w1.heap.size≠xb:=by have:=af hb;omega
 have hrow:∀ W:World,W.heap[w1.heap.size]?=some (.cells #[.int .i64 3,.int .i64 1] 3 (0,0))→Go.Gl.Row1 3 w.heap.size W (.slice (some ⟨w1.heap.size,0,none⟩) 2 2) ([3,1].map (fun x=>Value.int .i64 x)):=fun W h=> .inr ⟨w1.heap.size,2,_,rfl,ah.size,h,by simp,aw _,by simp [maxLen],rfl⟩
 have hr2:=hrow (((((((w1.alloc (.cells #[.int .i64 3,.int .i64 1] 3)).setCell ⟨xb,0,none⟩ (.int .i64 100)).setCell ⟨xb,1,none⟩ (.int .i64 40)).setCell ⟨xb,2,none⟩ (.int .i64 2)).setCell ⟨xb,3,none⟩ (.int .i64 200)).setCell ⟨xb,4,none⟩ (.int .i64 80)).setCell ⟨xb,5,none⟩ (.slice (some ⟨w1.heap.size,0,none⟩) 2 2)) (by
  rw [aP _ _ _ _ ie,aP _ _ _ _ ie,aP _ _ _ _ ie,aP _ _ _ _ ie,aP _ _ _ _ ie,aP _ _ _ _ ie];exact dJ)
 have bw:=ae (ag hst (ag hgr hr2));clear hc2 hst hgr hrow hr2 hb2 dJ hgb ah hb;go_wp2;have hx:=bw.out.1;have z:∀ j v,(#[Value.int .i64 100,.int .i64 40,.int .i64 2,.int .i64 200,.int .i64 80,.slice (some ⟨w1.heap.size,0,none⟩) 2 2]:Array Value)[j]?=some v→(((((((w1.alloc (.cells #[.int .i64 3,.int .i64 1] 3)).setCell ⟨xb,0,none⟩ (.int .i64 100)).setCell ⟨xb,1,none⟩ (.int .i64 40)).setCell ⟨xb,2,none⟩ (.int .i64 2)).setCell ⟨xb,3,none⟩ (.int .i64 200)).setCell ⟨xb,4,none⟩ (.int .i64 80)).setCell ⟨xb,5,none⟩ (.slice (some ⟨w1.heap.size,0,none⟩) 2 2)).cell? ⟨xb,j,none⟩=some v:=fun j v h=>by
  simp only [World.cell?,hx];exact h
 have z0:=z 0 _ rfl;have z1:=z 1 _ rfl;have z2:=z 2 _ rfl;have z3:=z 3 _ rfl;have z4:=z 4 _ rfl;have z5:=z 5 _ rfl;refine bodyPost_ret (v:=xC NA (.slice (some ⟨w1.heap.size,0,none⟩) 2 2)) (by simp [results,Tryz.results36,go_sem,z0,z1,z2,z3,z4,z5]) rfl ?_;exact ⟨_,rfl,bw.out.2.2,bw.out.2.1⟩
theorem dm.below {t t':Tr} {f:Lk} (h:dm Z B Nn w t f T K) (hs:fD w t w' t'):Below B w w':=
 hs.sep.below (fun b hb=>h.base b hb) h.bg.base
abbrev Ti (x:UInt8) (W:World):World:=(W.alloc (.cells #[.int .u8 x.toNat] 5)).freeze ⟨W.heap.size,1,none⟩ 1
theorem aFu (x:UInt8) (W:World):(convert 49 49 (.slice (some ⟨W.heap.size,0,none⟩) 1 1)).run Tryz.prog (W.alloc (.cells #[.int .u8 x.toNat] 5))= .ok (.slice (some ⟨W.heap.size,0,none⟩) 1 1) (Ti x W):=by
 have tA:(W.alloc (.cells #[.int .u8 x.toNat] 5)).shape? W.heap.size=some (5,1):=by
  have hB:=ax W (.cells #[.int .u8 x.toNat] 5);unfold World.shape?;rw [hB];rfl
 simp [convert,go_sem,markStringish,tA]
theorem aFv (x:UInt8) (W:World):Grow W (Ti x W):=Lib.below_freeze (ar _ _) (p:=⟨W.heap.size,1,none⟩) (aw _) 1
theorem aFw (x:UInt8) (W:World):(Ti x W).heap[W.heap.size]?=some (.cells #[.int .u8 x.toNat] 5 (1,2)):=by
 simp [Ti,World.freeze,World.alloc,-World.alloc_eq,Array.getElem_modify]
theorem aop {x:UInt8} (h:W.heap[b]?=some (.cells #[.int .u8 x.toNat] 5 f)):Bv W (.slice (some ⟨b,0,none⟩) 1 1) [x]:=by
 refine ⟨_,1,rfl,aw _,by unfold maxLen;omega,(fun h=>by cases h),.inr ⟨b,0,rfl,af h,fun j k hk=> ?_⟩⟩
 match j,hk with
 |0,hk=>cases hk;simp [World.cell?,h]
 |j+1,hk=>cases hk
theorem aoq (x:UInt8) (W:World):∃ wa,(convert 49 49 (.slice (some ⟨W.heap.size,0,none⟩) 1 1)).run Tryz.prog (W.alloc (.cells #[.int .u8 x.toNat] 5))= .ok (.slice (some ⟨W.heap.size,0,none⟩) 1 1) wa∧Grow W wa∧wa.heap[W.heap.size]?=some (.cells #[.int .u8 x.toNat] 5 (1,2)):=
 ⟨_,aFu x W,aFv x W,aFw x W⟩
theorem aor {B r:Nat} {w W:World} {ds:List Int} (h:Go.Gl.Row1 3 A w v (ds.map (fun x=> .int .i64 x))) (hr:Rl B r w W) (hd:ds.length≤1000000000):Iw (fun _=>True) W v ds:=
 Lb (h.keep (fun b hb=>by
  obtain ⟨cur,hc⟩:=h.block hb;rw [hc];exact hr.hold.keep b _ _ _ hc (by unfold CY;decide))) hd (fun _ _=>trivial)
theorem aFx (w:World) (a b:ByteArray) (g h:Bool) (x y:Option Addr) (m n c d:Nat):(Instr.buildSlice 27 2 #[(0,.agg #[.string a,.bool g,.slice x m c]),(1,.agg #[.string b,.bool h,.slice y n d])]).run Tryz.prog w= .ok (.slice (some ⟨w.heap.size,0,none⟩) 2 2) (w.alloc (.cells #[.string a,.bool g,.slice x m c,.string b,.bool h,.slice y n d] 51)):=by kernel_rfl
abbrev xP:List Wr:= [⟨⟨#[97]⟩,false,[120]⟩,⟨⟨#[98]⟩,false,[121]⟩]
abbrev wsB:List Wr:= [⟨⟨#[97]⟩,true,[]⟩]
theorem aos (s:Nat) (ws:List Wr):(bB aq (kM s ws)).length≤40+30*ws.length+bA ws:=by
 have h1:=XQ s ws;have h2:=my aq (kM s ws);have h3:=cB (kM s ws).length;omega
theorem ZK.done {t:Tr} {s:eP} {ws:List Wr} {e:Ending} (h:ZK Z B Nn A C i w t T s ws e w') (hne:ws≠ []) (hl:¬ mU ws) (hr:T+(40+30*ws.length+bA ws)≤Z):
  ∃ (t':Tr) (f':Lk) (T' K':Nat) (s':eP),e= .returned (.tuple #[.int .u64 ((t.seq+1:Nat):Int),.int .i64 0])∧fD w t w' t'∧eJ Z B Nn (A+ws.length) (C+16*ws.length+bA ws) (i+2) w' t' f' T' K' s'∧t'.hh=t.hh∧t'.hn=t.hn∧s'.V.tabs.length≤s.V.tabs.length+1∧t'.seq=t.seq+1∧
   (∀ x,x∈eu s'↔(∃ y,pg x.key ws=some y∧x=jD (t.seq+1) y)∨x∈eu s)∧((costs (gA (t.seq+1) ws (aN s.LL)):Int)≤t.o.mem→s'.V=s.V∧aN s'.LL=gA (t.seq+1) ws (aN s.LL)∧T'=T+(bB aq (kM (t.seq+1) ws)).length)∧
   T'≤T+(bB aq (kM (t.seq+1) ws)).length+(gX t.o.block.toNat (gA (t.seq+1) ws (aN s.LL))).length+(2*costs (gA (t.seq+1) ws (aN s.LL))+200)∧(aN s'.LL= []∨T'=T+(bB aq (kM (t.seq+1) ws)).length∧aN s'.LL=gA (t.seq+1) ws (aN s.LL)):=by
 obtain ⟨c,n,t',f',T',K',s',rfl,h1,h2,h3,h4,h5,h6⟩:=h;have hf:=aos (t.seq+1) ws;rcases h6 with ⟨h7|h7|h7,_⟩|⟨_,_,rfl,rfl,h7,h8,h9,h10,h11⟩
 ·exact absurd h7.1 hne
 ·exact absurd h7.2.1 hl
 ·omega
 ·exact ⟨t',f',T',K',s',rfl,h1,h2,h3,h4,h5,h7,h8,h10,h9,h11⟩
theorem aFy {s:eP} (h:∀ x,x∈eu s↔x∈eu Cl):aN s.LL= []:=by
 refine List.eq_nil_iff_forall_not_mem.2 fun x hx=> ?_
 have h1:=(h x).1 (jw _ hx);rw [show eu Cl= [] from rfl] at h1;cases h1
theorem aFz (w:World):Calls Tryz.prog 10 #[] w fun e w'=>e= .returned (.bool true)∧Grow w w':=by
 have fP:Calls Tryz.prog 20 #[.int .i64 1048576] w _:=alE 1048576 w (by decide) (by decide);have kr:=ae fP;clear fP;go_enter Tryz.func10,Tryz.ntmps10
 go_wp2_with fail
 (with_reducible refine kr.out.mono ?_);rintro e w1 ⟨rfl,⟨F,hd⟩,hg1⟩;obtain ⟨B,hB⟩:∃ B,B=w.heap.size:=⟨_,rfl⟩
 rw [←hB] at hd ⊢;have iO:dn 100 B w1:=Uu B w1;have Hsm:=ae (aoo w1);have HB:=ae hB;have NB:=ae hd;have Hn1:=ae iO;have eC:=ae hg1;clear hd hg1 hB iO kr
 go_wp2_with fail
 (with_reducible refine Hsm.out.mono ?_);rintro e w2 ⟨dv,rfl,hrow,hg2⟩;have hop:=aaf (Z:=1048576) (B:=B) (Nn:=100) (A:=0) (C:=0) (i:=1) (s:=Cl) (Tb:=0+6) (NB.out.grow hg2) (Hn1.out.grow hg2 NB.out.base) (fun W hr=>aor hrow hr (by decide)) aon (fun W hg=>amT _ ((NB.out.grow hg2).grow hg) ((Hn1.out.grow hg2 NB.out.base).grow hg (NB.out.grow hg2).base) (by decide) (by decide) (by decide)) (by decide) (by decide) (by decide) (by decide) (by decide);have Hop:=ae hop;have fA:=ae (eC.out.trans hg2);clear hop hrow hg2 Hsm
 go_wp2_with fail
 (with_reducible refine Hop.out.mono ?_);rintro e w3 ⟨t1,f1,T1,K1,s1,rfl,h1,sr,hr1,oB,jR,hV1,ha1,hs1,zM,Jc,IX,IY,Dz,zO,rC⟩;have H1:=ae (ag h1 (ag sr (ag oB (ag hV1 (ag ha1 (ag hs1 (ag zO rC)))))));have hw2:=aFx;obtain ⟨wa,hv1,ah,wM⟩:∃ wa,(convert 49 49 (.slice (some ⟨w3.heap.size,0,none⟩) 1 1)).run Tryz.prog (w3.alloc (.cells #[.int .u8 120] 5))= .ok (.slice (some ⟨w3.heap.size,0,none⟩) 1 1) wa∧Grow w3 wa∧wa.heap[w3.heap.size]?=some (.cells #[.int .u8 (120:UInt8).toNat] 5 (1,2)):=aoq 120 w3
 obtain ⟨wb,hv2,hgb,dX⟩:∃ wb,(convert 49 49 (.slice (some ⟨wa.heap.size,0,none⟩) 1 1)).run Tryz.prog (wa.alloc (.cells #[.int .u8 121] 5))= .ok (.slice (some ⟨wa.heap.size,0,none⟩) 1 1) wb∧Grow wa wb∧wb.heap[wa.heap.size]?=some (.cells #[.int .u8 (121:UInt8).toNat] 5 (1,2)):=aoq 121 wa
 have ui:=ar wb (.cells #[.string ⟨#[97]⟩,.bool false,.slice (some ⟨w3.heap.size,0,none⟩) 1 1,.string ⟨#[98]⟩,.bool false,.slice (some ⟨wa.heap.size,0,none⟩) 1 1] 51);have rN:=ax wb (.cells #[.string ⟨#[97]⟩,.bool false,.slice (some ⟨w3.heap.size,0,none⟩) 1 1,.string ⟨#[98]⟩,.bool false,.slice (some ⟨wa.heap.size,0,none⟩) 1 1] 51);have aaE:=(hgb.trans ui).heap wM;have aaF:=ui.heap dX;have aaG:=(ah.trans hgb).trans ui;have key:∀ (j:Nat) (v:Value),(#[Value.string ⟨#[97]⟩,.bool false,.slice (some ⟨w3.heap.size,0,none⟩) 1 1,.string ⟨#[98]⟩,.bool false,.slice (some ⟨wa.heap.size,0,none⟩) 1 1]:Array Value)[j]?=some v→(wb.alloc (.cells #[.string ⟨#[97]⟩,.bool false,.slice (some ⟨w3.heap.size,0,none⟩) 1 1,.string ⟨#[98]⟩,.bool false,.slice (some ⟨wa.heap.size,0,none⟩) 1 1] 51)).cell? ⟨wb.heap.size,j,none⟩=some v:=fun j v h=>by
  simp only [World.cell?,rN];exact h
 have vP:Hid (Ws (fun b=>w3.heap.size≤b∧b<(wb.alloc (.cells #[.string ⟨#[97]⟩,.bool false,.slice (some ⟨w3.heap.size,0,none⟩) 1 1,.string ⟨#[98]⟩,.bool false,.slice (some ⟨wa.heap.size,0,none⟩) 1 1] 51)).heap.size) (wb.alloc (.cells #[.string ⟨#[97]⟩,.bool false,.slice (some ⟨w3.heap.size,0,none⟩) 1 1,.string ⟨#[98]⟩,.bool false,.slice (some ⟨wa.heap.size,0,none⟩) 1 1] 51)) (.slice (some ⟨wb.heap.size,0,none⟩) 2 2) [⟨⟨⟨#[97]⟩,false,[120]⟩,.slice (some ⟨w3.heap.size,0,none⟩) 1 1⟩,⟨⟨⟨#[98]⟩,false,[121]⟩,.slice (some ⟨wa.heap.size,0,none⟩) 1 1⟩]):=ae (by
  refine ⟨⟨_,2,rfl,aw _,by unfold maxLen;omega,(fun h=>by cases h),.inr ⟨wb.heap.size,0,rfl,⟨aM ah.size hgb.size,by simp⟩,by simp,fun i x hx c u hu=> ?_⟩⟩,fun x hx=> ?_⟩
  ·match i,hx with
   |0,hx=>
    cases hx
    match c,hu with
    |0,hu=>cases hu;exact key 0 _ rfl
    |1,hu=>cases hu;exact key 1 _ rfl
    |2,hu=>cases hu;exact key 2 _ rfl
    |c+3,hu=>simp [gW] at hu
   |1,hx=>
    cases hx
    match c,hu with
    |0,hu=>cases hu;exact key 3 _ rfl
    |1,hu=>cases hu;exact key 4 _ rfl
    |2,hu=>cases hu;exact key 5 _ rfl
    |c+3,hu=>simp [gW] at hu
   |i+2,hx=>simp at hx
  ·rcases bE.1 hx with rfl|hx
   ·exact ⟨aop (x:=120) aaE,.inr (fun b hb=>by cases hb;exact ⟨aw _,af aaE⟩)⟩
   ·rw [cY.1 hx]
    exact ⟨aop (x:=121) aaF,.inr (fun b hb=>by cases hb;exact ⟨ah.size,af aaF⟩)⟩)
 have hap:=ZM (h1.grow aaG) (fun b hb=>⟨hb.2,fun hf=>by have:=h1.tree.lt hf;have:=hb.1;omega⟩) vP.out (ws:=xP) rfl (by simp) (by decide) (by decide) (by decide) (by decide) (by decide) (by rw [hV1];decide);have gh:=ae hap;have aov:=ae aaG;clear h1 sr hr1 oB jR hV1 ha1 hs1 zM Jc IX IY Dz zO rC Hop hap aaG aaE aaF rN ui dX hgb wM ah vP key
 go_wp2_with fail
 (with_reducible refine gh.out.mono ?_);rintro e w4 hp;obtain ⟨h1,sr,oB,hV1,ha1,hs1,zO,rC⟩:=H1.out;obtain ⟨t2,f2,T2,K2,s2,rfl,sL,h2,_,_,aFA,Jd,NC,hV2,_,_⟩:=hp.done (by decide) (by decide) (by have:bA xP=4:=rfl;simp only [dH,iK];omega);have gC:=aFy ha1;have pM:t1.seq+1=1:=by rw [show t1.seq=0 from hs1]
 rw [pM,gC] at hV2;rw [pM] at Jd NC;have BB:=Rh 1 [] xP;have e4:bA xP=4:=rfl;have e2:xP.length=2:=rfl;have e0:costs ([]:List En)=0:=rfl;have e00:([]:List En).length=0:=rfl;rw [e4,e2,e0,e00] at BB;obtain ⟨Tj,gH,Cy⟩:=hV2 (by rw [oB];show _≤(100:Int);omega);rw [hV1] at Tj;have eY:=aos 1 xP;have aox:=alU h2 (by decide) (by decide) (by decide) (by decide) (by rw [Tj];decide);have H2:=ae (ag h2 (ag sL (ag Jd (ag NC (ag Tj (ag gH (ag Cy (ag BB eY))))))));have qC:=ae aox;have aoy:t1.seq+1=1:=pM;rw [aoy];have aaH:t2.db=t1.db:=sL.db;rw [aaH] at qC;have aLQ:=ae aaH;clear h1 sr oB hV1 ha1 hs1 zO rC h2 sL Jd NC hV2 Tj gH Cy BB eY aox gC pM e4 e2 e0 e00 aFA hp gh aoy aaH
 go_wp2_with fail
 (with_reducible refine qC.out.mono ?_);rintro e w5 ⟨c3,t3,f3,T3,K3,s3,rfl,aoz,h3,ND,NG,_,_,aaI,hc3,Cb,_⟩;obtain ⟨h2,sL,Jd,NC,hV2,gH,Cy,BB,eY⟩:=H2.out;obtain ⟨h1,sr,oB,hV1,ha1,hs1,zO,rC⟩:=H1.out;have hwA:bA xP=4:=rfl;have rV:xP.length=2:=rfl;have fY:t2.o=NA:=sL.o.trans oB;have Ci:aN s2.LL≠ []:=by
  rw [gH];intro e;have:=(ahn (l:= []) cn.nil (e:=jD 1 ⟨⟨#[97]⟩,false,[120]⟩) (s:=1) xP).2 (.inl ⟨⟨⟨#[97]⟩,false,[120]⟩,by simp [pg,jD],rfl⟩);rw [e] at this;cases this
 have aFB:(gX t2.o.block.toNat (aN s2.LL)).length≤2000:=by
  have h9:=Sp (aN s2.LL);rw [gH] at h9;have h8:=aFr (size:=t2.o.block.toNat) Ci (by rw [gH];omega) (by rw [gH];omega);rw [gH] at h8 ⊢;omega
 have aFC:costs (aN s2.LL)≤36:=by rw [gH];omega
 rw [hwA,rV] at eY;have hc0:c3=0:=by
  rcases hc3 with h9|⟨_,h9|⟨k0,k1,e1,e2,e3⟩⟩
  ·exact h9
  ·omega
  ·exact absurd (aFs hV2 (aFt h2.Cg.ord e1 e2) (by omega) (by have:=h2.m;have h8:=h2.lim.wal;omega)) e3
 subst hc0;have aoC:t3.seq+1=2:=by rw [NG,Jd]
 have aoD:T3≤310000:=by omega
 have Fj:fD (wb.alloc (.cells #[.string ⟨#[97]⟩,.bool false,.slice (some ⟨w3.heap.size,0,none⟩) 1 1,.string ⟨#[98]⟩,.bool false,.slice (some ⟨wa.heap.size,0,none⟩) 1 1] 51)) t1 w5 t3:=sL.trans aoz;have xn:=ar w5 (.cells #[.string ⟨#[97]⟩,.bool true,.slice none 0 0] 51);have aoE:=ax w5 (.cells #[.string ⟨#[97]⟩,.bool true,.slice none 0 0] 51);have Tk:∀ (j:Nat) (v:Value),(#[Value.string ⟨#[97]⟩,.bool true,.slice none 0 0]:Array Value)[j]?=some v→(w5.alloc (.cells #[.string ⟨#[97]⟩,.bool true,.slice none 0 0] 51)).cell? ⟨w5.heap.size,j,none⟩=some v:=fun j v h=>by
  simp only [World.cell?,aoE];exact h
 have Nf:Ws (fun b=>w5.heap.size≤b∧b<(w5.alloc (.cells #[.string ⟨#[97]⟩,.bool true,.slice none 0 0] 51)).heap.size) (w5.alloc (.cells #[.string ⟨#[97]⟩,.bool true,.slice none 0 0] 51)) (.slice (some ⟨w5.heap.size,0,none⟩) 1 1) [⟨⟨⟨#[97]⟩,true,[]⟩,.slice none 0 0⟩]:=by
  refine ⟨⟨_,1,rfl,aw _,by unfold maxLen;omega,(fun h=>by cases h),.inr ⟨w5.heap.size,0,rfl,⟨aw _,by simp⟩,by simp,fun i x hx c u hu=> ?_⟩⟩,fun x hx=> ?_⟩
  ·match i,hx with
   |0,hx=>
    cases hx
    match c,hu with
    |0,hu=>cases hu;exact Tk 0 _ rfl
    |1,hu=>cases hu;exact Tk 1 _ rfl
    |2,hu=>cases hu;exact Tk 2 _ rfl
    |c+3,hu=>simp [gW] at hu
   |i+1,hx=>simp at hx
  ·rw [cY.1 hx];exact KT _ _
 have hap:=ZM (h3.grow xn) (fun b hb=>⟨hb.2,fun hf=>by have:=h3.tree.lt hf;have:=hb.1;omega⟩) Nf (ws:=wsB) rfl (by simp) (by decide) (by decide) (by decide) (by decide) (by decide) (by
  rw [hV2] at aaI;have h9:dh.tabs.length=0:=rfl;omega)
 have NH:t3.db=t1.db:=Fj.db;rw [NH] at hap;have gh:=ae hap;have H3:=ae (ag h3 (ag Fj (ag ND (ag aoC (ag aoD (ag NH xn))))));clear h2 sL Jd NC hV2 gH Cy BB eY h1 sr oB hV1 ha1 hs1 zO rC hwA rV fY Ci aFB aFC aoC aoD Fj aoE Tk Nf hap NH xn aoz h3 ND NG hc3 Cb qC
 go_wp2_with fail
 (with_reducible refine gh.out.mono ?_);rintro e w6 hp;obtain ⟨h3,Fj,ND,NG,Cb,NH,xn⟩:=H3.out;obtain ⟨t4,f4,T4,K4,s4,rfl,aaJ,h4,_,_,aFD,Co,aaK,_⟩:=hp.done (by decide) (by decide) (by have:bA wsB=1:=rfl;simp only [dH,iK];omega);rw [NG] at Co aaK ⊢;obtain ⟨h1,sr,oB,hV1,ha1,hs1,zO,rC⟩:=H1.out;have aaL:=(Fj.trans (fD.bT t3 xn)).trans aaJ;have hp4:t4.p=B+1:=aaL.p.trans sr;have ki:t4.o=NA:=aaL.o.trans oB;have jV:Dl 1048576 B w6 (B+1) t4.r f4 T4 K4 t4.F:=by have:=h4.tree.bg;rw [hp4] at this;exact this
 have UZ:=aDP jV (by have:=h4.K;omega) h4.sync (pv:= .slice none 0 0) (picks:= []) ⟨none,0,rfl,aY _,.inl rfl⟩ (fun h=>absurd rfl h);have hall:∀ x,x∈eu s4↔(∃ y,pg x.key wsB=some y∧x=jD 2 y)∨∃ y,pg x.key xP=some y∧x=jD 1 y:=fun x=>by
  rw [aaK x];refine or_congr_right ?_;rw [ND x,H2.out.2.2.2.1 x,ha1 x];rw [show eu Cl= [] from rfl];constructor
  ·rintro (h|h)
   ·exact h
   ·cases h
  ·exact .inl
 have Tl:=HB.out;have Fk:Below B w w6:=by
  have g1:Below B w w2:=fA.out.mono (Nat.le_of_eq Tl);have g2:Below B w3 (wb.alloc (.cells #[.string ⟨#[97]⟩,.bool false,.slice (some ⟨w3.heap.size,0,none⟩) 1 1,.string ⟨#[98]⟩,.bool false,.slice (some ⟨wa.heap.size,0,none⟩) 1 1] 51)):=aov.out.mono h1.tree.bg.base;have g3:=dm.below (h1.grow aov.out).tree Fj;have g4:=dm.below (h3.grow xn).tree aaJ;have g5:Below B w5 (w5.alloc (.cells #[.string ⟨#[97]⟩,.bool true,.slice none 0 0] 51)):=xn.mono h3.tree.bg.base;exact ((((g1.trans zO.below).trans g2).trans g3).trans g5).trans g4
 have ib:s4.V.tabs.length≤2:=by
  have h9:dh.tabs.length=0:=rfl;have h8:=H2.out.2.2.2.2.1;rw [h8] at aaI;omega
 have Hcr:=ae UZ;have H4:=ae (ag h4 (ag ki (ag Co (ag hall (ag Fk ib)))));clear h3 Fj ND NG Cb NH xn aaJ h4 aFD Co aaK h1 sr oB hV1 ha1 hs1 zO rC aaL hp4 ki jV UZ hall Fk gh hp Tl ib aaI
 go_wp2_with fail
 (with_reducible refine Hcr.out.mono ?_);rintro e w7 ⟨rfl,F7,uZ,oT⟩;have wW:=ae uZ;have DC:=ae oT;have aoH:=ae (aoo w7);clear uZ oT Hcr
 go_wp2_with fail
 (with_reducible refine aoH.out.mono ?_);rintro e w8 ⟨dv8,rfl,lB,di⟩;obtain ⟨h4,ki,Co,hall,Fk,ib⟩:=H4.out;have Nz:=h4.told;rw [ki] at Nz;have kK:dn 100 B w8:=Uu B w8;have hop:=aaf (Z:=1048576) (B:=B) (Nn:=100) (s:=s4) (Tb:=T4) (wW.out.grow di) kK (fun W hr=>aor lB hr (by decide)) aon (fun W hg=>aEO Nz ((wW.out.grow di).grow hg) (kK.grow hg (wW.out.grow di).base) (by decide) (by decide)) (by decide) (by decide) (by decide) (by decide) (by
  omega)
 have Hop:=ae hop;have AD:=ae di;clear hop lB di h4 ki Co hall Fk ib Nz kK aoH
 go_wp2_with fail
 (with_reducible refine Hop.out.mono ?_);rintro e w9 ⟨t5,f5,T5,K5,s5,rfl,h5,_,_,_,_,_,uT,hs5,_,_,_,_,_,aoI,_⟩;obtain ⟨h4,ki,Co,hall,Fk,ib⟩:=H4.out;have aaM:t5.seq=2:=by rw [hs5,←h4.seq,Co]
 have wM:fT ⟨#[97]⟩ 18446744073709551615 (eu s5)=some (jD 2 ⟨⟨#[97]⟩,true,[]⟩):=Qc h5.xI ((uT _).2 ((hall _).2 (.inl ⟨⟨⟨#[97]⟩,true,[]⟩,by simp [pg,jD],rfl⟩))) ⟨rfl,by decide⟩ (fun x hx _=>by have:=h5.top x hx;rw [aaM] at this;exact this);have dX:fT ⟨#[98]⟩ 18446744073709551615 (eu s5)=some (jD 1 ⟨⟨#[98]⟩,false,[121]⟩):=Qc h5.xI ((uT _).2 ((hall _).2 (.inr ⟨⟨⟨#[98]⟩,false,[121]⟩,by simp [pg,jD],rfl⟩))) ⟨rfl,by decide⟩ (fun x hx hf=>by
  rcases (hall x).1 ((uT x).1 hx) with ⟨y,h9,_⟩|⟨y,_,h9⟩
  ·have h8:=ayM h9
   rw [hf.1] at h8;have h7:=cY.1 h8.1;rw [h7] at h8;exact absurd h8.2 (by decide)
  ·rw [h9];exact aw _)
 have aaN:=aol h5 (by decide) ⟨#[97]⟩;rw [wM] at aaN;have aoJ:=ae aaN;have hend:Below B w w9:=by
  have g1:Below B w6 w7:=DC.out.below (fun b hb=>(h4.tree.bg.foot hb).1) h4.tree.bg.base;have g2:Below B w7 w8:=AD.out.mono wW.out.base;exact ((Fk.trans g1).trans g2).trans aoI.below
 have Hbb:=ae dX;have H5:=ae (ag h5 (ag aaM hend));clear h4 ki Co hall Fk ib aaM wM dX aaN hend h5 uT hs5 aoI Hop
 go_wp2_with fail
 (with_reducible refine aoJ.out.mono ?_);rintro e wx ⟨he,hgx⟩;have uy:e= .returned (.tuple #[.slice none 0 0,.bool false]):=he;subst uy;have aaP:=aol (H5.out.1.grow hgx) (by decide) ⟨#[98]⟩;rw [Hbb.out] at aaP;have aoK:=ae aaP;have LW:=ae hgx;clear he hgx aaP aoJ
 go_wp2_with fail
 (with_reducible refine aoK.out.mono ?_);rintro e wy ⟨he,vu⟩;have uy:∃ v,e= .returned (.tuple #[v,.bool true])∧aI wx.heap.size wy v [121]:=he
 obtain ⟨v,rfl,hv⟩:=uy;have hcv:=CO (cI hv);have hka:(⟨([121]:List UInt8).toArray⟩:ByteArray)=⟨#[121]⟩:=rfl;rw [hka] at hcv;have eD:=aom (H5.out.1.grow (LW.out.trans vu));rw [H5.out.2.1] at eD;have xK:=ae eD;have Hgy:=ae (LW.out.trans vu);obtain ⟨va,vc,rfl⟩:=hv.slice;have aLS:(convert 49 9 (.slice va 1 vc)).run Tryz.prog wy= .ok (.string ⟨#[121]⟩) wy:=hcv;clear he vu hv eD hka aoK hcv
 go_wp2_with fail
 (with_reducible refine xK.out.mono ?_);rintro e wz ⟨rfl,NI⟩;have aFF:=NI.symm;subst aFF;clear NI xK;go_wp2;go_ret;have Tl:=HB.out;have fB:Below B w wy:=H5.out.2.2.trans (Hgy.out.mono H5.out.1.tree.bg.base);rw [Tl] at fB;exact ⟨rfl,fB⟩
structure Av where
 op:Int
 wv:Value
 pv:Value
 n:Int
 ys:List Wv
 ks:List Int
def aaQ (a:Av):List Value:= [.int .i64 a.op,a.wv,a.pv,.int .i64 a.n]
def NJ (N:Nat→Prop) (w:World) (v:Value) (xs:List Av):Prop:=
 (∃ a c,v= .slice a xs.length c∧(xs= []∨∃ b o,a=some ⟨b,o,none⟩∧N b∧b<w.heap.size∧Rd w b o aaQ 4 xs))∧∀ x∈xs,Ws N w x.wv x.ys∧Iw N w x.pv x.ks
theorem NJ.kp {xs:List Av} (h:NJ N w v xs) (k:Kp N w w'):NJ N w' v xs:=by
 obtain ⟨⟨a,c,h1,h2⟩,h3⟩:=h;refine ⟨⟨a,c,h1,?_⟩,fun x hx=>⟨(h3 x hx).1.kp k,(h3 x hx).2.kp k⟩⟩;rcases h2 with h2|⟨b,o,q1,q2,q3,q4⟩
 ·exact .inl h2
 ·exact .inr ⟨b,o,q1,q2,cf q3 k.size,fun i x hx c' u hu=>(k.cell q2 q3 _).trans (q4 i x hx c' u hu)⟩
def rz (a:Av):Nat:=a.ys.length+a.ks.length+bA (a.ys.map (·.x))
def zP (xs:List Av):Prop:=xs.length≤300∧(xs.map rz).sum≤8192∧∀ a∈xs,∀ y∈a.ys,y.x.key.size≤60000
instance (xs:List Av):Decidable (zP xs):=by unfold zP;infer_instance
def FwI (w:World) (xs:List Av) (nv iv:Value) (wr:World):Prop:=
 ∃ i:Nat,iv= .int .i64 (i:Int)∧i≤xs.length∧nv= .int .i64 ((((xs.take i).map rz).sum:Nat):Int)∧(∀ a∈xs.take i,∀ y∈a.ys,y.x.key.size≤60000)∧Grow w wr
def FwJ (w:World) (S:Nat) (ys:List Wv) (nv kv:Value) (wr:World):Prop:=
 ∃ k:Nat,kv= .int .i64 (k:Int)∧k≤ys.length∧nv= .int .i64 (((S+bA ((ys.take k).map (·.x))):Nat):Int)∧(∀ y∈ys.take k,y.x.key.size≤60000)∧Grow w wr
theorem aFG {xs:List Av} (h:NJ N w v xs) (hs:(xs.map rz).sum≤1000000000000000) (hl:xs.length≤1000000000000):
  Calls Tryz.prog 11 #[v] w fun e w'=>e= .returned (.bool (decide (zP xs)))∧Grow w w':=by
 obtain ⟨⟨va,vc,rfl,bm⟩,eU⟩:=id h;have bJ:Hid (FwI w xs (.int .i64 0) (.int .i64 0) w):=ae ⟨0,rfl,aY _,rfl,(fun a ha=>by simp at ha),aV w⟩;have Hh:=ae h;have Hb:=ae (ag hs hl);clear h bm eU hs hl;go_enter Tryz.func11,Tryz.ntmps11
 go_wp2_with fail
 go_loopw [3,4] (fun nv iv wr=>FwI w xs nv iv wr) (fun _ iv _=>xs.length-(intOf iv).toNat)
 case atStart=>exact bJ.out
 case round=>
  clear bJ;obtain ⟨i,rfl,hi,rfl,tk,hgr⟩:=hrel;by_cases hlt:i<xs.length
  ·obtain ⟨x,hx⟩:∃ x,xs[i]?=some x:=⟨xs[i],by simp [hlt]⟩
   have hr:=Hh.out.kp (.bT hgr);obtain ⟨⟨vV,vW,lA,hrow⟩,eU⟩:=id hr;cases lA;obtain ⟨b,o,rfl,hNb,hbl,bm⟩:∃ b o,va=some ⟨b,o,none⟩∧N b∧b<wr.heap.size∧Rd wr b o aaQ 4 xs:=by
    rcases hrow with h0|h0
    ·rw [h0] at hx;cases hx
    ·exact h0
   have mK:=dB hx;have dS:((xs.take (i+1)).map rz).sum=((xs.take i).map rz).sum+rz x:=by rw [take_one hx];simp
   have nU:((xs.take (i+1)).map rz).sum≤(xs.map rz).sum:=by rw [List.map_take];exact Zv _ _
   obtain ⟨S,hS⟩:∃ S,S=((xs.take i).map rz).sum:=⟨_,rfl⟩
   rw [←hS] at dS ⊢;have a1:=bm i x hx 1 _ rfl;have a2:=bm i x hx 2 _ rfl;obtain ⟨hw,hp⟩:=eU x mK;obtain ⟨op,wv,pv,nn,ys,ks⟩:=x;dsimp only at a1 a2 hw hp;have zg:rz ⟨op,wv,pv,nn,ys,ks⟩=ys.length+ks.length+bA (ys.map (·.x)):=rfl;obtain ⟨wa,wc,rfl⟩:=hw.slice;obtain ⟨pa,pc,rfl,fR,_⟩:=id hp;have hb:=Hb.out;have eB:(i:Int)<(xs.length:Int):=by omega
   have bO:(0:Int)≤(i:Int):=by omega
   have fE:IntKind.i64.wrap ((i:Int)+1)=(i:Int)+1:=aS _ (by omega);obtain ⟨S1,hS1⟩:∃ S1,S1=S+ys.length:=⟨_,rfl⟩
   obtain ⟨S2,oO⟩:∃ S2,S2=S1+ks.length:=⟨_,rfl⟩
   have cp:IntKind.i64.wrap ((S:Int)+(ys.length:Int))=(S1:Int):=(aS _ (by omega)).trans (by omega);have hw2:IntKind.i64.wrap ((S1:Int)+(ks.length:Int))=(S2:Int):=(aS _ (by omega)).trans (by omega);have aLT:S2+bA (ys.map (·.x))≤1000000000000000:=by omega
   have dW:ys.length≤1000000000000000:=by omega
   have HSn:=ae (show ((xs.take (i+1)).map rz).sum=S2+bA (ys.map (·.x)) by omega);have aaS:=ae tk;have Hx:=ae hx;have fW:=ae hgr;have Hw:=ae hw;have qm:=ae hlt;have oL:=ae (ag a1 (ag a2 hbl));clear hr hrow eU bm mK dS nU hS zg hS1 oO tk hx hgr hw hp fR hlt hb hNb
   go_upto_region 5 with fail
   refine dz (fun W=>W.cell? ⟨b,o+i*4+1,none⟩=some (.slice wa ys.length wc)∧W.cell? ⟨b,o+i*4+2,none⟩=some (.slice pa ks.length pc)∧b<W.heap.size) [] (by kernel_rfl) (bK fun _ _ _ _ _ h=>h) ⟨by simpa using a1,by simpa using a2,by simpa using hbl⟩ ?_;simp only [cF];clear a1 a2 hbl
   repeat ((first|(refine aA (v:= ?_) (by rfl) ?_ ?_;rotate_left;rintro W ⟨hW0,hW1,hW2⟩;go_simp;with_reducible rfl)|refine aB (by rfl) ?_);simp only [ai,List.set])
   refine bj ?_;have hgd:=az wr;have xQ:=ae (fW.out.trans hgd);have Hw5:=ae (Hw.out.kp (.bT hgd));have aaT:Hid (wr.drew.cell? ⟨b,o+i*4+1,none⟩=some (.slice wa ys.length wc)∧b<wr.drew.heap.size):=ae ⟨by simpa using oL.out.1,by simpa using oL.out.2.2⟩;clear hgd Hw oL fW;generalize wr.drew=w5 at*;have Ny:Hid (FwJ w5 S2 ys (.int .i64 (S2:Int)) (.int .i64 0) w5):=ae ⟨0,rfl,aY _,by simp [bA],(fun y hy=>by simp at hy),aV w5⟩
   go_wp2_with fail
   go_loopw [3,5] (fun nv kv W=>FwJ w5 S2 ys nv kv W) (fun _ kv _=>ys.length-(intOf kv).toNat)
   case atStart=>exact Ny.out
   case round=>
    clear Ny;obtain ⟨k,rfl,hk,rfl,vO,cx⟩:=hrel;have JU:=Hw5.out.kp (.bT cx);have a1:wr.cell? ⟨b,o+i*4+1,none⟩=some (.slice wa ys.length wc):=(Grow.cells wr b _ cx aaT.out.2).trans aaT.out.1;have lb:=cf aaT.out.2 cx.size;by_cases AQ:k<ys.length
    ·obtain ⟨y,hy⟩:∃ y,ys[k]?=some y:=⟨ys[k],by simp [AQ]⟩
     obtain ⟨b2,o2,c2,lA,aht,LK,aoM⟩:=JU.addr hy;cases lA;obtain ⟨d0,d1,d2⟩:=QL aoM hy;have aoN:pz N wr y:=JU.get hy;have dS:bA ((ys.take (k+1)).map (·.x))=bA ((ys.take k).map (·.x))+(y.x.key.size+y.x.val.length):=by rw [take_one hy,dD,HZ];simp [bA]
     have nU:bA ((ys.take (k+1)).map (·.x))≤bA (ys.map (·.x)):=by rw [List.map_take];exact QN _ _
     have ko:∀ z∈ys.take (k+1),z∈ys.take k∨z=y:=fun z hz=>by
      rw [take_one hy] at hz;rcases cU.1 hz with hz|hz
      ·exact .inl hz
      ·exact .inr (cY.1 hz)
     have hym:=dB hy;obtain ⟨⟨yk,yg,yd⟩,yv⟩:=y;dsimp only at d0 d1 d2 dS;have bC:Bv wr yv yd:=aoN.1;obtain ⟨ya,yc,rfl⟩:=bC.slice;obtain ⟨Sk,hSk⟩:∃ Sk,Sk=S2+bA ((ys.take k).map (·.x)):=⟨_,rfl⟩
     obtain ⟨Sa,wY⟩:∃ Sa,Sa=Sk+yk.size:=⟨_,rfl⟩
     obtain ⟨Sb,hSb⟩:∃ Sb,Sb=Sa+yd.length:=⟨_,rfl⟩
     rw [←hSk];have mY:(k:Int)<(ys.length:Int):=by omega
     have kP:(0:Int)≤(k:Int):=by omega
     have Lh:IntKind.i64.wrap ((k:Int)+1)=(k:Int)+1:=aS _ (by omega);have hwa:IntKind.i64.wrap ((Sk:Int)+(yk.size:Int))=(Sa:Int):=(aS _ (by omega)).trans (by omega);have vz:IntKind.i64.wrap ((Sa:Int)+(yd.length:Int))=(Sb:Int):=(aS _ (by omega)).trans (by omega);have HSb:=ae (show Sb=S2+bA ((ys.take (k+1)).map (·.x)) by omega);have ZQ:=ae ko;have Hkk:=ae vO;have Hym:=ae hym;have vQ:=ae cx;have aoQ:=ae AQ;have hgd:=az wr;have zI:=ae hgd;clear JU aoM aoN dS nU ko hym bC hSk wY hSb vO cx AQ hy aht hgd
     go_upto_region 9 with fail
     refine dz (fun W=>(W.cell? ⟨b,o+i*4+1,none⟩=some (.slice (some ⟨b2,o2,none⟩) ys.length wc)∧b<W.heap.size)∧W.cell? ⟨b2,o2+k*3,none⟩=some (.string yk)∧W.cell? ⟨b2,o2+k*3+2,none⟩=some (.slice ya yd.length yc)∧b2<W.heap.size) [] (by kernel_rfl) (bK fun _ _ _ _ _ h=>h) ⟨⟨by simpa using a1,by simpa using lb⟩,by simpa using d0,by simpa using d2,by simpa using LK⟩ ?_;simp only [cF]
     repeat ((first|(refine aA (v:= ?_) (by rfl) ?_ ?_;rotate_left;rintro W ⟨⟨hW0,hW1⟩,hW2,hW3,pX⟩;go_simp;with_reducible rfl)|refine aB (by rfl) ?_);simp only [ai,List.set])
     refine bj ?_;have a1d:wr.drew.cell? ⟨b,o+i*4+1,none⟩=some (.slice (some ⟨b2,o2,none⟩) ys.length wc):=by simpa using a1
     have lbd:b<wr.drew.heap.size:=by simpa using lb
     have d0d:wr.drew.cell? ⟨b2,o2+k*3,none⟩=some (.string yk):=by simpa using d0
     have l2d:b2<wr.drew.heap.size:=by simpa using LK
     clear a1 lb d0 d1 d2 LK;by_cases vh:60000<yk.size
     ·have hb1:(60000:Int)<(yk.size:Int):=by omega
      have aaU:=ae vh;clear vh;go_wp2;go_ret;have hno:¬ zP xs:=fun hf=>by
       have h1:=hf.2.2 _ (dB Hx.out) _ Hym.out;have:=aaU.out;dsimp only at h1;omega
      exact ⟨by rw [decide_eq_false hno];rfl,(xQ.out.trans vQ.out).trans zI.out⟩
     ·have hb1:¬ (60000:Int)<(yk.size:Int):=by omega
      have hb2:(yk.size:Int)≤60000:=by omega
      have aaU:=ae vh;clear vh;go_wp2;go_roundw
      case rel=>exact ⟨k+1,by simp,aoQ.out,by rw [←HSb.out],fun z hz=>by
       rcases ZQ.out z hz with h1|h1
       ·exact Hkk.out z h1
       ·rw [h1];have:=aaU.out;dsimp only;omega,vQ.out.trans zI.out⟩
      case measure=>simp [intOf];have:=aoQ.out;omega
    ·obtain rfl:k=ys.length:=by omega
     rw [ij] at vO ⊢;have hrel:FwI w xs (.int .i64 ((S2+bA (ys.map (·.x)):Nat):Int)) (.int .i64 ((i:Int)+1)) wr:=⟨i+1,by simp,qm.out,by rw [HSn.out],fun a ha=>by
      rw [take_one Hx.out] at ha;rcases cU.1 ha with ha|ha
      ·exact aaS.out a ha
      ·rw [cY.1 ha];exact vO,xQ.out.trans cx⟩
     have aX:=ae hrel;obtain ⟨Se,hSe⟩:∃ Se,Se=S2+bA (ys.map (·.x)):=⟨_,rfl⟩
     rw [←hSe] at aX ⊢;clear hrel vO cx JU hSe;go_wp2;go_roundw
     case rel=>exact aX.out
     case measure=>simp [intOf];have:=qm.out;omega
  ·obtain rfl:i=xs.length:=by omega
   rw [ij] at tk ⊢;have hb:=Hb.out;have aaS:=ae tk;have fW:=ae hgr;obtain ⟨S,hS⟩:∃ S,S=(xs.map rz).sum:=⟨_,rfl⟩
   rw [←hS];have HS:=ae hS;clear tk hgr hS hb hlt hi;by_cases h1:xs.length≤300
   ·have d1:(xs.length:Int)≤300:=by omega
    by_cases h2:S≤8192
    ·have d2:(S:Int)≤8192:=by omega
     have aaV:Hid (zP xs):=ae ⟨h1,by rw [←HS.out];exact h2,aaS.out⟩;clear h1 h2;go_wp2;go_ret;exact ⟨by rw [decide_eq_true aaV.out];rfl,fW.out⟩
    ·have d2:¬ (S:Int)≤8192:=by omega
     have d2':(8192:Int)<(S:Int):=by omega
     have hno:Hid (¬ zP xs):=ae (fun hf=>h2 (by rw [HS.out];exact hf.2.1));clear h1 h2;go_wp2;go_ret;exact ⟨by rw [decide_eq_false hno.out];rfl,fW.out⟩
   ·have d1:¬ (xs.length:Int)≤300:=by omega
    have d1':(300:Int)<(xs.length:Int):=by omega
    have hno:Hid (¬ zP xs):=ae (fun hf=>h1 hf.1);clear h1;go_wp2;go_ret;exact ⟨by rw [decide_eq_false hno.out];rfl,fW.out⟩
section
variable {Z B Nn A C i:Nat} {w w':World} {t:Tr} {f:Lk} {T K:Nat} {s:eP}
theorem dn.up {N B:Nat} {w w':World} (h:dn N B w) (hB:B≤B') (hk:∀ b,b<B→w'.heap[b]?=w.heap[b]?):dn N B' w':=fun n hn W hW=>h n hn W (fun b hb=>(hW b (by omega)).trans (hk b hb))
end
end Go.Proofs.YtoolkdapflaeeaaGreatDoor
namespace Go.Proofs.YtoolkdapflaeeaaGreatDoor
open Go.RowKit Go.Gl Mn
def mV (e:En):List En→List En
 | []=> []
 |x::l=>if dU x e=0 then mV e l else x::l
theorem aoS {e:En} {r:List En} (h:∀ y t,r=y::t→¬ oY y e):mV e r=r:=by
 cases r with
 |nil=>rfl
 |cons y t=>unfold mV;rw [if_neg (fun hc=>h y t rfl ((Bi _ _).1 hc))]
theorem aFN {e:En} {r:List En} (ho:cn r) (hm:∀ x t,r=x::t→¬ fM x e):(∀ x∈mV e r,x∈r∧fM e x)∧(∀ x∈r,x∈mV e r∨oY x e)∧cn (mV e r):=by
 cases r with
 |nil=>exact ⟨fun x h=>(by cases h),fun x h=>(by cases h),ho⟩
 |cons y t=>
  have eA:=tK.1 ho;have hy:=hm y t rfl;by_cases hs:oY y e
  ·have hid:mV e t=t:=aoS fun z t' ht hz=>by
    have h1:=eA.1 z (by rw [ht];exact dR ..);rw [wZ hs,←wZ hz] at h1;exact yT _ h1
   have hc:mV e (y::t)=t:=by
    show (if dU y e=0 then mV e t else y::t)=t;rw [if_pos ((Bi _ _).2 hs),hid]
   rw [hc];refine ⟨fun x hx=>⟨fk _ hx,(wZ hs).1 (eA.1 x hx)⟩,fun x hx=> ?_,eA.2⟩;rcases bE.1 hx with rfl|hx
   ·exact .inr hs
   ·exact .inl hx
  ·rw [aoS (fun z t' ht hz=>by cases ht;exact hs hz)]
   have hlt:fM e y:=by
    by_cases h1:fM e y
    ·exact h1
    ·exact absurd (Wn hy h1) hs
   refine ⟨fun x hx=>⟨hx,?_⟩,fun x hx=> .inl hx,ho⟩;rcases bE.1 hx with rfl|hx
   ·exact hlt
   ·exact Gy hlt (eA.1 x hx)
theorem Tm (e:En):∀ r:List En,(mV e r).length≤r.length
 | []=>aw _
 |x::r=>by
  show (if dU x e=0 then mV e r else x::r).length≤_;have:=Tm e r
  split<;>simp only [dH]<;>omega
structure zQ (ls:List (List En)) (out:List En) (rs:List (List En)):Prop where
 ord:cn out
 aFO:∀ r∈rs,cn r
 lt:∀ o∈out,∀ r∈rs,∀ x∈r,fM o x
 mem:∀ e,(∃ l∈ls,e∈l)↔e∈out∨∃ r∈rs,e∈r
theorem zQ.start {ls:List (List En)} (ho:∀ l∈ls,cn l):zQ ls [] ls:=⟨cn.nil,ho,fun o h=>(by cases h),fun e=>by simp⟩
theorem zQ.done {ls rs:List (List En)} {out:List En} (h:zQ ls out rs) (hn:∀ r∈rs,r= []):Qk ls out:=⟨h.ord,fun e=>by
 rw [h.mem];refine ⟨fun h=> .inl h,fun h=>h.elim id ?_⟩;rintro ⟨r,hr,he⟩;rw [hn r hr] at he;cases he⟩
theorem zQ.step {ls rs:List (List En)} {out:List En} (h:zQ ls out rs) (hf:tN ls.flatten) {e:En} (he:∃ r∈rs,e∈r) (hm:∀ r∈rs,∀ x t,r=x::t→¬ fM x e):zQ ls (out++ [e]) (rs.map (mV e)):=by
 obtain ⟨r0,Dc,Me⟩:=he;have eU:∀ x,(∃ r∈rs,x∈r)→x∈ls.flatten:=fun x hx=>by
  obtain ⟨l,hl,ia⟩:=(h.mem x).2 (.inr hx);exact List.mem_flatten.2 ⟨l,hl,ia⟩
 have hc:=fun r hr=>aFN (h.aFO r hr) (hm r hr)
 refine ⟨List.pairwise_append.2 ⟨h.ord,List.pairwise_singleton _ _,fun a ha b hb=> ?_⟩,fun r hr=> ?_,fun o ho r hr x hx=> ?_,fun x=> ?_⟩
 ·rw [cY.1 hb];exact h.lt a ha r0 Dc e Me
 ·obtain ⟨q,hq,rfl⟩:=aZ.1 hr
  exact (hc q hq).2.2
 ·obtain ⟨q,hq,rfl⟩:=aZ.1 hr
  have h1:=(hc q hq).1 x hx;rcases cU.1 ho with ho|ho
  ·exact h.lt o ho q hq x h1.1
  ·rw [cY.1 ho];exact h1.2
 ·rw [h.mem]
  constructor
  ·rintro (hx|⟨q,hq,hx⟩)
   ·exact .inl (jw _ hx)
   ·rcases (hc q hq).2.1 x hx with h1|h1
    ·exact .inr ⟨_,aZ.2 ⟨q,hq,rfl⟩,h1⟩
    ·have:=hf x (eU x ⟨q,hq,hx⟩) e (eU e ⟨r0,Dc,Me⟩) h1
     rw [this];exact .inl (mX _ (List.mem_singleton_self _))
  ·rintro (hx|⟨q,hq,hx⟩)
   ·rcases cU.1 hx with hx|hx
    ·exact .inl hx
    ·rw [cY.1 hx];exact .inr ⟨r0,Dc,Me⟩
   ·obtain ⟨p,hp,rfl⟩:=aZ.1 hq
    exact .inr ⟨p,hp,((hc p hp).1 x hx).1⟩
theorem aFP {e:En}:∀ {rs:List (List En)},(∃ t,e::t∈rs)→((rs.map (mV e)).map List.length).sum<(rs.map List.length).sum:=by
 have hle:∀ rs:List (List En),((rs.map (mV e)).map List.length).sum≤(rs.map List.length).sum:=by
  intro rs
  induction rs with
  |nil=>exact aw _
  |cons r rs ih=>have:=Tm e r;simp only [cg,List.sum_cons] at*;omega
 intro rs
 induction rs with
 |nil=>rintro ⟨t,h⟩;cases h
 |cons r rs ih=>
  rintro ⟨t,h⟩;have h1:=Tm e r;rcases bE.1 h with rfl|h
  ·have h2:(mV e (e::t)).length≤t.length:=by
    show (if dU e e=0 then mV e t else e::t).length≤_;rw [if_pos ((Bi _ _).2 ⟨rfl,rfl⟩)];exact Tm e t
   have h3:=hle rs;simp only [cg,List.sum_cons,dH] at*;omega
  ·have:=ih ⟨t,h⟩
   simp only [cg,List.sum_cons] at*;omega
end Go.Proofs.YtoolkdapflaeeaaGreatDoor
namespace Go.Proofs.YtoolkdapflaeeaaGreatDoor
open Go.RowKit Go.Gl Go.aF Mn
section
structure gY (N:Nat→Prop) (W:World) (g:Nat) (bR:List (List Ev)):Prop where
 box:∃ cur,W.heap[g]?=some (.cells cur 57 (0,0))∧bR.length≤cur.size∧∀ (i:Nat) (xs:List Ev),bR[i]?=some xs→∃ u,cur[i]?=some u∧Es N W u xs
section
variable {N:Nat→Prop} {W W':World} {g:Nat} {bR:List (List Ev)}
theorem gY.get (h:gY N W g bR) {xs:List Ev} (hx:bR[i]?=some xs):∃ a c,W.cell? ⟨g,i,none⟩=some (.slice a xs.length c)∧Es N W (.slice a xs.length c) xs:=by
 obtain ⟨cur,h1,_,h3⟩:=h.box;obtain ⟨u,hu,he⟩:=h3 i xs hx;obtain ⟨a,c,rfl⟩:=he.slice;exact ⟨a,c,by simp [World.cell?,h1,hu],he⟩
theorem gY.kp (h:gY N W g bR) (k:Kp N W W') (hg:W'.heap[g]?=W.heap[g]?):gY N W' g bR:=by
 obtain ⟨cur,h1,h2,h3⟩:=h.box;exact ⟨cur,hg.trans h1,h2,fun i xs hx=>(h3 i xs hx).imp fun u hu=>⟨hu.1,hu.2.kp k⟩⟩
theorem gY.lt (h:gY N W g bR):g<W.heap.size:=by
 obtain ⟨cur,h1,_⟩:=h.box;exact af h1
theorem gY.grow (h:gY N W g bR) (hg:Grow W W'):gY N W' g bR:=h.kp (.bT hg) (hg.block g h.lt)
theorem gY.set (h:gY N W g bR) (hg:¬ N g) (hi:i<bR.length) {xs:List Ev} (hu:Es N W u xs):gY N (W.setCell ⟨g,i,none⟩ u) g (bR.set i xs):=by
 obtain ⟨cur,h1,h2,h3⟩:=h.box;have k:Kp N W (W.setCell ⟨g,i,none⟩ u):=⟨by simp,fun b hb _=>aP _ _ _ _ (fun e=>by rw [e] at hb;exact hg hb)⟩
 refine ⟨cur.setIfInBounds i u,Go.Gl.aK h1 i u,by simpa using h2,fun j ys hy=> ?_⟩;by_cases e:j=i
 ·subst e
  rw [List.getElem?_set_self hi] at hy;cases hy;exact ⟨u,Array.getElem?_setIfInBounds_self_of_lt (by omega),hu.kp k⟩
 ·rw [List.getElem?_set_ne (fun h=>e h.symm)] at hy
  obtain ⟨v,hv,he⟩:=h3 j ys hy;exact ⟨v,by rw [Array.getElem?_setIfInBounds_ne (fun h=>e h.symm)];exact hv,he.kp k⟩
theorem gY.frozen (h:gY N W g bR) (j:Nat):W.frozen? ⟨g,j,none⟩=false:=by
 obtain ⟨cur,h1,_⟩:=h.box;simp [World.frozen?,h1]
end
def ma (e:En):List Ev→List Ev
 | []=> []
 |x::l=>if dU x.e e=0 then ma e l else x::l
theorem aoT (e:En):∀ l:List Ev,(ma e l).map Ev.e=mV e (l.map Ev.e)
 | []=>rfl
 |x::l=>by
  show (if dU x.e e=0 then ma e l else x::l).map Ev.e=if dU x.e e=0 then mV e (l.map Ev.e) else x.e::l.map Ev.e
  split
  ·exact aoT e l
  ·rfl
theorem aoU (e:En):∀ l:List Ev,∀ x∈ma e l,x∈l
 | [],x,h=>h
 |y::l,x,h=>by
  have h':x∈(if dU y.e e=0 then ma e l else y::l):=h
  split at h'
  ·exact fk _ (aoU e l x h')
  ·exact h'
def Tn:Value→Nat
 | .slice _ n _=>n
 |_=>0
structure TgS (N:Nat→Prop) (w:World) (g:Nat) (bR:List (List Ev)) (ys:List Ev) (rs:List (List Ev)) (ov:Value) (W:World):Prop where
 lst:gY N W g rs
 len:rs.length=bR.length
 row:cO w.heap.size (fun _=>False) W ov ys
 mg:zQ (bR.map (List.map Ev.e)) (ys.map Ev.e) (rs.map (List.map Ev.e))
 gx:GX g w W
 sub:∀ xs∈rs,∀ x∈xs,x.e.val.length≤1000000000000
 cR:ys.length+(rs.map List.length).sum≤(bR.map List.length).sum
def Je (w0:World) (rs:List (List Ev)) (bv iv:Value) (W:World):Prop:=
 ∃ i:Nat,iv= .int .i64 (i:Int)∧i≤rs.length∧Grow w0 W∧((bv= .int .i64 (-1)∧∀ (j:Nat) xs,j<i→rs[j]?=some xs→xs= [])∨
  ∃ (b:Nat) (x:Ev) (t:List Ev),bv= .int .i64 (b:Int)∧b<i∧rs[b]?=some (x::t)∧∀ (j:Nat) y t',j<i→rs[j]?=some (y::t')→¬ fM y.e x.e)
theorem Es.head {N:Nat→Prop} {W:World} {a:Option Addr} {x:Ev} {t:List Ev} (h:Es N W (.slice a (x::t).length c) (x::t)):
  ∃ b o xa xc,a=some ⟨b,o,none⟩∧b<W.heap.size∧x.v= .slice xa x.e.val.length xc∧kJ N W x∧W.cell? ⟨b,o,none⟩=some (.string x.e.key)∧W.cell? ⟨b,o+1,none⟩=some (.int .u64 x.e.seq)∧W.cell? ⟨b,o+2,none⟩=some (.bool x.e.gone)∧W.cell? ⟨b,o+3,none⟩=some (.slice xa x.e.val.length xc):=by
 obtain ⟨b,o,c',hv,_,hb,bm⟩:=h.addr (i:=0) rfl;cases hv;obtain ⟨d0,d1,d2,d3⟩:=KU bm (i:=0) rfl;have cN:=h.get (i:=0) rfl;obtain ⟨xa,xc,iH⟩:=cN.slice;rw [iH] at d3;simp only [Nat.zero_mul,Nat.add_zero] at d0 d1 d2 d3;exact ⟨b,o,xa,xc,rfl,hb,iH,cN,d0,d1,d2,d3⟩
end
def CuI (N:Nat→Prop) (W0:World) (e:En) (xs:List Ev) (lv:Value) (W:World):Prop:=
 ∃ xs',Es N W0 lv xs'∧ma e xs'=ma e xs∧Grow W0 W
def CtI (N:Nat→Prop) (w0:World) (g:Nat) (e:En) (rs:List (List Ev)) (iv:Value) (W:World):Prop:=
 ∃ i:Nat,iv= .int .i64 (i:Int)∧i≤rs.length∧gY N W g ((rs.take i).map (ma e)++rs.drop i)∧GX g w0 W
theorem Tp {x:Nat}:∀ {l:List Nat},x∈l→x≤l.sum
 |y::l,h=>by
  rw [List.sum_cons];rcases bE.1 h with rfl|h
  ·omega
  ·have:=Tp h;omega
theorem aoW {α:Type} {f:α→α} {l:List α} (hi:i<l.length):((l.take i).map f++l.drop i)[i]?=l[i]?:=by
 rw [ur (by simp;omega)];simp only [bF,List.length_take,List.getElem?_drop];congr 1;omega
theorem aFQ {α:Type} {f:α→α} {l:List α} {x:α} (hx:l[i]?=some x):((l.take i).map f++l.drop i).set i (f x)=(l.take (i+1)).map f++l.drop (i+1):=by
 have hi:=(dG.1 hx).1;have h1:l.drop i=x::l.drop (i+1):=by
  rw [mh hi];rw [dZ hi] at hx;rw [bk hx]
 rw [List.take_add_one,hx,h1,List.set_append_right _ _ (by simp;omega)];simp only [bF,List.length_take];rw [show i-min i l.length=0 by omega];simp
theorem aFR {rs:List (List Ev)} {i:Nat} (h:Je w0 rs bv (.int .i64 (i:Int)) W) (hx:rs[i]?=some []) (hg:Grow W W'):Je w0 rs bv (.int .i64 ((i+1:Nat):Int)) W':=by
 obtain ⟨j,hj,hi,hgr,hb⟩:=h;obtain rfl:i=j:=by have:=Value.int.inj hj;omega
 have hlt:=(dG.1 hx).1;refine ⟨i+1,rfl,hlt,hgr.trans hg,?_⟩;rcases hb with ⟨e,h⟩|⟨b,x,t,e,h1,h2,h3⟩
 ·refine .inl ⟨e,fun k xs hk dp=> ?_⟩
  by_cases xY:k=i
  ·subst xY;rw [hx] at dp;exact (bk dp).symm
  ·exact h k xs (by omega) dp
 ·refine .inr ⟨b,x,t,e,by omega,h2,fun k y t' hk hy=> ?_⟩
  by_cases xY:k=i
  ·subst xY;rw [hx] at hy;cases hy
  ·exact h3 k y t' (by omega) hy
theorem aFS {bR:List (List Ev)} (h:gY N w g bR) (hN:∀ b,N b→b<w.heap.size∧b≠g) (hlen:(bR.map List.length).sum≤1000000000) (hl2:bR.length≤1000000000)
  (hval:∀ xs∈bR,∀ x∈xs,x.e.val.length≤1000000000000) (ho:∀ xs∈bR,cn (xs.map Ev.e)) (hf:tN (bR.map (List.map Ev.e)).flatten):
  Calls Tryz.prog 87 #[.slice (some ⟨g,0,none⟩) bR.length c] w fun e w'=>∃ v ys,e= .returned v∧Qk (bR.map (List.map Ev.e)) (ys.map Ev.e)∧cO w.heap.size (fun _=>False) w' v ys∧GX g w w':=by
 have hst:TgS N w g bR [] bR (.slice none 0 0) w:=⟨h,rfl,⟨iL _ _ _ _,fun _ h=>(by cases h)⟩,zQ.start (fun l hl=>by
  obtain ⟨xs,hx,rfl⟩:=aZ.1 hl;exact ho xs hx),GX.refl _ _,hval,by simp⟩
 have bJ:=ae hst;have HN:=ae hN;have Hb:=ae (ag hlen hl2);have Hf:=ae hf;have Hgl:=ae h.lt;clear h hN hlen hval ho hf hst;obtain ⟨S,hS⟩:∃ S,S=(bR.map List.length).sum:=⟨_,rfl⟩
 obtain ⟨n,hn⟩:∃ n,n=bR.length:=⟨_,rfl⟩
 rw [←hn] at hl2 ⊢;have HS:=ae hS;have Hn:=ae hn;clear hS hn;go_enter Tryz.func87,Tryz.ntmps87
 go_wp2_with fail
 go_loopw [3] (fun ov wr=>∃ ys rs,TgS N w g bR ys rs ov wr) (fun ov _=>S+1-Tn ov)
 case atStart=>exact ⟨_,_,bJ.out⟩
 case round=>
  clear bJ;obtain ⟨ys,rs,hs⟩:=hrel;have ng:rs.length=n:=hs.len.trans Hn.out.symm;obtain ⟨w8,hw8⟩:∃ W,W=wr:=⟨_,rfl⟩
  subst hw8;obtain ⟨oa,oc,rfl⟩:=hs.row.slice;have Hs:=ae hs;have sL:Je w8 rs (.int .i64 (-1)) (.int .i64 0) w8:=⟨0,rfl,aY _,aV _,.inl ⟨rfl,fun j xs hj=>by omega⟩⟩
  have Dm:=ae sL;clear hs sL
  go_wp2_with fail
  go_loopw [4,12] (fun bv iv W=>Je w8 rs bv iv W) (fun _ iv _=>n-(intOf iv).toNat)
  case atStart=>exact Dm.out
  case round=>
   clear Dm;have aX:=ae hrel;obtain ⟨i,rfl,hi,hg,xw⟩:=hrel;by_cases hlt:i<rs.length
   ·obtain ⟨xs,hx⟩:∃ xs,rs[i]?=some xs:=⟨_,dZ hlt⟩
    have hl:=Hs.out.lst.grow hg;obtain ⟨xa,xc,c0,hes⟩:=hl.get hx;have lg:=hl.lt;have eB:(i:Int)<(n:Int):=by omega
    have bO:(0:Int)≤(i:Int):=by omega
    have fE:IntKind.i64.wrap ((i:Int)+1)=((i+1:Nat):Int):=by rw [aS _ (by omega)];omega
    have aQ:=Grow.cells (w:=wr);have Hx:=ae hx;have Hg:=ae hg;have Hl:=ae hl;clear hg hl hx;cases xs with
    |nil=>
     clear xw hes
     go_upto_region 6 with fail
     refine dz (fun V=>Below wr.heap.size wr V) [16] (by kernel_rfl) (bK fun _ _ _ _ _ h=>h) (by ((repeat (first|exact bS _ _|assumption|refine cz ?_|refine cA ?_|refine cj ?_ ?_ _|refine cy ?_ ?_ _))<;>try (first|omega|(simp<;>omega)))) ?_;simp only [cF]
     repeat ((first|(refine aA (v:= ?_) (by rfl) ?_ ?_;rotate_left;rintro W hW;go_simp;with_reducible rfl)|refine aB (by rfl) ?_);simp only [ai,List.set])
     refine Fw (by rfl) (by ((repeat (first|exact bS _ _|assumption|refine cz ?_|refine cA ?_|refine cj ?_ ?_ _|refine cy ?_ ?_ _))<;>try (first|omega|(simp<;>omega)))) ?_
     try simp only [ai,List.set,aC]
     repeat ((first|(refine aA (v:= ?_) (by rfl) ?_ ?_;rotate_left;rintro W hW;go_simp;with_reducible rfl)|refine aB (by rfl) ?_);simp only [ai,List.set])
     refine bj ?_;go_wp2;go_roundw
     case rel=>exact aFR aX.out Hx.out (az _)
     case measure=>simp [intOf];omega
    |cons x t=>
     obtain ⟨b0,o0,va,vc,rfl,hb0,cN,mP,d0,d1,d2,d3⟩:=hes.head;have gC:0<(x::t).length:=by simp
     generalize (x::t).length=m at c0 gC hes;rcases xw with ⟨rfl,hnone⟩|⟨b,y,t',rfl,hbi,hby,Jf⟩
     ·have fP:Hid (∀ W,Grow wr W→Je w8 rs (.int .i64 (i:Int)) (.int .i64 ((i+1:Nat):Int)) W):=ae (fun W hW=>⟨i+1,rfl,hlt,Hg.out.trans hW,.inr ⟨i,x,t,rfl,by omega,Hx.out,fun j y t' hj hy=>by
       by_cases iu:j=i
       ·subst iu;rw [Hx.out] at hy;cases hy;exact yT _
       ·exact absurd (hnone j _ (by omega) hy) (by simp)⟩⟩)
      clear hnone hes mP cN
      go_upto_region 6 with fail
      refine dz (fun V=>Below wr.heap.size wr V) [16] (by kernel_rfl) (bK fun _ _ _ _ _ h=>h) (by ((repeat (first|exact bS _ _|assumption|refine cz ?_|refine cA ?_|refine cj ?_ ?_ _|refine cy ?_ ?_ _))<;>try (first|omega|(simp<;>omega)))) ?_;simp only [cF]
      repeat ((first|(refine aA (v:= ?_) (by rfl) ?_ ?_;rotate_left;rintro W hW;go_simp;with_reducible rfl)|refine aB (by rfl) ?_);simp only [ai,List.set])
      refine Fw (by rfl) (by ((repeat (first|exact bS _ _|assumption|refine cz ?_|refine cA ?_|refine cj ?_ ?_ _|refine cy ?_ ?_ _))<;>try (first|omega|(simp<;>omega)))) ?_
      try simp only [ai,List.set,aC]
      repeat ((first|(refine aA (v:= ?_) (by rfl) ?_ ?_;rotate_left;rintro W hW;go_simp;with_reducible rfl)|refine aB (by rfl) ?_);simp only [ai,List.set])
      refine bj ?_;go_wp2;go_roundw
      case rel=>exact fP.out _ (az _)
      case measure=>simp [intOf];omega
     ·obtain ⟨ya,yc,e0,Jg⟩:=Hl.out.get hby
      obtain ⟨b1,o1,ua,uc,rfl,hb1,fH,rh,f0,f1,f2,f3⟩:=Jg.head;have gH:0<(y::t').length:=by simp
      generalize (y::t').length=m' at e0 gH Jg;have aaY:=ae (RT x y cN fH);have XX:¬ (b:Int)<0:=by omega
      have xF:(0:Int)≤(b:Int):=by omega
      have hbl:(b:Int)<(n:Int):=by omega
      have fP:Hid (∀ W,Grow wr W→Je w8 rs (.int .i64 (if dU x.e y.e<0 then (i:Int) else (b:Int))) (.int .i64 ((i+1:Nat):Int)) W):=ae (fun W hW=>⟨i+1,rfl,hlt,Hg.out.trans hW,.inr (by
       by_cases hc:dU x.e y.e<0
       ·rw [if_pos hc]
        have hc':=(yS _ _).1 hc;refine ⟨i,x,t,rfl,by omega,Hx.out,fun j z Tq hj hz NK=> ?_⟩;by_cases iu:j=i
        ·subst iu;rw [Hx.out] at hz;cases hz;exact yT _ NK
        ·exact Jf j z Tq (by omega) hz (Gy NK hc')
       ·rw [if_neg hc]
        refine ⟨b,y,t',rfl,by omega,hby,fun j z Tq hj hz NK=> ?_⟩;by_cases iu:j=i
        ·subst iu;rw [Hx.out] at hz;cases hz;exact hc ((yS _ _).2 NK)
        ·exact Jf j z Tq (by omega) hz NK)⟩)
      generalize dU x.e y.e=cc at*;clear Jf hes Jg mP rh cN fH hby hbi
      go_upto_region 6 with fail
      refine dz (fun V=>Below wr.heap.size wr V) [16] (by kernel_rfl) (bK fun _ _ _ _ _ h=>h) (by ((repeat (first|exact bS _ _|assumption|refine cz ?_|refine cA ?_|refine cj ?_ ?_ _|refine cy ?_ ?_ _))<;>try (first|omega|(simp<;>omega)))) ?_;simp only [cF]
      repeat ((first|(refine aA (v:= ?_) (by rfl) ?_ ?_;rotate_left;rintro W hW;go_simp;with_reducible rfl)|refine aB (by rfl) ?_);simp only [ai,List.set])
      clear d0 d1 d2 d3 f0 f1 f2 f3 e0;refine bp (by rfl) (by go_simp) (aaY.out _) ?_;rintro e w2 ⟨rfl,hg2⟩;have hg3:=(az wr).trans hg2;refine ⟨_,rfl,hg3,?_⟩
      try simp only [ai,List.set,aC]
      have iQ:=ae hg3;clear hg2 hg3;by_cases hcc:cc<0
      ·rw [if_pos hcc] at fP
       repeat ((first|(refine aA (v:= ?_) (by rfl) ?_ ?_;rotate_left;rintro W hW;go_simp;with_reducible rfl)|refine aB (by rfl) ?_);simp only [ai,List.set])
       refine bj ?_;go_wp2;go_roundw
       case rel=>exact fP.out _ iQ.out
       case measure=>simp [intOf];omega
      ·rw [if_neg hcc] at fP
       repeat ((first|(refine aA (v:= ?_) (by rfl) ?_ ?_;rotate_left;rintro W hW;go_simp;with_reducible rfl)|refine aB (by rfl) ?_);simp only [ai,List.set])
       refine bj ?_;go_wp2;go_roundw
       case rel=>exact fP.out _ iQ.out
       case measure=>simp [intOf];omega
   ·obtain rfl:i=n:=by omega
    rcases xw with ⟨rfl,hnone⟩|⟨b,x,t,rfl,hbi,dK,Jf⟩
    ·have xR:=Hs.out.mg.done (fun r hr=>by
      obtain ⟨xs,dp,rfl⟩:=aZ.1 hr;obtain ⟨j,hj⟩:=List.mem_iff_getElem?.1 dp;rw [hnone j xs (by have:=(dG.1 hj).1;omega) hj];rfl)
     have cJ:=ae (ag xR (ag (Hs.out.row.grow hg (fun b hb=>hb.elim)) (Hs.out.gx.trans (GX.of hg))));clear xR hnone hg aX;go_wp2;go_ret;exact ⟨_,ys,rfl,cJ.out⟩
    ·have hl:=Hs.out.lst.grow hg
     obtain ⟨ya,yc,e0,hes⟩:=hl.get dK;obtain ⟨b0,o0,va,vc,rfl,hb0,cN,mP,d0,d1,d2,d3⟩:=hes.head;have gC:0<(x::t).length:=by simp
     have XX:¬ (b:Int)<0:=by omega
     have xF:(0:Int)≤(b:Int):=by omega
     have hbl:(b:Int)<(i:Int):=by omega
     have lg:=hl.lt;have ah:=ar wr (.cells #[.string x.e.key,.int .u64 x.e.seq,.bool x.e.gone,.slice va x.e.val.length vc] 60);have dJ:=ax wr (.cells #[.string x.e.key,.int .u64 x.e.seq,.bool x.e.gone,.slice va x.e.val.length vc] 60);have ia:x.e.val.length≤1000000000000:=Hs.out.sub (x::t) (dB dK) x (dR ..);have pw:bW x=#[.string x.e.key,.int .u64 x.e.seq,.bool x.e.gone,.slice va x.e.val.length vc]:=by rw [←cN]
     have gh:=ae (ayr (mP.grow ah) ia);rw [pw] at gh;have Hl:=ae hl;have pQ:=ae dK;have aFU:=ae Jf;have Hg:=ae hg;have XB:=ae cN;have hlt:ys.length+1≤S:=by
      have h1:=Hs.out.cR;have h2:(x::t).length≤(rs.map List.length).sum:=Tp (aZ.2 ⟨_,dB dK,rfl⟩);have:=HS.out;omega
     have qm:=ae hlt;generalize (x::t).length=m at e0 gC hes;clear hl dK Jf hg pw hes mP ia aX hlt cN
     go_wp2_with fail
     obtain ⟨eb,np⟩:∃ eb,eb=wr.heap.size:=⟨_,rfl⟩
     rw [←np] at dJ ⊢;have DV:=ae np;clear np d0 d1 d2 d3 e0 lg;generalize wr.alloc (.cells #[.string x.e.key,.int .u64 x.e.seq,.bool x.e.gone,.slice va x.e.val.length vc] 60)=w9 at*;(with_reducible refine gh.out.mono ?_);rintro e py ⟨av,rfl,hown,tV⟩;obtain ⟨aa,ac,rfl⟩:=hown.slice;dsimp only [bW];have z1:=Hs.out.gx.size;have z2:=Hg.out.size;have z3:=ah.size;have z4:=tV.size;have fH:mQ (fun _=>False) w.heap.size py ⟨x.e,.slice aa x.e.val.length ac⟩:=⟨cI hown,.inr (fun b hb=> .inr ⟨by have:=(hown.lt hb).1;omega,by obtain ⟨cur,hc⟩:=hown.block hb;exact ⟨cur,_,hc,rfl⟩⟩)⟩
     have lB:=Hs.out.row;have eZ:=Hg.out.trans (ah.trans tV);obtain ⟨gb,Ig,qj,hrun,hrow,hgr⟩:=LC (lB.grow eZ (fun b hb=>hb.elim)) fH (fun b hb=>hb.elim) (by omega) (by have:=HS.out;have:=Hb.out.1;have:=qm.out;omega);have fG:∀ b,(Value.slice oa ys.length oc).ownBlock=some b→w.heap.size≤b∧b<w8.heap.size∧∃ cur,w8.heap[b]?=some (.cells cur 60 (0,0)):=fun b xF=>by
      obtain ⟨h1,cur,h2⟩:=sw lB xF;exact ⟨h1,af h2,cur,h2⟩
     have Ts:=Hl.out.grow (ah.trans tV);have aaZ:gY N qj g rs:=Ts.kp (Kp.grown hgr (fun b xF hn=>by have:=(fG b xF).1;have:=(HN.out b hn).1;omega)) (hgr.block g Ts.lt (fun e=>by
      obtain ⟨_,_,cur,h2⟩:=fG g e.symm;obtain ⟨cur',h3,_⟩:=Hs.out.lst.box;rw [h3] at h2;exact absurd (cE (bk h2)).2.1 (by decide)))
     have aoX:qj.heap[eb]?=some (.cells #[.string x.e.key,.int .u64 x.e.seq,.bool x.e.gone,.slice va x.e.val.length vc] 60 (0,0)):=by
      rw [hgr.block eb (af (tV.heap dJ)) (fun e=>by have:=(fG eb e.symm).2.1;have:=DV.out;omega)];exact tV.heap dJ
     have aoY:GX g w qj:=⟨hgr.os.trans (eZ.os.trans Hs.out.gx.os),hgr.tape.trans (eZ.tape.trans Hs.out.gx.tape),hgr.output.trans (eZ.output.trans Hs.out.gx.output),by have:=hgr.size;omega,fun k hk hne=>by
      have AB:=Hs.out.gx.block k hk hne;have hkw:=eZ.block k (by omega);rw [hgr.block k (by omega) (fun e=>by have:=(fG k e.symm).1;omega),hkw,AB]⟩
     have cW:=ae hrun;have ox:=ae hrow;have aFW:=ae aoY;have aFX:=ae aaZ;have Gi:Hid (CtI N qj g x.e rs (.int .i64 0) qj):=ae ⟨0,rfl,aY _,by simpa using aaZ,GX.refl _ _⟩;have aoZ:Hid (eb≠g∧qj.heap[eb]?=some (.cells #[.string x.e.key,.int .u64 x.e.seq,.bool x.e.gone,.slice va x.e.val.length vc] 60 (0,0))):=ae ⟨fun e=>by have:=Ts.lt;have:=Hl.out.lt;have:=DV.out;omega,aoX⟩;clear hrun hrow aoY aaZ Ts aoX fG hgr eZ lB fH hown tV ah dJ gh z1 z2 z3 z4
     go_wp2_with (at_builtin;refine fI rfl rfl rfl rfl cW.out ?_)
     clear cW
     go_loopw [55] (fun iv W=>CtI N qj g x.e rs iv W) (fun iv _=>i-(intOf iv).toNat)
     case atStart=>exact Gi.out
     case round=>
      clear Gi;obtain ⟨j,rfl,hj,nN,Fl⟩:=hrel;obtain ⟨zR,aFY⟩:∃ W,W=wr:=⟨_,rfl⟩
      subst aFY;by_cases hlt:j<rs.length
      ·obtain ⟨xs,hx⟩:∃ xs,rs[j]?=some xs:=⟨_,dZ hlt⟩
       obtain ⟨xa,xc,c0,hes⟩:=nN.get (i:=j) ((aoW hlt).trans hx);have lg:=nN.lt;have eB:(j:Int)<(i:Int):=by omega
       have bO:(0:Int)≤(j:Int):=by omega
       have fE:IntKind.i64.wrap ((j:Int)+1)=((j+1:Nat):Int):=by rw [aS _ (by omega)];omega
       have BZ:Hid (CuI N zR x.e xs (.slice xa xs.length xc) zR):=ae ⟨xs,hes,rfl,aV _⟩;have apa:Hid (∀ (W:World) (xs':List Ev) (u:Value),Es N zR u xs'→ma x.e xs'=ma x.e xs→ma x.e xs'=xs'→Grow zR W→CtI N qj g x.e rs (.int .i64 ((j+1:Nat):Int)) (W.setCell ⟨g,j,none⟩ u)):=ae (fun W xs' u hu h1 h2 hW=>by
        refine ⟨j+1,rfl,hlt,?_,(Fl.trans (GX.of hW)).trans (Go.Gl.je _ _ _ _)⟩;have h3:=(nN.grow hW).set (fun hn=>(HN.out g hn).2 rfl) (i:=j) (by simp;omega) (hu.grow hW);rw [←h2,h1,aFQ hx] at h3;exact h3)
       have iT:Hid (∀ W,Grow zR W→W.frozen? ⟨g,j,none⟩=false∧g<W.heap.size∧∃ o,W.cell? ⟨g,j,none⟩=some o):=ae (fun W hW=>⟨(nN.grow hW).frozen j,(nN.grow hW).lt,by
        obtain ⟨a,c9,h,_⟩:=(nN.grow hW).get (i:=j) ((aoW hlt).trans hx);exact ⟨_,h⟩⟩)
       have aFZ:Hid (zR.heap[eb]?=some (.cells #[.string x.e.key,.int .u64 x.e.seq,.bool x.e.gone,.slice va x.e.val.length vc] 60 (0,0))):=ae (Fl.heap aoZ.out.2 aoZ.out.1);clear hes nN Fl hx
       go_wp2_with fail
       clear c0 lg
       go_loopw [9] (fun lv W=>CuI N zR x.e xs lv W) (fun lv _=>Tn lv)
       case atStart=>exact BZ.out
       case round=>
        clear BZ;obtain ⟨xs',hes,hcut,hgr⟩:=hrel;obtain ⟨xa,xc,rfl⟩:=hes.slice;obtain ⟨Tt,kQ,ob,fG⟩:=iT.out _ (hgr.trans (az wr));have aQ:=Grow.cells (w:=wr);cases xs' with
        |nil=>
         have hrel:=apa.out wr.drew [] _ hes hcut rfl (hgr.trans (az wr));have aX:=ae hrel;clear hrel hes
         go_upto_region 16 with fail
         refine dz (fun V=>Below wr.heap.size wr V) [8] (by kernel_rfl) (bK fun _ _ _ _ _ h=>h) (by ((repeat (first|exact bS _ _|assumption|refine cz ?_|refine cA ?_|refine cj ?_ ?_ _|refine cy ?_ ?_ _))<;>try (first|omega|(simp<;>omega)))) ?_;simp only [cF]
         repeat ((first|(refine aA (v:= ?_) (by rfl) ?_ ?_;rotate_left;rintro W hW;go_simp;with_reducible rfl)|refine aB (by rfl) ?_);simp only [ai,List.set])
         refine Fw (by rfl) (by ((repeat (first|exact bS _ _|assumption|refine cz ?_|refine cA ?_|refine cj ?_ ?_ _|refine cy ?_ ?_ _))<;>try (first|omega|(simp<;>omega)))) ?_
         try simp only [ai,List.set,aC]
         repeat ((first|(refine aA (v:= ?_) (by rfl) ?_ ?_;rotate_left;rintro W hW;go_simp;with_reducible rfl)|refine aB (by rfl) ?_);simp only [ai,List.set])
         refine bj ?_;go_wp2;go_roundw
         case rel=>exact aX.out
         case measure=>simp [intOf];omega
        |cons y t'=>
         have Jg:=hes.grow hgr;obtain ⟨b1,o1,ua,uc,rfl,hb1,fH,rh,f0,f1,f2,f3⟩:=Jg.head;have dK:=hgr.heap aFZ.out;obtain ⟨g0,g1,g2,g3⟩:=cS dK;have lbx:=af dK;have gH:0<(y::t').length:=by simp
         have aaY:=ae (RT y x fH XB.out);obtain ⟨a',ha'⟩:∃ a':Option Addr,a'=some ⟨b1,o1,none⟩:=⟨_,rfl⟩
         have aGa:(y::t').length≤xc:=by obtain ⟨⟨_,_,he,hc,_⟩,_⟩:=hes;cases he;exact hc
         have aba:=Ww hes (i:=1) (j:=(y::t').length) (k:=xc) (by simp) (aw _) aGa (aw _);rw [List.take_of_length_le (by simp)] at aba;have zD:dU y.e x.e=0→ma x.e t'=ma x.e xs:=fun h0=>by
          rw [←hcut];show _=if dU y.e x.e=0 then ma x.e t' else y::t'
          rw [if_pos h0]
         have LD:dU y.e x.e≠0→ma x.e (y::t')=y::t':=fun h0=>by
          show (if dU y.e x.e=0 then ma x.e t' else y::t')=_;rw [if_neg h0]
         have Hy1:=ae zD;have Hy2:=ae LD;have RY:=ae hes;have Dw:=ae hcut;have aGd:=ae aba;have fW:=ae hgr;have Hgf:=ae (ag Tt (ag kQ fG));generalize dU y.e x.e=cc at*;generalize kA:(y::t').length=m' at*;clear Jg fH rh zD LD hes hcut aba hgr Tt kQ fG dK ha'
         go_upto_region 16 with fail
         refine dz (fun V=>Below wr.heap.size wr V) [8] (by kernel_rfl) (bK fun _ _ _ _ _ h=>h) (by ((repeat (first|exact bS _ _|assumption|refine cz ?_|refine cA ?_|refine cj ?_ ?_ _|refine cy ?_ ?_ _))<;>try (first|omega|(simp<;>omega)))) ?_;simp only [cF]
         repeat ((first|(refine aA (v:= ?_) (by rfl) ?_ ?_;rotate_left;rintro W hW;go_simp;with_reducible rfl)|refine aB (by rfl) ?_);simp only [ai,List.set])
         clear f0 f1 f2 f3 g0 g1 g2 g3;refine bp (by rfl) (by go_simp) (aaY.out _) ?_;rintro e w2 ⟨rfl,hg2⟩;have hg3:=(az wr).trans hg2;refine ⟨_,rfl,hg3,?_⟩
         try simp only [ai,List.set,aC]
         have iQ:=ae hg3;clear hg2 hg3;by_cases hcc:cc=0
         ·subst hcc
          repeat ((first|(refine aA (v:= ?_) (by rfl) ?_ ?_;rotate_left;rintro W hW;go_simp;with_reducible rfl)|refine aB (by rfl) ?_);simp only [ai,List.set])
          refine bj ?_;have aMc:(1:Int)≤(m':Int):=by omega
          have ajz:(m':Int)≤(xc:Int):=by omega
          go_wp2;go_roundw
          case rel=>exact ⟨t',by have h:=aGd.out;simpa [Addr.add] using h,Hy1.out rfl,fW.out.trans iQ.out⟩
          case measure=>simp [Tn];omega
         ·have aMd:(cc==0)=false:=by simpa using hcc
          repeat ((first|(refine aA (v:= ?_) (by rfl) ?_ ?_;rotate_left;rintro W hW;go_simp;with_reducible rfl)|refine aB (by rfl) ?_);simp only [ai,List.set])
          refine bj ?_;obtain ⟨Tt,kQ,ob,fG⟩:=iT.out _ (fW.out.trans iQ.out);have hrel:=apa.out w2 (y::t') _ RY.out Dw.out (Hy2.out hcc) (fW.out.trans iQ.out);have aX:=ae hrel;clear hrel;go_wp2;go_roundw
          case rel=>exact aX.out
          case measure=>simp [intOf];omega
      ·obtain rfl:j=i:=by omega
       have pO:(rs.take rs.length).map (ma x.e)++rs.drop rs.length=rs.map (ma x.e):=by simp
       rw [←ng,pO] at nN;have hrow':cO w.heap.size (fun _=>False) zR (.slice (some ⟨gb,0,none⟩) (ys.length+1) Ig) (ys++ [⟨x.e,.slice aa x.e.val.length ac⟩]):=ox.out.keep Fl.size (fun b hb=>hb.elim) (fun b cur t f _ ht hc=>Fl.heap hc (fun e=>by
        obtain ⟨cur',h1,_⟩:=aFX.out.box;rw [e,h1] at hc;have h9:=(cE (bk hc)).2.1;rcases ht with rfl|rfl
        ·exact absurd h9 (by decide)
        ·exact absurd h9 (by decide)))
       have gH:(rs.map (ma x.e)).map (List.map Ev.e)=(rs.map (List.map Ev.e)).map (mV x.e):=by
        rw [eX,eX];exact iJ (fun l _=>aoT x.e l)
       have cK:∃ r∈rs.map (List.map Ev.e),x.e∈r:=⟨_,aZ.2 ⟨_,dB pQ.out,rfl⟩,by simp⟩
       have xR:=Hs.out.mg.step Hf.out cK (fun r hr z Tq hz=>by
        obtain ⟨l,pV,rfl⟩:=aZ.1 hr;obtain ⟨k,hk⟩:=List.mem_iff_getElem?.1 pV;cases l with
        |nil=>cases hz
        |cons q l'=>
         cases hz;exact aFU.out k q l' (by have:=(dG.1 hk).1;omega) hk)
       have abb:=aFP (e:=x.e) (rs:=rs.map (List.map Ev.e)) ⟨t.map Ev.e,aZ.2 ⟨_,dB pQ.out,rfl⟩⟩;rw [←gH] at abb xR;have lJ:∀ L:List (List Ev),(L.map (List.map Ev.e)).map List.length=L.map List.length:=fun L=>by
        rw [eX];exact iJ (fun l _=>by simp)
       rw [lJ,lJ] at abb;have fP:TgS N w g bR (ys++ [⟨x.e,.slice aa x.e.val.length ac⟩]) (rs.map (ma x.e)) (.slice (some ⟨gb,0,none⟩) (ys.length+1) Ig) zR:=⟨nN,by rw [bF];exact Hs.out.len,hrow',by rw [dD];exact xR,aFW.out.trans Fl,fun xs dp z hz=>by
        obtain ⟨l,pV,rfl⟩:=aZ.1 dp;exact Hs.out.sub l pV z (aoU _ _ z hz),by
        have h1:=Hs.out.cR;rw [aJ,List.length_singleton];omega⟩
       have kr:=ae fP;clear fP abb lJ xR cK gH hrow' nN Fl pO;go_wp2;go_roundw
       case rel=>exact ⟨_,_,kr.out⟩
       case measure=>simp [Tn];have:=qm.out;omega
end Go.Proofs.YtoolkdapflaeeaaGreatDoor
