/- Helpers. -/
import Derived.Deep.CutRange
import Derived.Deep.DeepCutAuto
import Derived.Test.YtoolkdapflaeeaaGreatDoorW0D
set_option maxRecDepth 100000
set_option maxHeartbeats 16000000
set_option linter.unusedSimpArgs false
open Go
variable {A A' B B' C C' K K' Nn T T' Z d db ha hm i i' j lb mb p q r sb seq sq tb tm xb : Nat} {F F' G G' M N : Nat → Prop} {W W' w w1 w3 : World} {av cv dv lv tv v : Value} {ds : List Int}
namespace Go.Proofs.YtoolkdapflaeeaaGreatDoor
open Go.RowKit Go.Gl Go.aF Mn
section
theorem ep.drv {w:World} {o:Od} {drv:Value} (h:ep w db sb o drv lv mb tm seq hm):w.cell? ⟨db,6,none⟩=some drv:=by unfold ep at h;simp [World.cell?,h]
theorem alS {l:List En} {k:ByteArray} (h:l[j]?.map En.key=some k):k.size≤costs l:=by
 cases hx:l[j]? with
 |none=>rw [hx] at h;cases h
 |some x=>
  rw [hx] at h;cases h;obtain ⟨a,b,e⟩:=sN (dB hx);rw [e,Yg];simp only [costs,jq,cg,List.sum_cons];omega
def aEd (Z B Nn A C i:Nat) (w:World) (t:Tr) (T:Nat) (s:eP) (e:Ending) (w':World):Prop:=
 ∃ (c:Nat) (t':Tr) (f':Lk) (T' K':Nat) (s':eP),e= .returned (.int .i64 (c:Int))∧fD w t w' t'∧eJ Z B Nn A C (i+1) w' t' f' T' K' s'∧(∀ x,x∈eu s'↔x∈eu s)∧t'.seq=t.seq∧t'.hh=t.hh∧t'.hn=t.hn∧
  s'.V.tabs.length≤s.V.tabs.length+1∧
  (c=0∨c=5∧(Z<T+(gX t.o.block.toNat (aN s.LL)).length+(2*costs (aN s.LL)+200)∨∃ k0 k1,(aN s.LL)[0]?.map En.key=some k0∧(aN s.LL)[(aN s.LL).length-1]?.map En.key=some k1∧(bz s.V (bX s t.seq (gX t.o.block.toNat (aN s.LL)).length k0 k1 (t.m+1))).1≠0))∧
  T'≤T+(gX t.o.block.toNat (aN s.LL)).length+(2*costs (aN s.LL)+200)∧(aN s'.LL= []∨T'=T∧aN s'.LL=aN s.LL)
theorem aEe {B:Nat} {x:En} {v:Array Value} (h:Ra B x v W):∃ y,v=#[.agg (bW y)]∧y.e=x∧mQ N B W y:=by
 obtain ⟨sv,rfl,h⟩:=h;refine ⟨⟨x,sv⟩,rfl,rfl,cI h,.inr (fun b hb=> .inr ⟨(h.lt hb).1,?_⟩)⟩;obtain ⟨cur,hc⟩:=h.block hb;exact ⟨cur,_,hc,rfl⟩
theorem alT {B:Nat} (x:En) (v:Array Value):OwnFrom B (fun (_:Unit) W=>Ra B' x v W):=by
 rintro _ W W' row ⟨sv,h1,h2⟩ hg hr;refine ⟨sv,h1,h2.keep (fun b hb=> ?_)⟩;obtain ⟨cur,hc⟩:=h2.block hb;rw [rk hg hr hc,hc]
theorem aEf {w:World} {l:List En} {e:Ending} (h:LG N w l e w1 180) (_hN:∀ b,N b→b<w.heap.size) (hlen:l.length≤1000000000) (hval:∀ x∈l,x.val.length≤1000000000000):
  ∃ Bl,e= .returned (.func (.func 180) #[] #[.pointer (some ⟨Bl,0,none⟩)])∧Grow w w1∧Calls Tryz.prog 58 #[.func (.func 180) #[] #[.pointer (some ⟨Bl,0,none⟩)]] w1 fun e w'=>∃ v ys,e= .returned v∧ys.map Ev.e=l∧cO w1.heap.size NF w' v ys∧Grow w1 w':=by
 obtain ⟨Bl,ys,v,he,hBl,hc,bQ,hrow,hg⟩:=h;refine ⟨Bl,he,hg,?_⟩;have hes:Es (fun b=>(N b∨w.heap.size≤b)∧b<w1.heap.size) w1 v ys:=(hrow.es (M:=fun b=>N b∨w.heap.size≤b) (fun b hb=>hb)).lt;have hseq:=(Xt hes (by rw [←bQ,bF] at hlen;exact hlen) (fun y hy=>hval _ (by rw [←bQ];exact aZ.2 ⟨y,hy,rfl⟩)) hc ⟨.inr hBl,af hc⟩).1;rw [bQ] at hseq;refine (aij (N:=NF) (fun x:En=>x) (enters_of Tryz.func180 (by kernel_rfl) rfl) hseq (fun b hb=>hb.2) (fun b hb=>hb.elim) (fun x v W h=>aEe h) (fun x v=>alT x v) hlen).mono ?_;rintro e w' ⟨v',ys',h1,h2,h3,h4⟩;exact ⟨v',ys',h1,by rw [h2,List.map_id'],h3,h4⟩
theorem getLast_map {l:List En} {ys:List Ev} (h:ys.map Ev.e=l) (i:Nat):l[i]?=(ys[i]?).map Ev.e:=by rw [←h,gZ]
variable {Z B Nn A C i:Nat} {w:World} {t:Tr} {f:Lk} {T K:Nat} {s:eP}
def Sq (Z B Nn:Nat) (w:World) (t:Tr) (f:Lk) (T K:Nat) (q:List UInt8×Nat) (E:cH) (cv:Value) (wx:World):Prop:=
 ∃ (c:Int) (f':Lk) (T':Nat) (V':bI) (cC:Value) (F':Nat→Prop),cv= .int .i64 c∧agb Z f T t.V 0 q E c f' T' V'∧dm Z B Nn wx {t with tv:=cC,V:=V',F:=F'} f' T' (K+1)∧fD w t wx {t with tv:=cC,V:=V',F:=F'}
theorem aEg (h:dm Z B Nn w t f T K) (hl:t.V.tabs.length≤5000) {E:cH} (hA:tB w av E.add) (hD:Ints w dv E.drop) (oM:E.add.length≤5000) (ic:E.drop.length≤10000) (hk:jz E.add≤60000000) (uG:(bz t.V E).1=0→Au E) (hn:0<Nn) {q:List UInt8×Nat} (hq:f (cX 0)=some q):
  Calls Tryz.prog 63 #[.pointer (some ⟨t.sb,0,none⟩),.agg (dN av dv E.seq E.next E.wal)] w fun e w'=>∃ cv,e= .returned cv∧Sq Z B Nn w t f T K q E cv w':=by
 refine (axH h.set h.own hl hA hD oM ic hk uG h.bg (h.base t.sb (.inr (.inr (.inr (.inl rfl))))) h.jn hn (by omega) hq).mono ?_;rintro e w' ⟨c,f',T',V',cC,F',rfl,hcm,hS,ho,hd,hs⟩;have MN:w'.heap[t.sb]?=some (.cells (setCells t.p cC V' ((0:Nat):Int)) 154 (0,0)):=hS;obtain ⟨h1,h2⟩:=h.com hS ho hd hs (hd.apart MN (by decide) (by decide) (by decide));exact ⟨_,rfl,c,f',T',V',cC,F',rfl,hcm,h1,h2⟩
theorem alU (h:eJ Z B Nn A C i w t f T K s) (hA:A≤100000) (hC:C≤1000000) (hi:i+3≤Nn) (zG:i≤900000) (ib:s.V.tabs.length≤4999):
  Calls Tryz.prog 37 #[.pointer (some ⟨t.db,0,none⟩)] w (aEd Z B Nn A C i w t T s):=by
 obtain ⟨aU,cK⟩:=h.tree.mem;have jJ:t.ns.length=(aN s.LL).length:=by rw [←h.mem,bF]
 obtain ⟨n,hn⟩:∃ n:Nat,s.V.next=(n:Int):=⟨s.V.next.toNat,by have:=h.lim.ER;omega⟩
 have Sr:n≤i:=by have:=h.lim.next;omega
 have jP:=h.Cg;have GI:(aN s.LL).length≤A:=by have:=h.lim.pB;omega
 have hLc:costs (aN s.LL)≤C:=by have:=h.lim.cost;omega
 have MO:=Sp (aN s.LL);have hval:∀ x∈aN s.LL,x.val.length≤33554432:=fun x hx=>(jP.ok x hx).val
 obtain ⟨fU,bs,oo,hm,nM,alW⟩:=h.last;have MP:t.m+1≤i:=by have h1:=h.m;have h2:=h.lim.wal;omega
 have alX:t.seq<18446744073709551616:=by have:=h.vJ;omega
 have pJ:f (eH n)=none:=by
  cases hfn:f (eH n) with
  |none=>rfl
  |some q=>
   obtain ⟨x,hx,iH⟩:=h.gM.only _ (MJ n) (by rw [hfn];simp);have h2:=alK iH;have h3:=h.gM.files x hx;have h4:=(h.gM.good.tabs x hx).file.1;omega
 have sH:=h.opt;obtain ⟨size,hsize⟩:∃ size:Nat,t.o.block=(size:Int):=⟨t.o.block.toNat,by have:=sH.1.2.2.1;omega⟩
 have Ik:1≤size:=by have:=sH.1.2.2.1;omega
 have QC:size≤67108864:=by have:=sH.1.2.2.2;omega
 have dS:t.o.block.toNat=size:=by omega
 have Ss:=h.V;have vK:=h.tree.own;rw [Ss] at vK;have hst:=h.tree.set;rw [Ss] at hst;have Zy:∀ b,t.N b→b<w.heap.size:=fun b hb=>(h.tree.apart b hb).1
 have uh:=VN hst vK (by omega);have hall:=fun (W:World) (hg:Grow w W)=>aBo (cK.grow hg) (fun b hb=>cf (Zy b hb) hg.size) (by rw [jJ];omega)
 rw [h.mem] at hall;obtain ⟨c0,_,c7,c8,_,_,_,bu⟩:=h.tree.cell.cells;have Su:=ae (fD.refl w t);have H0:=ae h;have qh:=ae (aCE cK);have aEh:=ae Zy;have FO:=ae jJ;have Hn:=ae hn;have MQ:=ae Sr;have ET:=ae jP;have Sv:=ae GI;have HLc:=ae hLc;have alZ:=ae MO;have ama:=ae hval;have Hm:=ae hm;have aEi:=ae nM;have aEj:=ae alW;have MR:=ae MP;have amb:=ae alX;have Ov:=ae pJ;have rj:=ae (ag hsize (ag Ik (ag QC dS)));have HV:=ae Ss;have BS:=ae uh;have gj:=ae hall;have vM:=ae (ag hA (ag hC (ag hi (ag zG ib))));have Ch:=ae oo;clear cK h hn Sr jP GI hLc MO hval hm nM alW MP alX pJ sH hsize Ik QC dS Ss vK hst Zy uh hall hA hC hi zG ib oo;go_enter Tryz.func37,Tryz.ntmps37
 go_wp2_with fail
 (with_reducible refine qh.out.mono ?_);rintro e w1 ⟨rfl,rfl⟩;by_cases hz:t.ns.length=0
 ·have e0:((t.ns.length:Int)==0)=true:=by simp [hz]
  have Hz:=ae hz;clear hz jJ;go_wp2;go_ret;exact ⟨0,t,f,T,K,s,rfl,Su.out,H0.out.more (Nat.le_succ i),fun x=>Iff.rfl,rfl,rfl,rfl,Nat.le_succ _,.inl rfl,by omega,.inr ⟨rfl,rfl⟩⟩
 have e0:((t.ns.length:Int)==0)=false:=beq_eq_false_iff_ne.2 (by omega);have Hz:=ae hz;clear hz jJ;have hvn:=fun (tv:Value) (W:World)=>aCq tv s.V.seq s.V.next s.V.wal W
 rw [Hn.out] at hvn;have uh:=BS.out;rw [Hn.out] at uh;have amc:=ae uh;obtain ⟨s0,_⟩:=H0.out.tree.set.cells;have nr:t.sb<w1.heap.size:=H0.out.tree.set.cells.2.2.2.2.2.2;clear uh BS
 go_wp2_with fail
 (with_reducible refine amc.out.mono ?_);rintro e w2 ⟨v2,rfl,_,hg2⟩;clear c0 c7 c8 bu s0 nr;obtain ⟨c0,_,c7,c8,_,_,_,bu⟩:=(H0.out.tree.grow hg2).cell.cells;have fA:=ae hg2;clear hg2
 go_wp2_with fail
 (with_reducible refine (gj.out w2 fA.out).mono ?_);rintro e w3 qD;obtain ⟨Bl,rfl,hg3,LH⟩:=aEf qD (fun b hb=>cf (aEh.out b hb) fA.out.size) (by have:=Sv.out;have:=vM.out.1;omega) (fun x hx=>by have:=ama.out x hx;omega);have pS:=fA.out.trans hg3;have QD:=ae LH;clear c0 c7 c8 bu qD LH;obtain ⟨c0,_,c7,c8,_,_,_,bu⟩:=(H0.out.tree.grow pS).cell.cells;have BJ:=ae pS;clear pS hg3
 go_wp2_with fail
 (with_reducible refine QD.out.mono ?_);rintro e w4 ⟨v4,ys,rfl,bQ,hrow,hg4⟩;clear QD;have qd:=BJ.out.trans hg4;have xJ:=H0.out.tree.grow qd;have hE:Es (fun b=>w3.heap.size≤b) w4 v4 ys:=hrow.es (fun b hb=>hb.elim (fun x=>x.elim) id);have EU:ys.length=(aN s.LL).length:=by rw [←bQ,bF]
 have Ci:aN s.LL≠ []:=fun e=>by have h1:=FO.out;rw [e] at h1;exact Hz.out h1
 have amd:0<ys.length:=by rw [EU];exact List.length_pos_iff.2 Ci
 obtain ⟨y0,qw⟩:∃ y,ys[0]?=some y:=⟨ys[0],by simp [amd]⟩
 obtain ⟨y1,zD⟩:∃ y,ys[ys.length-1]?=some y:=⟨ys[ys.length-1],by rw [dZ (by omega)]⟩
 have IK:∀ y∈ys,BN y.e:=fun y hy=>ET.out.ok _ (by rw [←bQ];exact aZ.2 ⟨y,hy,rfl⟩)
 have kP:y0.e.key.size≤65535:=(IK y0 (dB qw)).key;have mY:y1.e.key.size≤65535:=(IK y1 (dB zD)).key;have uM:(aN s.LL)[0]?.map En.key=some y0.e.key:=by rw [getLast_map bQ,qw];rfl
 have gC:(aN s.LL)[(aN s.LL).length-1]?.map En.key=some y1.e.key:=by rw [←EU,getLast_map bQ,zD];rfl
 have hb1:=vM.out;have hb2:=Sv.out;have hb3:=HLc.out;have hb4:=alZ.out;have tP:=MQ.out;have hwr:=aCH (N:=Nn) (lvl:=0) (n:=n) xJ.cell xJ.set xJ.bg xJ.jn (by omega) (by omega) Ov.out hE (fun b hb hF=>by have h1:=(H0.out.tree.bg.foot hF).2;have h2:=BJ.out.size;omega) (by rw [EU];omega) (by rw [bQ];exact ET.out.ord) (by rw [bQ];exact ET.out.gone) rj.out.1 rj.out.2.1 rj.out.2.2.1
  (fun y hy=>⟨(IK y hy).key,(IK y hy).seq,(IK y hy).val⟩) (by rw [bQ,EU];omega) (by rw [bQ,EU];have:=akJ (size:=size) Ci (by omega) (by omega);omega) qw zD
 rw [bQ,EU] at hwr;have Hwr:=ae hwr;have Hk:=ae (ag kP (ag mY (ag uM gC)));have qQ:=ae Ci;have hDl:(gX size (aN s.LL)).length≤300000000:=akJ (size:=size) Ci (by omega) (by omega);have HDl:=ae hDl;obtain ⟨va,vc,rfl⟩:=hE.slice;have vN:=ae xJ;have Mm:=ae qd;obtain ⟨D,hD⟩:∃ D,D=gX size (aN s.LL):=⟨_,rfl⟩
 have HD:=ae hD;generalize y0.e.key=k0 at*;generalize y1.e.key=k1 at*;clear xJ hE EU Ci amd qw zD IK kP mY uM gC hb1 hb2 hb3 hb4 tP hwr hDl qd hrow bQ hg4 c0 c7 c8 bu hD BJ gj amc qh;obtain ⟨c0,_,c7,c8,_,_,_,bu⟩:=vN.out.cell.cells
 go_wp2_with fail
 (with_reducible refine Hwr.out.mono ?_);rintro e w5 hp;clear Hwr c0 c7 c8 bu;rw [show gS (eN size [] (aN s.LL)) (aN s.LL).length (dV (aN s.LL))=D from HD.out.symm] at hp;rcases hp with ⟨hroom,rfl,F5,iG,hs5⟩|⟨qH,rfl,F5,iG,hs5⟩
 rotate_left
 ·obtain ⟨sI,zH⟩:=vN.out.EN iG hs5
  have Sw:=ae sI;have Zz:=ae ((fD.bT t Mm.out).trans zH);have Mo:=ae qH;clear sI zH iG hs5 qH;go_wp2;go_ret;refine ⟨5,{t with F:=F5},f,T,K+1,s,rfl,Zz.out.grow (ar _ _),H0.out.put (Sw.out.grow (ar _ _)) rfl rfl rfl rfl rfl rfl rfl (by omega),fun x=>Iff.rfl,rfl,rfl,rfl,Nat.le_succ _,.inr ⟨rfl,.inl ?_⟩,by omega,.inr ⟨rfl,rfl⟩⟩;rw [rj.out.2.2.2,←HD.out];have:=Mo.out;omega
 obtain ⟨sI,zH⟩:=vN.out.EN iG hs5;have hgr:=ar w5 (.cells #[.int .i64 (n:Int),.int .i64 0,.string k0,.string k1,.int .i64 (D.length:Int)] 101);have fC:=ax w5 (.cells #[.int .i64 (n:Int),.int .i64 0,.string k0,.string k1,.int .i64 (D.length:Int)] 101);have sJ:=sI.grow hgr;have MS:=ae (((fD.bT t Mm.out).trans zH).grow hgr);have KO:=ae hroom;clear iG hs5 zH sI hroom;have hL6:dT (w5.alloc (.cells #[.int .i64 (n:Int),.int .i64 0,.string k0,.string k1,.int .i64 (D.length:Int)] 101)) t.lb t.p cr (t.m:Int):=sJ.log;have yX:(f.set (eH n) (D,D.length)) (bD cr t.m)=some (bZ aq (bs.map kx),(bZ aq (bs.map kx)).length):=by rw [ik _ (Ne.symm (sG (vD n) _))];exact aEi.out
 have amg:(f.set (eH n) (D,D.length)) (bD cr (t.m+1))=none:=by rw [ik _ (Ne.symm (sG (vD n) _))];exact aEj.out
 have amh:=axE Gr sJ.bg hL6 sJ.jn (sJ.base t.lb (.inr (.inr (.inr (.inr (.inl rfl)))))) yX amg (by have:=MR.out;have:=vM.out;omega) (by have:=MR.out;have:=vM.out;omega);have xy:ep (w5.alloc (.cells #[.int .i64 (n:Int),.int .i64 0,.string k0,.string k1,.int .i64 (D.length:Int)] 101)) t.db t.sb t.o t.drv (.pointer (some ⟨t.lb,0,none⟩)) t.mb t.tm t.seq t.hm:=sJ.cell;obtain ⟨c0,_,c7,c8,_,_,_,bu⟩:=xy.cells;have ami:=ae amh;have ZA:=ae sJ;have lO:=ae fC;clear hL6 yX amg amh xy sJ fC hgr
 go_upto_region 5 with fail
 generalize w5.alloc (.cells #[.int .i64 (n:Int),.int .i64 0,.string k0,.string k1,.int .i64 (D.length:Int)] 101)=w6 at*;generalize w5.heap.size=rb at*
 go_wp2_with fail
 (with_reducible refine ami.out.mono ?_);rintro e w7 ⟨rfl,F7,uZ,QJ,oT⟩;obtain ⟨ht7,ZB⟩:=ZA.out.Mp QJ uZ oT;have DC:=ae (MS.out.trans ZB);have amk:w7.heap[rb]?=some (.cells #[.int .i64 (n:Int),.int .i64 0,.string k0,.string k1,.int .i64 (D.length:Int)] 101 (0,0)):=(ZB.sep.out rb (af lO.out) (ZA.out.off lO.out (by decide))).trans lO.out;have DD:=ae ht7;have IL:=ae amk;clear ami MS uZ QJ oT ZB ht7 amk c0 c7 c8 bu
 go_upto_region 9 with fail
 have hgd:=az w7;have S9:∀ W,Grow w7 W→(W.cell? ⟨t.db,0,none⟩=some (.pointer (some ⟨t.sb,0,none⟩))∧W.cell? ⟨t.db,7,none⟩=some (.pointer (some ⟨t.lb,0,none⟩))∧W.cell? ⟨t.db,10,none⟩=some (.int .u64 (t.seq:Int))∧t.db<W.heap.size)∧(W.cell? ⟨rb,0,none⟩=some (.int .i64 (n:Int))∧W.cell? ⟨rb,1,none⟩=some (.int .i64 0)∧W.cell? ⟨rb,2,none⟩=some (.string k0)∧W.cell? ⟨rb,3,none⟩=some (.string k1)∧W.cell? ⟨rb,4,none⟩=some (.int .i64 (D.length:Int))∧rb<W.heap.size):=fun W hg=>by
  have hC:ep W t.db t.sb t.o t.drv (.pointer (some ⟨t.lb,0,none⟩)) t.mb t.tm t.seq t.hm:=(DD.out.grow hg).cell;obtain ⟨c0,_,c7,_,_,c10,_,bu⟩:=hC.cells;obtain ⟨r0,r1,r2,r3,r4⟩:=dw (hg.heap IL.out);exact ⟨⟨c0,c7,c10,bu⟩,r0,r1,r2,r3,r4,af (hg.heap IL.out)⟩
 have IM:=ae S9;clear S9;have Jq:IntKind.i64.wrap ((n:Int)+1)=(n:Int)+1:=aS _ (by have:=MQ.out;have:=vM.out;omega);have hCm:∀ W qb,Grow w7 W→W.heap[qb]?=some (.cells #[.int .i64 (n:Int),.int .i64 0,.string k0,.string k1,.int .i64 (D.length:Int)] 101 (0,0))→
   Calls Tryz.prog 63 #[.pointer (some ⟨t.sb,0,none⟩),.agg (dN (.slice (some ⟨qb,0,none⟩) 1 1) (.slice none 0 0) (t.seq:Int) ((n:Int)+1) ((t.m+1:Nat):Int))] W fun e w'=>∃ cv,e= .returned cv∧Sq Z B Nn w7 {{t with F:=F5} with m:=t.m+1,F:=F7} ((f.set (eH n) (D,D.length)).set (bD cr (t.m+1)) ([],0)) (T+D.length) (K+1+1) (lY s.es,(lY s.es).length) (bX s t.seq D.length k0 k1 (t.m+1)) cv w':=fun W qb hg hq=>by
  obtain ⟨E,hE⟩:∃ E,E=bX s t.seq D.length k0 k1 (t.m+1):=⟨_,rfl⟩
  have e1:E.seq=(t.seq:Int):=by rw [hE];rfl
  have e2:E.next=(n:Int)+1:=by rw [hE];show s.V.next+1=_;rw [Hn.out]
  have e3:E.wal=((t.m+1:Nat):Int):=by rw [hE];rfl
  have e4:E.add= [⟨s.V.next,0,k0,k1,(D.length:Int)⟩]:=by rw [hE];rfl
  have e5:E.drop= []:=by rw [hE];rfl
  have hA:tB W (.slice (some ⟨qb,0,none⟩) 1 1) E.add:=by
   rw [e4];refine ⟨_,_,rfl,.inr ⟨qb,0,rfl,af hq,fun i x hx c u hu=> ?_⟩⟩;cases i with
   |zero=>
    simp only [List.getElem?_cons_zero,Option.some.injEq] at hx;subst hx;rw [Hn.out] at hu;obtain ⟨r0,r1,r2,r3,r4⟩:=dw hq
    match c,hu with
    |0,hu=>cases hu;exact r0
    |1,hu=>cases hu;exact r1
    |2,hu=>cases hu;exact r2
    |3,hu=>cases hu;exact r3
    |4,hu=>cases hu;exact r4
   |succ i=>simp at hx
  have hD:Ints W (.slice none 0 0) E.drop:=by rw [e5];exact ⟨none,0,rfl,aw _,.inl rfl⟩
  have hk:jz E.add=k0.size+k1.size:=by rw [e4];simp [jz]
  have hb:=vM.out;have vO:=Hk.out;have vK:t.V=s.V:=HV.out;have hc:=aEg (DD.out.grow hg) (by dsimp only;rw [vK];omega) hA hD (by rw [e4];simp) (by rw [e5];simp) (by rw [hk];omega) (fun ha=>by
   dsimp only at ha;rw [vK,hE] at ha;rw [hE];exact alM H0.out.gM.good amb.out vO.1 vO.2.1 ha) (by omega) (q:=(lY s.es,(lY s.es).length)) (by
   rw [ik _ (sG (BX 0) _),ik _ (Ne.symm (Zt _ _))];exact H0.out.gM.IG)
  rw [e1,e2,e3] at hc;refine hc.mono ?_;rintro e w' ⟨cv,rfl,c,f',T',V',cC,F',h1,h2,h3,h4⟩;rw [←hE];exact ⟨cv,rfl,c,f',T',V',cC,F',h1,h2,h3,(fD.bT _ hg).trans h4⟩
 have ZC:=ae hCm;clear hCm;have wY:∀ wx cv,Sq Z B Nn w7 {{t with F:=F5} with m:=t.m+1,F:=F7} ((f.set (eH n) (D,D.length)).set (bD cr (t.m+1)) ([],0)) (T+D.length) (K+1+1) (lY s.es,(lY s.es).length) (bX s t.seq D.length k0 k1 (t.m+1)) cv wx→(wx.cell? ⟨t.db,0,none⟩=some (.pointer (some ⟨t.sb,0,none⟩))∧wx.cell? ⟨t.db,7,none⟩=some (.pointer (some ⟨t.lb,0,none⟩))∧wx.cell? ⟨t.db,10,none⟩=some (.int .u64 (t.seq:Int))∧t.db<wx.heap.size)∧(wx.cell? ⟨rb,0,none⟩=some (.int .i64 (n:Int))∧wx.cell? ⟨rb,1,none⟩=some (.int .i64 0)∧wx.cell? ⟨rb,2,none⟩=some (.string k0)∧wx.cell? ⟨rb,3,none⟩=some (.string k1)∧wx.cell? ⟨rb,4,none⟩=some (.int .i64 (D.length:Int))∧rb<wx.heap.size):=by
  rintro wx cv ⟨c,f',T',V',cC,F',h1,h2,h3,h4⟩;have hC:ep wx t.db t.sb t.o t.drv (.pointer (some ⟨t.lb,0,none⟩)) t.mb t.tm t.seq t.hm:=h3.cell;obtain ⟨c0,_,c7,_,_,c10,_,bu⟩:=hC.cells;have hr:=(h4.sep.out rb (af IL.out) (DD.out.off IL.out (by decide))).trans IL.out;obtain ⟨r0,r1,r2,r3,r4⟩:=dw hr;exact ⟨⟨c0,c7,c10,bu⟩,r0,r1,r2,r3,r4,af hr⟩
 have ZE:=ae wY;clear wY
 go_cut [6] from 40 to 58 (fun cv wx=>Sq Z B Nn w7 {{t with F:=F5} with m:=t.m+1,F:=F7} ((f.set (eH n) (D,D.length)).set (bD cr (t.m+1)) ([],0)) (T+D.length) (K+1+1) (lY s.es,(lY s.es).length) (bX s t.seq D.length k0 k1 (t.m+1)) cv wx)
 case first=>
  refine Xa (fun W=>(W.cell? ⟨t.db,0,none⟩=some (.pointer (some ⟨t.sb,0,none⟩))∧W.cell? ⟨t.db,7,none⟩=some (.pointer (some ⟨t.lb,0,none⟩))∧W.cell? ⟨t.db,10,none⟩=some (.int .u64 (t.seq:Int))∧t.db<W.heap.size)∧(W.cell? ⟨rb,0,none⟩=some (.int .i64 (n:Int))∧W.cell? ⟨rb,1,none⟩=some (.int .i64 0)∧W.cell? ⟨rb,2,none⟩=some (.string k0)∧W.cell? ⟨rb,3,none⟩=some (.string k1)∧W.cell? ⟨rb,4,none⟩=some (.int .i64 (D.length:Int))∧rb<W.heap.size)) [(0,false),(1,false),(2,false),(3,false),(4,false),(6,false),(7,false),(8,false),(9,false),(10,false),(11,false),(12,false),(13,false),(14,false),(15,false)] 5 16 [(16,true),(17,false),(18,true),(19,false)] [(5,true),(17,false),(18,true),(19,false)] (by kernel_rfl) (by kernel_rfl) (bK fun _ _ _ _ _ h=>h) (IM.out _ hgd) ?_;simp only [cm,nth]
  repeat ((first|(refine aA (v:= ?_) (by rfl) ?_ ?_;rotate_left;rintro W ⟨⟨hW0,hW1,hW2,hW3⟩,pX,wU,tJ,yQ,yR,EO⟩;go_simp;with_reducible rfl)|refine aB (by rfl) ?_);simp only [ai,List.set])
  have ah:=ar w7.drew (.cells #[.int .i64 (n:Int),.int .i64 0,.string k0,.string k1,.int .i64 (D.length:Int)] 101);have di:=hgd.trans ah;have hrun:=avC w7.drew n 0 k0 k1 D.length;have hq:=ax w7.drew (.cells #[.int .i64 (n:Int),.int .i64 0,.string k0,.string k1,.int .i64 (D.length:Int)] 101);have lZ:∀ W,Grow w7 W→dT W t.lb t.p cr ((t.m+1:Nat):Int):=fun W hg=>(DD.out.grow hg).log
  refine bj (Xb ?_ ?_)
  ·simp only [cm,nth]
   refine fO (by rfl) (fun K hK=> ?_);go_simp;refine hK _ _ ⟨IM.out _ di,?_⟩;clear hK K
   try simp only [ai,List.set,aC]
   refine bp (by rfl) (by go_simp) (VY (lZ _ di)) ?_;rintro e w9 ⟨rfl,rfl⟩;refine ⟨_,rfl,IM.out _ di,?_⟩
   try simp only [ai,List.set,aC]
   repeat ((first|(refine aA (v:= ?_) (by rfl) ?_ ?_;rotate_left;rintro W ⟨⟨hW0,hW1,hW2,hW3⟩,pX,wU,tJ,yQ,yR,EO⟩;go_simp;with_reducible rfl)|refine aB (by rfl) ?_);simp only [ai,List.set])
   refine bp (by rfl) (by go_simp) (ZC.out _ _ di hq) ?_;rintro e wa ⟨cv,rfl,hcm⟩;refine ⟨_,rfl,ZE.out _ _ hcm,?_⟩;have ZF:=ae hcm;clear hcm hrun ah hgd hq di
   try simp only [ai,List.set,aC]
   repeat ((first|(refine aA (v:= ?_) (by rfl) ?_ ?_;rotate_left;rintro W ⟨⟨hW0,hW1,hW2,hW3⟩,pX,wU,tJ,yQ,yR,EO⟩;go_simp;with_reducible rfl)|refine aB (by rfl) ?_);simp only [ai,List.set])
   refine bj ?_
   go_wp2_with fail
   go_meet;exact ZF.out
  ·simp only [cm,nth]
   refine bp (by rfl) (by go_simp) (VY (lZ _ hgd)) ?_;rintro e w9 ⟨rfl,rfl⟩;refine ⟨_,rfl,IM.out _ hgd,?_⟩
   try simp only [ai,List.set,aC]
   refine fO (by rfl) (fun K hK=> ?_);go_simp;refine hK _ _ ⟨IM.out _ di,?_⟩;clear hK K
   try simp only [ai,List.set,aC]
   repeat ((first|(refine aA (v:= ?_) (by rfl) ?_ ?_;rotate_left;rintro W ⟨⟨hW0,hW1,hW2,hW3⟩,pX,wU,tJ,yQ,yR,EO⟩;go_simp;with_reducible rfl)|refine aB (by rfl) ?_);simp only [ai,List.set])
   refine bp (by rfl) (by go_simp) (ZC.out _ _ di hq) ?_;rintro e wa ⟨cv,rfl,hcm⟩;refine ⟨_,rfl,ZE.out _ _ hcm,?_⟩;have ZF:=ae hcm;clear hcm hrun ah hgd hq di
   try simp only [ai,List.set,aC]
   repeat ((first|(refine aA (v:= ?_) (by rfl) ?_ ?_;rotate_left;rintro W ⟨⟨hW0,hW1,hW2,hW3⟩,pX,wU,tJ,yQ,yR,EO⟩;go_simp;with_reducible rfl)|refine aB (by rfl) ?_);simp only [ai,List.set])
   refine bj ?_
   go_wp2_with fail
   go_meet;exact ZF.out
 case rest=>
 obtain ⟨c,f8,T8,V8,tv8,F8,rfl,hcm,rT,wL⟩:=hcut;have hE:(bX s t.seq D.length k0 k1 (t.m+1))=(bX s t.seq (gX t.o.block.toNat (aN s.LL)).length k0 k1 (t.m+1)):=by rw [rj.out.2.2.2,←HD.out]
 have vK:t.V=s.V:=HV.out;have Hs8:=ae (DC.out.trans wL);have yC:=ae rT;have hl8:ep wc t.db t.sb t.o t.drv (.pointer (some ⟨t.lb,0,none⟩)) t.mb t.tm t.seq t.hm:=rT.cell;have HC8:=ae hl8;have HE:=ae hE;clear wL rT ZC ZE IM DC DD IL Jq hgd hl8 lO ZA hE;have eY:(dA (bX s t.seq D.length k0 k1 (t.m+1))).length≤2*costs (aN s.LL)+100:=by
  have h1:=alL (s:=s) (seq:=t.seq) (D:=D.length) (k0:=k0) (k1:=k1) (wal:=t.m+1);have h2:=alS Hk.out.2.2.1;have h3:=alS Hk.out.2.2.2;omega
 have ed:(bB aq (dA (bX s t.seq D.length k0 k1 (t.m+1)))).length≤2*costs (aN s.LL)+114:=by
  have h1:=my aq (dA (bX s t.seq D.length k0 k1 (t.m+1)));have h2:=cB (dA (bX s t.seq D.length k0 k1 (t.m+1))).length;omega
 rcases hcm with ⟨ha,amq,rfl,rfl,rfl,rfl⟩|Dt
 rotate_left
 ·have aEl:c≠0∧f8=(f.set (eH n) (D,D.length)).set (bD cr (t.m+1)) ([],0)∧T8=T+D.length∧V8=t.V∧(Z<T+D.length+(2*costs (aN s.LL)+200)∨(bz s.V (bX s t.seq D.length k0 k1 (t.m+1))).1≠0):=by
   rcases Dt with ⟨_,h2,rfl,h4,h5,h6⟩|⟨h1,rfl,h4,h5,h6⟩
   ·exact ⟨by decide,h4,h5,h6,.inl (by omega)⟩
   ·dsimp only at h1
    exact ⟨h1,h4,h5,h6,.inr (by rw [←vK];exact h1)⟩
  obtain ⟨hc0,rfl,rfl,rfl,amr⟩:=aEl;have aEm:=ae amr;have e1:(c != 0)=true:=by simpa using hc0
  clear Dt amr hc0 eY ed vK
  go_upto_region 11 with fail
  have hgd:=az wc;have S11:∀ W,Grow wc W→W.cell? ⟨t.db,0,none⟩=some (.pointer (some ⟨t.sb,0,none⟩))∧t.db<W.heap.size∧W.cell? ⟨t.sb,0,none⟩=some (.pointer (some ⟨t.p,0,none⟩))∧t.sb<W.heap.size:=fun W hg=>by
   obtain ⟨c0,_,_,_,_,_,_,bu⟩:=(HC8.out.grow hg).cells;have hS:eh W t.sb t.p tv8 t.V ((0:Nat):Int):=(yC.out.grow hg).set;exact ⟨c0,bu,hS.cells.1,hS.cells.2.2.2.2.2.2⟩
  have ZG:=ae S11;clear S11;refine dz (fun W=>W.cell? ⟨t.db,0,none⟩=some (.pointer (some ⟨t.sb,0,none⟩))∧t.db<W.heap.size∧W.cell? ⟨t.sb,0,none⟩=some (.pointer (some ⟨t.p,0,none⟩))∧t.sb<W.heap.size) [8,0,0] (by kernel_rfl) (bK fun _ _ _ _ _ h=>h) (ZG.out _ hgd) ?_;simp only [cF]
  repeat ((first|(refine aA (v:= ?_) (by rfl) ?_ ?_;rotate_left;rintro W ⟨hW0,hW1,hW2,hW3⟩;go_simp;with_reducible rfl)|refine aB (by rfl) ?_);simp only [ai,List.set])
  refine bp (by rfl) (by go_simp) (XP (yC.out.grow hgd).jn (n:=n) (by have:=MQ.out;have:=vM.out;omega) (by have:=MQ.out;have:=vM.out;omega)) ?_;rintro e w9 ⟨rfl,vx⟩;have pD:=hgd.trans vx;refine ⟨_,rfl,ZG.out _ pD,?_⟩
  try simp only [ai,List.set,aC]
  have hgb:=ar w9 (.cells #[.string (eH n)] 9);have MT:=pD.trans hgb;refine sR (by rfl) (sQ (v:= .string (eH n)) rfl Tryz.underlying95 Tryz.Og rfl rfl rfl) (ZG.out _ MT) ?_
  try simp only [ai,List.set,aC]
  have hdd:Dl Z B (w9.alloc (.cells #[.string (eH n)] 9)) t.p t.r ((f.set (eH n) (D,D.length)).set (bD cr (t.m+1)) ([],0)) (T+D.length) (K+1+1+1) F8:=(yC.out.grow MT).bg;refine bp (by rfl) (by go_simp) (UF hdd (q:=(D,D.length)) (by rw [ik _ (sG (vD n) _),rI]) (ax _ _)) ?_;rintro e wb ⟨rfl,F9,gJ,jN⟩;obtain ⟨xB,amt⟩:=(yC.out.grow MT).EN gJ jN;have EW:ep wb t.db t.sb t.o t.drv (.pointer (some ⟨t.lb,0,none⟩)) t.mb t.tm t.seq t.hm:=xB.cell;have IE:eh wb t.sb t.p tv8 t.V ((0:Nat):Int):=xB.set;refine ⟨_,rfl,⟨EW.cells.1,EW.cells.2.2.2.2.2.2.2,IE.cells.1,IE.cells.2.2.2.2.2.2⟩,?_⟩;have Ht9:=ae xB;have Hs9:=ae ((Hs8.out.grow MT).trans amt);clear xB amt gJ jN hdd MT hgb pD vx hgd EW IE
  try simp only [ai,List.set,aC]
  refine bj ?_;go_wp2;go_ret;refine ⟨5,_,_,_,_,{s with LL:=s.LL++ [[]]},rfl,Hs9.out,H0.out.aEa Ht9.out rfl rfl rfl rfl rfl rfl ?_ (by omega),fun x=>by rw [show eu {s with LL:=s.LL++ [[]]}=eu s from Zx s.V s.LL s.ay s.es],rfl,rfl,rfl,Nat.le_succ _,.inr ⟨rfl,?_⟩,by omega,.inr ⟨by omega,MI _⟩⟩
  ·rw [atX _ (sG (vD n) _),adw,UC (by rw [ik _ (sG (vD n) _)];exact Ov.out)]
  ·rcases aEm.out with h1|h1
   ·exact .inl (by rw [rj.out.2.2.2,←HD.out];exact h1)
   ·exact .inr ⟨k0,k1,Hk.out.2.2.1,Hk.out.2.2.2,by rw [←HE.out];exact h1⟩
 have aLF:=ae amq;have qC:=ae ed;dsimp only at ha;rw [vK] at ha;have Ha:=ae ha;clear amq ed eY ha vK
 go_upto_region 13 with fail
 have hgd:=az wc;have ZH:∀ W,Grow wc W→W.cell? ⟨t.db,7,none⟩=some (.pointer (some ⟨t.lb,0,none⟩))∧t.db<W.heap.size:=fun W hg=>by
  obtain ⟨_,_,c7,_,_,_,_,bu⟩:=(HC8.out.grow hg).cells;exact ⟨c7,bu⟩
 refine dz (fun W=>W.cell? ⟨t.db,7,none⟩=some (.pointer (some ⟨t.lb,0,none⟩))∧t.db<W.heap.size) [8,0] (by kernel_rfl) (bK fun _ _ _ _ _ h=>h) (ZH _ hgd) ?_;simp only [cF];have aEp:=ae ZH;clear ZH
 repeat ((first|(refine aA (v:= ?_) (by rfl) ?_ ?_;rotate_left;rintro W ⟨hW0,hW1⟩;go_simp;with_reducible rfl)|refine aB (by rfl) ?_);simp only [ai,List.set])
 have lZ:dT wc.drew t.lb t.p cr ((t.m+1:Nat):Int):=(yC.out.grow hgd).log;refine bp (by rfl) (by go_simp) (VY lZ) ?_;rintro e w9 ⟨rfl,rfl⟩;refine ⟨_,rfl,aEp.out _ hgd,?_⟩
 try simp only [ai,List.set,aC]
 obtain ⟨X,hX⟩:∃ X,X=lY s.es++bB aq (dA (bX s t.seq D.length k0 k1 (t.m+1))):=⟨_,rfl⟩
 have HX:=ae hX;have Sx:t.m+1=s.V.wal.toNat+s.LL.length∧0<s.LL.length:=by
  have h1:=H0.out.m;have h2:=H0.out.lim.xH;have h3:=List.length_pos_iff.2 H0.out.ne;omega
 have amu:gK (((f.set (eH n) (D,D.length)).set (bD cr (t.m+1)) ([],0)).set (cX 0) (X,X.length)) s.V.wal.toNat (gF (jb s.LL)++ [[]]):=by
  have h3:=((H0.out.log.RS (vD n) (D,D.length)).Mp).RS (BX 0) (X,X.length);rw [zF,←Sx.1] at h3;exact h3
 have xB:=yC.out.grow hgd;have gJ:Dl Z B wc.drew t.p t.r (((f.set (eH n) (D,D.length)).set (bD cr (t.m+1)) ([],0)).set (cX 0) (X,X.length)) (T+D.length+(bB aq (dA (bX s t.seq D.length k0 k1 (t.m+1)))).length) (K+1+1+1) F8:=by rw [hX];exact xB.bg
 have xm:(gF (jb s.LL)++ [[]]).length=s.LL.length+1:=by rw [aJ,zF];rfl
 have hb0:=vM.out;have hb1:=MR.out;have MU:=H0.out.K;have EX:=aga (b:=s.LL.length) rfl amu gJ lZ xB.jn (by omega) (by rw [xm];omega) (by rw [xm];omega) (by rw [xm];omega) (by rw [xm];omega) (by rw [xm];omega);rw [show s.V.wal.toNat+s.LL.length=t.m+1 from Sx.1.symm] at EX;refine bp (by rfl) (by go_simp) EX ?_;rintro e wd ⟨rfl,F9,hdd,nk,hsd⟩;obtain ⟨ZI,amw⟩:=xB.EN hdd hsd;have ZJ:ep wd t.db t.sb t.o t.drv (.pointer (some ⟨t.lb,0,none⟩)) t.mb t.tm t.seq t.hm:=ZI.cell;obtain ⟨d0,_,d7,d8,_,_,_,bu⟩:=ZJ.cells;refine ⟨_,rfl,⟨d7,bu⟩,?_⟩;have IP:=ae ZI;have RZ:=ae ((Hs8.out.grow hgd).trans amw);have HCd:=ae ZJ;have GY:=ae Sx;clear ZI amw hsd hdd nk EX gJ xB amu lZ hX Sx xm hb0 hb1 MU hgd ZJ
 try simp only [ai,List.set,aC]
 refine bj ?_;obtain ⟨f9,Sy⟩:∃ f9,f9=oW cr s.V.wal.toNat (((f.set (eH n) (D,D.length)).set (bD cr (t.m+1)) ([],0)).set (cX 0) (X,X.length)) s.LL.length:=⟨_,rfl⟩
 rw [←Sy] at IP;have IQ:f9 (eH n)=some (gS (eN size [] (aN s.LL)) (aN s.LL).length (dV (aN s.LL)),(gS (eN size [] (aN s.LL)) (aN s.LL).length (dV (aN s.LL))).length):=by
  rw [Sy,Gs _ _ _ _ (fun j _=>sG (vD n) _),ik _ (Zt n 0),ik _ (sG (vD n) _),rI,HD.out]
 have hb1:=Sv.out;have hb2:=HLc.out;have hb3:=alZ.out;have hb4:=vM.out;have tP:=MQ.out;have js:=akp HCd.out IP.out.set IP.out.bg IP.out.jn (n:=n) (by omega) (by omega) IQ qQ.out ET.out.ord ET.out.gone ET.out.ok (by omega) (by omega) IP.out.tabs;have Hld:=ae js;have Hf9:=ae Sy;clear IQ hb1 hb2 hb3 hb4 tP js Sy
 go_wp2_with fail
 (with_reducible refine Hld.out.mono ?_);rintro e we ⟨rfl,tb,MV⟩;obtain ⟨yy,xt⟩:=IP.out.ldd MV ET.out.ord (by have:=Sv.out;have:=vM.out;omega) ama.out;clear d0 d7 d8 bu Hld;have Sz:ep we t.db t.sb t.o t.drv (.pointer (some ⟨t.lb,0,none⟩)) t.mb t.tm t.seq t.hm:=yy.cell;obtain ⟨d0,_,d7,d8,_,_,_,bu⟩:=Sz.cells;have d6:=Sz.drv;have hdr:Iw (fun b=>t.N b∨(wd.heap.size≤b∧b<we.heap.size)) we t.drv t.ds:=yy.draws;have Hmn:=ae (azK hdr);have Hte:=ae yy;have Ep:=ae (RZ.out.trans xt);have HCe:=ae Sz;clear yy xt hdr Sz MV
 go_wp2_with fail
 (with_reducible refine Hmn.out.mono ?_);rintro e wf ⟨mb',ha',OX,rfl,hM,iT,vt,IC⟩;obtain ⟨htf,MW⟩:=Hte.out.aDo hM iT vt IC;have ff:∀ j,wf.frozen? ⟨t.db,j,none⟩=false:=fun j=>by
  have h1:wf.heap[t.db]?=some (.cells (ru t.sb t.o t.drv (.pointer (some ⟨t.lb,0,none⟩)) t.mb t.tm t.seq t.hm) 93 (0,0)):=HCe.out.grow iT;simp [World.frozen?,h1]
 clear d0 d7 d8 bu d6 Hmn;obtain ⟨d0,_,d7,d8,_,_,_,bu⟩:=(HCe.out.grow iT).cells;have Htf:=ae htf;have Hsf:=ae (Ep.out.trans MW);clear htf MW hM iT vt IC;go_wp2;go_ret;have hE:=HE.out;have fB:=H0.out.aEb (b:=tb) (k0:=k0) (k1:=k1) Hn.out amb.out Hk.out.1 Hk.out.2.1 (by rw [←hE];exact Ha.out) qQ.out Htf.out (by dsimp only;rw [←hE,HV.out]) rfl rfl rfl rfl rfl (by
  rw [Hf9.out,HX.out,←hE,rj.out.2.2.2,←HD.out]) (by omega)
 refine ⟨0,_,_,_,_,_,rfl,Hsf.out,fB,alQ H0.out.gM.files (by rw [←hE];exact Ha.out),rfl,rfl,rfl,?_,.inl rfl,?_,.inl rfl⟩
 ·show (bz s.V _).2.tabs.length≤_
  rw [(MK (by rw [←hE];exact Ha.out)).length_eq];simp
 ·rw [rj.out.2.2.2,←HD.out]
  have:=qC.out;omega
end
section
def kW (y:Wr):Wr:=if y.gone then ⟨y.key,y.gone,[]⟩ else y
def kV (y:Wv):Wv:=if y.x.gone then ⟨⟨y.x.key,y.x.gone,[]⟩,.slice none 0 0⟩ else y
theorem amB (y:Wv):(kV y).x=kW y.x:=by unfold kV kW;split<;>rfl
theorem aEv (ys:List Wv):(ys.map kV).map (·.x)=(ys.map (·.x)).map kW:=by
 rw [eX,eX];exact iJ fun y _=>amB y
def mU (ws:List Wr):Prop:=16777216<bA ws∨∃ y∈ws,65535<y.key.size
instance (ws:List Wr):Decidable (mU ws):=by unfold mU;infer_instance
theorem aEw (ws:List Wr) (y:Wr):mU (ws++ [y])↔mU ws∨65535<y.key.size∨16777216<y.val.length∨16777216<bA (ws++ [y]):=by
 have h1:=HZ ws [y];have h2:bA [y]=y.key.size+y.val.length:=by simp [bA]
 unfold mU;constructor
 ·rintro (h|⟨z,hz,h⟩)
  ·exact .inr (.inr (.inr h))
  ·rcases cU.1 hz with hz|hz
   ·exact .inl (.inr ⟨z,hz,h⟩)
   ·rw [cY.1 hz] at h;exact .inr (.inl h)
 ·rintro ((h|⟨z,hz,h⟩)|h|h|h)
  ·exact .inl (by omega)
  ·exact .inr ⟨z,jw _ hz,h⟩
  ·exact .inr ⟨y,mX _ (List.mem_singleton_self y),h⟩
  ·exact .inl (by omega)
  ·exact .inl h
theorem aEx {ws:List Wr} (h:¬ mU ws):bA ws≤16777216∧∀ y∈ws,y.key.size≤65535:=by
 unfold mU at h;refine ⟨by omega,fun y hy=> ?_⟩;have h2:¬ 65535<y.key.size:=fun h3=>h (.inr ⟨y,hy,h3⟩)
 omega
variable {Z B Nn A C i:Nat} {w w':World} {t t':Tr} {f f':Lk} {T K T' K':Nat} {s:eP}
def MX (s:eP) (fU:List (List (Nat×List Wr))) (bs:List (Nat×List Wr)) (b:Nat×List Wr):eP:={s with LL:=fU++ [bs++ [b]]}
theorem amC {fU:List (List (Nat×List Wr))} {bs:List (Nat×List Wr)} (oo:s.LL=fU++ [bs]) {ws:List Wr} (hq:∀ e∈eu s,e.seq<q) (ho:cn (aN s.LL)) (x:En):
  x∈eu (MX s fU bs (q,ws))↔(∃ y,pg x.key ws=some y∧x=jD q y)∨x∈eu s:=by
 unfold eu MX;dsimp only;rw [MH,←oo,cU,cU,ahn ho];constructor
 ·rintro ((h|⟨h,_⟩)|h)
  ·exact .inl h
  ·exact .inr (.inl h)
  ·exact .inr (.inr h)
 ·rintro (h|h|h)
  ·exact .inl (.inl h)
  ·exact .inl (.inr ⟨h,fun e=>by have:=hq x (jw _ h);omega⟩)
  ·exact .inr h
theorem eJ.applied (h:eJ Z B Nn A C i w t f T K s) {fU:List (List (Nat×List Wr))} {bs:List (Nat×List Wr)} (oo:s.LL=fU++ [bs]) (hm:t.m=s.V.wal.toNat+fU.length) {ws:List Wr} (hb:MG (t.seq+1,ws))
  (ht:dm Z B Nn w' t' f' T' K') (hV:t'.V=t.V) (ho:t'.o=t.o) (jJ:t'.ns.map (fun n=>n.x.e)=gA (t.seq+1) ws (aN s.LL)) (kA:t'.m=t.m) (js:t'.ld=t.ld) (eD:t'.seq=t.seq+1)
  (hf:f'=f.set (bD cr t.m) (bZ aq (bs.map kx++ [kx (t.seq+1,ws)]),(bZ aq (bs.map kx++ [kx (t.seq+1,ws)])).length)) (hK:K'≤K+10):
  eJ Z B Nn (A+ws.length) (C+16*ws.length+bA ws) (i+1) w' t' f' T' K' (MX s fU bs (t.seq+1,ws)):=by
 have hl:=h.lim;have vk:=h.Cg.ord;have hall:=amC oo (q:=t.seq+1) (ws:=ws) (fun e he=>by have:=h.top e he;omega) vk;have jP:aN (fU++ [bs++ [(t.seq+1,ws)]])=gA (t.seq+1) ws (aN s.LL):=by rw [MH,←oo]
 obtain ⟨c1,c2⟩:=Rh (t.seq+1) (aN s.LL) ws;have gB:(fU++ [bs++ [(t.seq+1,ws)]]).flatten=s.LL.flatten++ [(t.seq+1,ws)]:=by rw [oo];simp
 have hlen:(fU++ [bs++ [(t.seq+1,ws)]]).length=s.LL.length:=by rw [oo];simp
 refine ⟨ht,by rw [hV];exact h.V,?_,?_,by rw [hf];exact ry.set h.sync _ _,?_,by rw [jJ];exact jP.symm,by rw [kA];show _=s.V.wal+((fU++ [bs++ [(t.seq+1,ws)]]).length:Int);rw [hlen];exact h.m,by simp [MX],by rw [js];exact h.ld,by rw [ho];exact h.opt,?_,by rw [eD];have:=h.vJ;omega,?_,?_,by have:=h.K;omega⟩
 ·rw [ho,hf]
  have h2:=h.gM.Zu (f':=f.set (bD cr t.m) (bZ aq (bs.map kx++ [kx (t.seq+1,ws)]),(bZ aq (bs.map kx++ [kx (t.seq+1,ws)])).length)) (fun n hn=>ik _ (sG hn _) _);exact ⟨h2.cur,h2.IG,h2.tmp,h2.one,h2.all,h2.good,h2.IH,h2.tabs,h2.only,h2.ay,h2.files⟩
 ·have h3:=h.log
  rw [oo] at h3;have h4:gK f s.V.wal.toNat (gF (jb fU++ [bs.map kx])):=by simpa using h3
  have h5:=aCT h4 (kx (t.seq+1,ws));rw [bF,←hm,←hf] at h5;show gK f' s.V.wal.toNat (gF (jb (fU++ [bs++ [(t.seq+1,ws)]])));simpa using h5
 ·refine ⟨?_,?_,hl.xH,?_,hl.ER,by have:=hl.next;show s.V.next≤_;omega,by have:=hl.el;show s.es.length≤_;omega,by have:=hl.adds;show (s.es.map fun e=>e.add.length).sum≤_;omega,fun b Gt=> ?_,?_,?_,?_⟩
  ·show (aN (fU++ [bs++ [(t.seq+1,ws)]])).length+(s.V.tabs.map fun x=>(s.ay x.file).length).sum≤_
   rw [jP];have:=hl.pB;omega
  ·show costs (aN (fU++ [bs++ [(t.seq+1,ws)]]))+(s.V.tabs.map fun x=>costs (s.ay x.file)).sum≤_
   rw [jP];have:=hl.cost;omega
  ·show s.V.wal+((fU++ [bs++ [(t.seq+1,ws)]]).length:Int)≤_
   rw [hlen];have:=hl.wal;omega
  ·have h6:b∈s.LL.flatten++ [(t.seq+1,ws)]:=by rw [←gB];exact Gt
   rcases cU.1 h6 with h7|h7
   ·exact hl.ES b h7
   ·rw [cY.1 h7];exact hb
  ·show (fU++ [bs++ [(t.seq+1,ws)]]).flatten.length≤_
   rw [gB,aJ];have:=hl.IJ;simp only [dH,iK];omega
  ·show ((fU++ [bs++ [(t.seq+1,ws)]]).flatten.map fun b=>b.2.length).sum≤_
   rw [gB,dD,List.sum_append];have:=hl.ML;simp only [cg,List.map_nil,List.sum_cons,List.sum_nil];omega
  ·show ((fU++ [bs++ [(t.seq+1,ws)]]).flatten.map fun b=>bA b.2).sum≤_
   rw [gB,dD,List.sum_append];have:=hl.MM;simp only [cg,List.map_nil,List.sum_cons,List.sum_nil];omega
 ·rw [eD]
  have h7:=h.seq;show t.seq+1=((fU++ [bs++ [(t.seq+1,ws)]]).flatten.map (·.1)).foldl max s.V.seq.toNat;rw [gB,dD,List.foldl_append];unfold pE at h7;rw [←h7];simp only [cg,List.map_nil,List.foldl_cons,List.foldl_nil];omega
 ·intro x hx y hy hs
  rcases (hall x).1 hx with ⟨u,h1,h2⟩|h1<;>rcases (hall y).1 hy with ⟨v,h3,h4⟩|h3
  ·rw [←hs.1,h1] at h3
   cases h3;rw [h2,h4]
  ·have h5:=h.top y h3
   have h6:x.seq=t.seq+1:=by rw [h2];rfl
   have:=hs.2;omega
  ·have h5:=h.top x h1
   have h6:y.seq=t.seq+1:=by rw [h4];rfl
   have:=hs.2;omega
  ·exact h.xI x h1 y h3 hs
 ·intro e he
  rw [eD];rcases (hall e).1 he with ⟨u,_,h2⟩|h1
  ·rw [h2];exact aw _
  ·have:=h.top e h1;omega
end
section
def ZK (Z B Nn A C i:Nat) (w:World) (t:Tr) (T:Nat) (s:eP) (ws:List Wr) (e:Ending) (w':World):Prop:=
 ∃ (c n:Nat) (t':Tr) (f':Lk) (T' K':Nat) (s':eP),e= .returned (.tuple #[.int .u64 (n:Int),.int .i64 (c:Int)])∧fD w t w' t'∧eJ Z B Nn (A+ws.length) (C+16*ws.length+bA ws) (i+2) w' t' f' T' K' s'∧t'.hh=t.hh∧t'.hn=t.hn∧s'.V.tabs.length≤s.V.tabs.length+1∧
  ((((ws= []∧c=0∧n=t.seq)∨(ws≠ []∧mU ws∧c=3∧n=0)∨(¬ mU ws∧c=5∧n=0∧Z<T+(bB aq (kM (t.seq+1) ws)).length))∧t'.seq=t.seq∧(∀ x,x∈eu s'↔x∈eu s)∧T'=T∧aN s'.LL=aN s.LL)∨
   (ws≠ []∧¬ mU ws∧c=0∧n=t.seq+1∧t'.seq=t.seq+1∧(∀ x,x∈eu s'↔(∃ y,pg x.key ws=some y∧x=jD (t.seq+1) y)∨x∈eu s)∧T'≤T+(bB aq (kM (t.seq+1) ws)).length+(gX t.o.block.toNat (gA (t.seq+1) ws (aN s.LL))).length+(2*costs (gA (t.seq+1) ws (aN s.LL))+200)∧((costs (gA (t.seq+1) ws (aN s.LL)):Int)≤t.o.mem→s'.V=s.V∧aN s'.LL=gA (t.seq+1) ws (aN s.LL)∧T'=T+(bB aq (kM (t.seq+1) ws)).length)∧(aN s'.LL= []∨T'=T+(bB aq (kM (t.seq+1) ws)).length∧aN s'.LL=gA (t.seq+1) ws (aN s.LL))))
def ZL (w:World) (Na:Nat→Prop) (ys:List Wv) (ws:List Wr) (sv gv lv iv:Value) (wr:World):Prop:=
 ∃ i:Nat,iv= .int .i64 (i:Int)∧i≤ys.length∧sv= .int .i64 ((bA (ws.take i):Nat):Int)∧gv= .bool (decide (mU (ws.take i)))∧oh w.heap.size Na wr lv ((ys.map kV).take i)∧Grow w wr
theorem Ws.lt {w:World} {xs:List Wv} (h:Ws M w v xs):Ws (fun b=>M b∧b<w.heap.size) w v xs:=by
 obtain ⟨⟨a,c,h1,h2,h3,h4,h5⟩,h6⟩:=h;refine ⟨⟨a,c,h1,h2,h3,h4,?_⟩,fun x hx=>Bw.lt (h6 x hx)⟩;rcases h5 with h5|⟨b,o,q1,q2,q3,q4⟩
 ·exact .inl h5
 ·exact .inr ⟨b,o,q1,⟨q2,q3⟩,q3,q4⟩
theorem aEy {w:World} {y:Wv} (h:pz N w y):pz N w (kV y):=by
 unfold kV;split
 ·exact KT _ _
 ·exact h
theorem aEz {A:Nat} {y:Wv} (h:pz N W y):tY N A W y:=⟨h.1,h.2.imp id (fun h2 b hb=> .inl (h2 b hb))⟩
theorem amD:∀ ws:List Wr,bA (ws.map kW)≤bA ws
 | []=>aw _
 |y::ws=>by
  have h:=amD ws;have h2:(kW y).key.size+(kW y).val.length≤y.key.size+y.val.length:=by
   unfold kW;split
   ·simp
   ·exact aw _
  simp only [bA,cg,List.sum_cons] at h ⊢;omega
variable {Z B Nn A C i:Nat} {w:World} {t:Tr} {f:Lk} {T K:Nat} {s:eP}
theorem eJ.wide (h:eJ Z B Nn A C i w t f T K s) (hA:A≤A') (hC:C≤C') (hi:i≤i'):eJ Z B Nn A' C' i' w t f T K s:={h.more hi with lim:=h.lim.more hA hC hi}
theorem ZM (h:eJ Z B Nn A C i w t f T K s) {Na:Nat→Prop} (BL:∀ b,Na b→b<w.heap.size∧¬ FT t b) {ys:List Wv} (hW:Ws Na w v ys) {ws:List Wr} (tQ:ws=(ys.map (·.x)).map kW)
  (dW:ys.length≤60000) (sD:bA ws≤50000000) (hA:A+ws.length≤100000) (hC:C+16*ws.length+bA ws≤1000000) (hi:i+4≤Nn) (zG:i≤800000) (ib:s.V.tabs.length≤4999):
  Calls Tryz.prog 14 #[.pointer (some ⟨t.db,0,none⟩),v] w (ZK Z B Nn A C i w t T s ws):=by
 have rV:ws.length=ys.length:=by rw [tQ];simp
 have Lh:(ys.map kV).map (·.x)=ws:=by rw [aEv,tQ]
 obtain ⟨_,_,_,_,_,c10,_,bu⟩:=h.tree.cell.cells;have MZ:t.seq+1<18446744073709551616:=by have:=h.vJ;omega
 have Su:Hid (ZL w Na ys ws (.int .i64 0) (.bool false) (.slice none 0 0) (.int .i64 0) w):=ae ⟨0,rfl,aY _,by simp [bA],by simp [mU,bA],ajs _ _ _,aV w⟩;have H0:=ae h;have ZN:=ae BL;have HW:=ae hW;have vP:=ae tQ;have SA:=ae Lh;have Nb:=ae rV;have Hb:=ae (ag dW (ag sD (ag hA (ag hC (ag hi (ag zG (ag ib MZ)))))));obtain ⟨va,vc,rfl⟩:=hW.slice;clear h BL hW tQ Lh sD hA hC hi zG ib rV MZ;go_enter Tryz.func14,Tryz.ntmps14;by_cases qw:ys.length=0
 ·have e0:((ys.length:Int)==0)=true:=by simp [qw]
  have Hy0:=ae qw;clear qw dW;go_wp2;go_ret2;have hw0:ws= []:=iI (by rw [Nb.out,Hy0.out]);refine ⟨0,t.seq,t,f,T,K,s,rfl,fD.refl _ _,?_,rfl,rfl,Nat.le_succ _,.inl ⟨.inl ⟨hw0,rfl,rfl⟩,rfl,fun x=>Iff.rfl,rfl,rfl⟩⟩;exact H0.out.wide (by omega) (by omega) (by omega)
 have e0:((ys.length:Int)==0)=false:=beq_eq_false_iff_ne.2 (by omega);have amE:ws≠ []:=fun e=>by have h1:=Nb.out;rw [e] at h1;exact qw h1.symm
 have ZO:=ae amE;clear qw amE
 go_wp2_with fail
 clear e0 c10 bu
 go_loopw [6,7,8,22] (fun sv gv lv iv wr=>ZL w Na ys ws sv gv lv iv wr) (fun _ _ _ iv _=>ys.length-(intOf iv).toNat)
 case atStart=>exact Su.out
 case round=>
  clear Su;obtain ⟨i,rfl,hi,rfl,rfl,hrow,hgr⟩:=hrel;by_cases hlt:i<ys.length
  ·obtain ⟨y,hy⟩:∃ y,ys[i]?=some y:=⟨ys[i],by simp [hlt]⟩
   have ZP:=HW.out.grow hgr;obtain ⟨b,o',c,lA,hNb,hbl,bm⟩:=ZP.addr hy;cases lA;have eU:pz Na wr y:=ZP.get hy;have Rz:ws[i]?=some (kW y.x):=by rw [vP.out,gZ,gZ,hy];rfl
   have BH:(ys.map kV)[i]?=some (kV y):=by rw [gZ,hy];rfl
   have dS:ws.take (i+1)=ws.take i++ [kW y.x]:=take_one Rz;have ko:(ys.map kV).take (i+1)=(ys.map kV).take i++ [kV y]:=take_one BH;have hS1:bA (ws.take (i+1))=bA (ws.take i)+((kW y.x).key.size+(kW y.x).val.length):=by rw [dS,HZ];simp [bA]
   have oO:=QN ws (i+1);have lZ:=aEw (ws.take i) (kW y.x);rw [←dS] at lZ;obtain ⟨a0,a1,a2⟩:=QL bm hy;have SB:=aEy eU;have uv:=amB y;obtain ⟨S,hS⟩:∃ S,S=bA (ws.take i):=⟨_,rfl⟩
   obtain ⟨S',MN⟩:∃ S',S'=bA (ws.take (i+1)):=⟨_,rfl⟩
   obtain ⟨lg,IU⟩:∃ lg,lg=decide (mU (ws.take i)):=⟨_,rfl⟩
   rw [←hS,←IU];obtain ⟨kv,uP⟩:∃ kv,kv=kV y:=⟨_,rfl⟩
   rw [←uP] at SB uv ko;rw [←uv] at dS hS1 lZ;have vO:kv.x.key=y.x.key:=by rw [uv];unfold kW;split<;>rfl
   have hkg:kv.x.gone=y.x.gone:=by rw [uv];unfold kW;split<;>rfl
   have Gh:y.x.gone=true→kv.v= .slice none 0 0:=fun hg=>by rw [uP];unfold kV;rw [if_pos hg]
   have Ih:y.x.gone=false→kv.v=y.v:=fun hg=>by rw [uP];unfold kV;rw [if_neg (by rw [hg];decide)]
   obtain ⟨⟨yk,yg,yd⟩,yv⟩:=y;obtain ⟨⟨kk,kg,kd⟩,kw⟩:=kv;dsimp only at a0 a1 a2 vO hkg Gh Ih hS1 lZ;subst vO;subst hkg;have amG:Bv wr yv yd:=eU.1;have Ed:Bv wr kw kd:=SB.1;obtain ⟨xa,xc,rfl⟩:=amG.slice;obtain ⟨za,zc,rfl⟩:=Ed.slice;clear amG Ed;have lb:b<wr.heap.size:=hbl;have eB:(i:Int)<(ys.length:Int):=by omega
   have bO:(0:Int)≤(i:Int):=by omega
   have fE:IntKind.i64.wrap ((i:Int)+1)=(i:Int)+1:=aS _ (by omega);obtain ⟨la,lc,rfl⟩:=hrow.slice;have hb:=Hb.out;have hsz:S'≤50000000:=by omega
   have cp:IntKind.i64.wrap ((kk.size:Int)+(kd.length:Int))=(kk.size:Int)+(kd.length:Int):=aS _ (by omega);have hw2:IntKind.i64.wrap ((S:Int)+((kk.size:Int)+(kd.length:Int)))=(S':Int):=(aS _ (by omega)).trans (by omega);have ox:=ae hrow;have fW:=ae hgr;have aEB:=ae SB;have nA:=ae dS;have ZQ:=ae ko;have Hlg:=ae (show mU (ws.take (i+1))↔mU (ws.take i)∨65535<kk.size∨16777216<kd.length∨16777216<S' by rw [lZ,←MN]);have amI:=ae IU;have HS':=ae MN;have qm:=ae hlt;have fR:((ys.map kV).take i).length=i:=by simp;omega
   have ZR:=ae fR;rw [fR];clear hrow hgr SB dS ko lZ IU MN hS uv uP Rz BH hS1 oO eU ZP bm hNb hbl hy hb hlt fR
   go_upto_if 27 with fail
   have ah:=ar wr (.cells #[.string kk,.bool kg,.slice xa yd.length xc] 51);have dJ:=ax wr (.cells #[.string kk,.bool kg,.slice xa yd.length xc] 51);generalize wr.alloc (.cells #[.string kk,.bool kg,.slice xa yd.length xc] 51)=w5 at*;obtain ⟨tb,dY⟩:∃ tb,tb=wr.heap.size:=⟨_,rfl⟩
   rw [←dY] at dJ ⊢;have kX:=ae dY;have cQ:=ae ah;have nQ:=ae dJ;have lR:=af dJ;have ff:=bG dJ;clear ah dJ dY a0 a1 a2 lb
   go_cut [] from 28 to 28 (fun wx=>wx.heap[tb]?=some (.cells #[.string kk,.bool kg,.slice za kd.length zc] 51 (0,0))∧Grow wr wx)
   case first=>
    cases kg with
    |true=>
     have cM:=Go.Gl.aK nQ.out 2 (.slice none 0 0);have hz:=Gh rfl;obtain ⟨q0,q1,q2⟩:=xu nQ.out;have br:Grow wr (w5.setCell ⟨tb,2,none⟩ (.slice none 0 0)):=cQ.out.setCell (Nat.le_of_eq kX.out.symm) _;have bw:=ae (ag cM br);rw [Value.slice.injEq] at hz;obtain ⟨hz1,hz2,hz3⟩:=hz;have Hz:=ae (ag hz1 (ag hz2 hz3));clear cM br Gh Ih hz1 hz2 hz3;go_wp2;go_meet;rw [Hz.out.1,Hz.out.2.1,Hz.out.2.2];exact bw.out
    |false=>
     have hz:=Ih rfl;rw [Value.slice.injEq] at hz;obtain ⟨hz1,hz2,hz3⟩:=hz;have Hz:=ae (ag hz1 (ag hz2 hz3));clear Gh Ih hz1 hz2 hz3;go_wp2;go_meet;rw [Hz.out.1,Hz.out.2.1,Hz.out.2.2];exact ⟨nQ.out,cQ.out⟩
   case rest=>
    obtain ⟨ZT,cx⟩:=hcut;obtain ⟨t0,t1,t2⟩:=xu ZT;have Yj:=af ZT;have vQ:=ae cx;clear lR ff cx ZT
    go_upto_region 12 with fail
    obtain ⟨vR,ZU⟩:∃ vR,vR=decide (mU (ws.take (i+1))):=⟨_,rfl⟩
    have aED:=ae ZU;have amJ:vR=true↔lg=true∨65535<kk.size∨16777216<kd.length∨16777216<S':=by rw [ZU,amI.out,decide_eq_true_eq,decide_eq_true_eq];exact Hlg.out
    have IV:=ae amJ;clear ZU amJ
    go_cut [7] from 38 to 54 (fun gv wx=>gv= .bool vR∧wx=wc)
    case first=>
     cases lg with
     |true=>
      have hr:Hid (vR=true):=ae (IV.out.2 (.inl rfl));go_wp2;go_meet;exact ⟨by rw [hr.out],rfl⟩
     |false=>
      by_cases h1:65535<kk.size
      ·have d1:(65535:Int)<(kk.size:Int):=by omega
       have hr:Hid (vR=true):=ae (IV.out.2 (.inr (.inl h1)));clear h1;go_wp2;go_meet;exact ⟨by rw [hr.out],rfl⟩
      ·have d1:¬ (65535:Int)<(kk.size:Int):=by omega
       have d1':(kk.size:Int)≤65535:=by omega
       by_cases h2:16777216<kd.length
       ·have d2:(16777216:Int)<(kd.length:Int):=by omega
        have hr:Hid (vR=true):=ae (IV.out.2 (.inr (.inr (.inl h2))));clear h1 h2;go_wp2;go_meet;exact ⟨by rw [hr.out],rfl⟩
       ·have d2:¬ (16777216:Int)<(kd.length:Int):=by omega
        have d2':(kd.length:Int)≤16777216:=by omega
        by_cases h3:16777216<S'
        ·have d3:(16777216:Int)<(S':Int):=by omega
         have hr:Hid (vR=true):=ae (IV.out.2 (.inr (.inr (.inr h3))));clear h1 h2 h3;go_wp2;go_meet;exact ⟨by rw [hr.out],rfl⟩
        ·have d3:¬ (16777216:Int)<(S':Int):=by omega
         have d3':(S':Int)≤16777216:=by omega
         have hr:Hid (vR=false):=ae (by
          cases hl:vR with
          |false=>rfl
          |true=>
           rcases IV.out.1 hl with h|h|h|h
           ·cases h
           ·exact absurd h h1
           ·exact absurd h h2
           ·exact absurd h h3)
         clear h1 h2 h3;go_wp2;go_meet;exact ⟨by rw [hr.out],rfl⟩
    case rest=>
     obtain ⟨rfl,hwc⟩:=hcut;have hwc':=hwc.symm;subst hwc';clear hwc IV Hlg amI cp hw2;have EY:oh w.heap.size Na wc (.slice la i lc) ((ys.map kV).take i):=by
      have h6:=ox.out.keep vQ.out.size (fun b hb=>vQ.out.block b (by have:=(ZN.out b hb).1;have:=fW.out.size;omega)) (fun b cur t f _ _ hc=>vQ.out.heap hc);rw [ZR.out] at h6;exact h6
     have amK:pz Na wc ⟨⟨kk,kg,kd⟩,.slice za kd.length zc⟩:=aEB.out.kp (.bT vQ.out);have SC:=fW.out.trans vQ.out;obtain ⟨gb,Ig,W3,hrun,hrow3,hg3⟩:=ajl EY (aEz amK) (fun b hb=>(ZN.out b hb).1) SC.size (by rw [ZR.out];omega);rw [ZR.out] at hrun hrow3;rw [←ZQ.out] at hrow3;have rE:Grow w W3:=SC.grown hg3 SC.size (fun k e=>(LY EY e).1);have aX:Hid (ZL w Na ys ws (.int .i64 (S':Int)) (.bool vR) (.slice (some ⟨gb,0,none⟩) (i+1) Ig) (.int .i64 ((i:Int)+1)) W3):=ae ⟨i+1,by simp,qm.out,by rw [←HS'.out],by rw [←aED.out],hrow3,rE⟩;have cW:=ae hrun;clear EY amK SC hrun hrow3 hg3 rE
     go_wp2_with (at_builtin;refine fI rfl rfl rfl rfl cW.out ?_)
     go_roundw
     case rel=>exact aX.out
     case measure=>simp [intOf];have:=qm.out;omega
  ·obtain rfl:i=ys.length:=by omega
   have et:(ys.map kV).take ys.length=ys.map kV:=List.take_of_length_le (by simp);have ew:ws.take ys.length=ws:=List.take_of_length_le (by rw [Nb.out];exact aw _);rw [et] at hrow;rw [ew];obtain ⟨la,lc,rfl⟩:=hrow.slice;have fR:(ys.map kV).length=ys.length:=by simp
   rw [fR] at hrow ⊢;have fW:=ae hgr;have ox:=ae hrow;clear et ew fR hgr hrow hi;by_cases hL:mU ws
   ·rw [decide_eq_true hL]
    have HL:=ae hL;clear hL;go_wp2;go_ret2;exact ⟨3,0,t,f,T,K,s,rfl,fD.bT t fW.out,(H0.out.grow fW.out).wide (by omega) (by omega) (by omega),rfl,rfl,Nat.le_succ _,.inl ⟨.inr (.inl ⟨ZO.out,HL.out,rfl,rfl⟩),rfl,fun x=>Iff.rfl,rfl,rfl⟩⟩
   rw [decide_eq_false hL];obtain ⟨iO,jg⟩:=aEx hL;have HL:=ae hL;have Hn:=ae (ag iO jg);clear hL iO jg;obtain ⟨fU,bs,oo,hm,nM,_⟩:=H0.out.last;have Ch:=ae (ag oo (ag hm nM));clear oo hm nM;have Mw:=ae (H0.out.tree.grow fW.out);obtain ⟨sq,eD⟩:∃ sq,sq=t.seq+1:=⟨_,rfl⟩
   have aLI:IntKind.u64.wrap ((t.seq:Int)+1)=(sq:Int):=by
    have h1:=Hb.out.2.2.2.2.2.2.2;rw [IntWalk.u64_in _ (by omega)];omega
   have MZ:sq<18446744073709551616:=by have h1:=Hb.out.2.2.2.2.2.2.2;omega
   have xK:=ae eD;clear eD
   go_upto_region 17 with fail
   have hgd:=az wr;have S17:∀ W,Grow wr W→W.cell? ⟨t.db,7,none⟩=some (.pointer (some ⟨t.lb,0,none⟩))∧W.cell? ⟨t.db,10,none⟩=some (.int .u64 (t.seq:Int))∧t.db<W.heap.size:=fun W hg=>by
    obtain ⟨_,_,c7,_,_,c10,_,bu⟩:=(Mw.out.grow hg).cell.cells;exact ⟨c7,c10,bu⟩
   have ZV:=ae S17;clear S17;refine dz (fun W=>W.cell? ⟨t.db,7,none⟩=some (.pointer (some ⟨t.lb,0,none⟩))∧W.cell? ⟨t.db,10,none⟩=some (.int .u64 (t.seq:Int))∧t.db<W.heap.size) [10,0,0] (by kernel_rfl) (bK fun _ _ _ _ _ h=>h) (ZV.out _ hgd) ?_;simp only [cF]
   repeat ((first|(refine aA (v:= ?_) (by rfl) ?_ ?_;rotate_left;rintro W ⟨hW0,hW1,hW2⟩;go_simp;with_reducible rfl)|refine aB (by rfl) ?_);simp only [ai,List.set])
   have ZW:Ws (fun b=>(Na b∨w.heap.size≤b)∧b<wr.heap.size) wr (.slice la ys.length lc) (ys.map kV):=(ox.out.ws (M:=fun b=>Na b∨w.heap.size≤b) (fun b hb=>hb)).lt;have amM:=ae ZW;have hb:=Hb.out;have qg:=aAI (ZW.grow hgd) (seq:=sq) MZ (by rw [bF];omega) (by rw [SA.out];omega);rw [SA.out] at qg;obtain ⟨P,hP⟩:∃ P,P=kM sq ws:=⟨_,rfl⟩
   rw [←hP] at qg;have hPl:P.length≤60000000:=by
    have h1:=XQ sq ws;have h2:=Nb.out;rw [hP];omega
   have HP:=ae (ag hP hPl);clear ZW hP hb;refine bp (by rfl) (by go_simp) qg ?_;rintro e w1 ⟨pv,rfl,oD,hg1⟩;have hg2:=hgd.trans hg1;refine ⟨_,rfl,ZV.out _ hg2,?_⟩;have bC:=cI oD;obtain ⟨pa,pc,rfl⟩:=oD.slice;clear qg oD
   try simp only [ai,List.set,aC]
   have ah:=ar w1 (.cells #[.slice pa P.length pc] 49);have hg3:=hg2.trans ah;refine sR (by rfl) (sQ (v:= .slice pa P.length pc) rfl Tryz.underlying131 Tryz.ye rfl rfl rfl) (ZV.out _ hg3) ?_
   try simp only [ai,List.set,aC]
   have vS:=Mw.out.grow hg3;have ed:(bZ aq [P]).length≤1000000000000:=by
    have h1:=my aq P;have h2:=cB P.length;simp only [bZ,List.flatMap_cons,List.flatMap_nil,List.append_nil];omega
   have MP:t.m+1≤i:=by have h1:=H0.out.m;have h2:=H0.out.lim.wal;omega
   have amN:=axu Gr vS.jn vS.bg vS.log (by have:=Hb.out;omega) (by have:=Hb.out;omega) (TP (ax _ _) (bC.grow ah)) (fun p hp=>by rw [cY.1 hp];omega) ed (by simp);refine bp (by rfl) (by go_simp) amN ?_;rintro e w4 ⟨c4,f4,T4,rfl,sU,F4,jV,hl4,jW⟩;obtain ⟨xJ,ZX⟩:=vS.EN jV jW;have zC:ep w4 t.db t.sb t.o t.drv (.pointer (some ⟨t.lb,0,none⟩)) t.mb t.tm t.seq t.hm:=xJ.cell;obtain ⟨_,_,d7,_,_,d10,_,bu⟩:=zC.cells;refine ⟨_,rfl,⟨d7,d10,bu⟩,?_⟩;have vN:=ae xJ;have Lq:=ae ((fD.bT t hg3).trans ZX);have ZY:=ae ((fD.bT t (fW.out.trans hg3)).trans ZX);have MR:=ae MP;have HC4:=ae zC;clear xJ ZX jV hl4 jW amN ed vS hg3 ah bC hg2 hg1 hgd zC MP
   try simp only [ai,List.set,aC]
   repeat ((first|(refine aA (v:= ?_) (by rfl) ?_ ?_;rotate_left;rintro W ⟨hW0,hW1,hW2⟩;go_simp;with_reducible rfl)|refine aB (by rfl) ?_);simp only [ai,List.set])
   refine bj ?_;have amO:bZ aq [P]=bB aq P:=by simp [bZ]
   rw [amO] at sU;clear amO;rcases sU with ⟨rfl,hroom,rfl,rfl⟩|⟨rfl,qH,rfl,rfl⟩
   rotate_left
   ·have Mo:=ae qH
    clear qH d7 d10 bu;go_wp2;go_ret2;refine ⟨5,0,_,f4,T4,K+1,s,rfl,ZY.out,((H0.out.put vN.out rfl rfl rfl rfl rfl rfl rfl (by omega)).wide (by omega) (by omega) (by omega)),rfl,rfl,Nat.le_succ _,.inl ⟨.inr (.inr ⟨HL.out,rfl,rfl,by rw [←xK.out,←HP.out.1];exact Mo.out⟩),rfl,fun x=>Iff.rfl,rfl,rfl⟩⟩
   have KO:=ae hroom;obtain ⟨q,hq⟩:∃ q,q=bZ aq (bs.map kx):=⟨_,rfl⟩
   have px:=Ch.out.2.2;rw [←hq] at px;have mM:f.add (bD cr t.m) (bB aq P)=f.set (bD cr t.m) (q++bB aq P,q.length):=by unfold Lk.add;rw [px]
   rw [mM] at vN;have tP:=Hb.out;have aEI:=MR.out;have amP:dT w4 t.lb t.p cr (t.m:Int):=vN.out.log;have SD:=afU Gr vN.out.jn vN.out.bg amP (by omega) (by omega) (rI f (bD cr t.m) (q++bB aq P,q.length));rw [Oz] at SD;have PN:q++bB aq P=bZ aq (bs.map kx++ [kx (t.seq+1,ws)]):=by rw [hq,HP.out.1,xK.out];simp [bZ]
   rw [PN] at SD;have amQ:=ae SD;clear hroom hq px mM tP aEI SD PN amP
   go_wp2_with fail
   (with_reducible refine amQ.out.mono ?_);rintro e w5 ⟨rfl,F5,iG,hl5,hs5⟩;obtain ⟨sI,zH⟩:=vN.out.EN iG hs5;have Nc:=Lq.out.trans zH;clear amQ d7 d10 bu;have mG:∀ b,((Na b∨w.heap.size≤b)∧b<wr.heap.size)→¬ FT t b:=fun b hb hf=>by
    rcases hb.1 with h1|h1
    ·exact (ZN.out b h1).2 hf
    ·have:=H0.out.tree.lt hf;omega
   have amR:Kp (fun b=>(Na b∨w.heap.size≤b)∧b<wr.heap.size) wr w5:=⟨Nc.sep.size,fun b hb _=>Nc.sep.out b hb.2 (mG b hb)⟩
   have Nf:=amM.out.kp amR;obtain ⟨aLJ,AZ⟩:∃ aU,dQ t.N w5 t.mb t.ha t.ns aU t.dv t.ds:=sI.mem
   have BV:ep w5 t.db t.sb t.o t.drv (.pointer (some ⟨t.lb,0,none⟩)) t.mb t.tm t.seq t.hm:=sI.cell;have SE:∀ b,((Na b∨w.heap.size≤b)∧b<wr.heap.size)→b<w5.heap.size∧¬ FT {{t with F:=F4} with F:=F5} b:=fun b hb=>⟨cf hb.2 Nc.sep.size,fun hf=>by
    rcases Nc.sep.foot b hf with h1|h1
    ·exact mG b hb h1
    ·omega⟩
   have dX:=Hb.out;have aEJ:t.ns.length≤A:=by
    have h1:=congrArg List.length H0.out.mem;rw [bF] at h1;have:=H0.out.lim.pB;omega
   have aEK:costs (t.ns.map (fun n=>n.x.e))≤C:=by rw [H0.out.mem];have:=H0.out.lim.cost;omega
   have xA:=ajB BV AZ (fun hf=>(H0.out.tree.ne.fm _ hf).2.1 rfl) (fun b hb=>⟨(sI.apart b hb).1,fun hf=>(sI.apart b hb).2 (.inr (.inl hf)),fun e=>(sI.apart b hb).2 (.inr (.inr (.inl e)))⟩) (fun b hb=>⟨(SE b hb).1,fun hf=>(SE b hb).2 (.inr (.inl hf)),fun e=>(SE b hb).2 (.inr (.inr (.inl e)))⟩) Nf (s:=sq) MZ (by rw [bF];omega) (by rw [SA.out];omega) (by omega) (by omega);rw [SA.out] at xA;obtain ⟨_,_,d7,_,_,d10,_,bu⟩:=BV.cells;have BM:=ae xA;have Sw:=ae sI;have Zz:=ae (ZY.out.trans zH);clear xA zH iG hl5 hs5 Nc mG amR Nf AZ BV SE dX aEJ aEK sI
   go_wp2_with fail
   (with_reducible refine BM.out.mono ?_);rintro e w6 ⟨rfl,N',bN,Cj⟩;obtain ⟨sJ,pR⟩:=Sw.out.laid Cj;have qA:=Cj.pB;rw [xK.out] at qA;rw [H0.out.mem] at qA;have mC:max t.seq sq=t.seq+1:=by have:=xK.out;omega
   dsimp only at sJ pR;rw [mC] at sJ pR;have xy:ep w6 t.db t.sb t.o t.drv (.pointer (some ⟨t.lb,0,none⟩)) t.mb t.tm sq t.hm:=by rw [xK.out];exact sJ.cell
   have Ng:MG (t.seq+1,ws):=by
    have hb:=Hb.out;have hn:=Hn.out;exact ⟨hb.2.2.2.2.2.2.2,by dsimp only;have:=Nb.out;omega,hb.2.1,fun y hy=>⟨hn.2 y hy,by have h1:=QO hy;have h2:=hn.1;dsimp only at h1 ⊢;omega⟩⟩
   have sK:=H0.out.applied Ch.out.1 Ch.out.2.1 Ng sJ rfl rfl qA rfl rfl rfl rfl (by omega);have hall:=amC Ch.out.1 (q:=t.seq+1) (ws:=ws) (fun e he=>by have:=H0.out.top e he;omega) H0.out.Cg.ord;have Ck:=ae sK;have gj:=ae hall;have MS:=ae (Zz.out.trans pR);have EB:=ae xy;have aEL:=ae qA;clear Cj qA mC sJ pR Ng sK hall BM d7 d10 bu vN Sw Lq ZY HC4 amM;obtain ⟨_,d1,d7,d8,_,d10,_,bu⟩:=xy.cells;clear xy
   go_upto_region 23 with fail
   have hgd:=az w6;have ZZ:∀ W,Grow w6 W→W.cell? ⟨t.db,1,none⟩=some (.int .i64 t.o.mem)∧W.cell? ⟨t.db,8,none⟩=some (.pointer (some ⟨t.mb,0,none⟩))∧t.db<W.heap.size:=fun W hg=>by
    obtain ⟨_,c1,_,c8,_,_,_,bu⟩:=(EB.out.grow hg).cells;exact ⟨c1,c8,bu⟩
   obtain ⟨aLK,DB⟩:=Ck.out.tree.mem;have Nh:=aCD (DB.grow hgd);dsimp only at Nh;rw [aEL.out] at Nh;obtain ⟨cs,hcs⟩:∃ cs,cs=costs (gA (t.seq+1) ws (aN s.LL)):=⟨_,rfl⟩
   rw [←hcs] at Nh;have Yh:=ae hcs;clear DB hcs;refine ou (fun W=>W.cell? ⟨t.db,1,none⟩=some (.int .i64 t.o.mem)∧W.cell? ⟨t.db,8,none⟩=some (.pointer (some ⟨t.mb,0,none⟩))∧t.db<W.heap.size) [(0,false),(1,false),(2,false),(3,false),(5,false),(6,false),(7,false),(8,false),(9,false),(4,true),(10,false)] (by kernel_rfl) (by kernel_rfl) (bK fun _ _ _ _ _ h=>h) (ZZ _ hgd) ?_;simp only [cm,nth];have aEM:=ae ZZ;clear ZZ d1 d7 d8 d10 bu
   repeat ((first|(refine aA (v:= ?_) (by rfl) ?_ ?_;rotate_left;rintro W ⟨hW0,hW1,hW2⟩;go_simp;with_reducible rfl)|refine aB (by rfl) ?_);simp only [ai,List.set])
   refine bp (by rfl) (by go_simp) Nh ?_;rintro e w7 ⟨rfl,rfl⟩;refine ⟨_,rfl,aEM.out _ hgd,?_⟩;clear Nh
   try simp only [ai,List.set,aC]
   repeat ((first|(refine aA (v:= ?_) (by rfl) ?_ ?_;rotate_left;rintro W ⟨hW0,hW1,hW2⟩;go_simp;with_reducible rfl)|refine aB (by rfl) ?_);simp only [ai,List.set])
   refine bj ?_;by_cases vh:t.o.mem<(cs:Int)
   ·have ed:=alU (Ck.out.grow hgd) (by have:=Hb.out;omega) (by have:=Hb.out;omega) (by have:=Hb.out;omega) (by have:=Hb.out;omega) (by have:=Hb.out;show s.V.tabs.length≤4999;omega)
    have qC:=ae ed;have zI:=ae hgd;clear ed hgd
    go_wp2_with fail
    (with_reducible refine qC.out.mono ?_);rintro e w8 ⟨c8,t8,f8,T8,K8,s8,rfl,wL,SF,Bz,Df,SG,kK,rT,_,SH,Ni⟩;have bw:=ae (ag wL (ag SF (ag Bz (ag Df (ag SG (ag kK (ag rT (ag SH Ni))))))));clear qC wL SF Bz Df SG kK rT SH Ni;go_wp2;go_ret2;obtain ⟨wL,SF,Bz,Df,SG,kK,rT,SH,Ni⟩:=bw.out;have eD:=xK.out;subst eD;have jP:aN (MX s fU bs (t.seq+1,ws)).LL=gA (t.seq+1) ws (aN s.LL):=by
     show aN (fU++ [bs++ [(t.seq+1,ws)]])=_;rw [MH,←Ch.out.1]
    rw [jP] at SH Ni;refine ⟨0,t.seq+1,t8,f8,T8,K8,s8,rfl,(MS.out.grow zI.out).trans wL,SF,SG,kK,rT,.inr ⟨ZO.out,HL.out,rfl,rfl,Df,fun x=>(Bz x).trans (gj.out x),?_,fun hle=>by rw [←Yh.out] at hle;omega,?_⟩⟩
    ·rw [←HP.out.1]
     omega
    ·rw [←HP.out.1]
     exact Ni
   ·have zI:=ae hgd
    have dJ:¬ (t.o.mem<(cs:Int)):=vh;have Mk:(cs:Int)≤t.o.mem:=by omega
    clear hgd vh;go_wp2;go_ret2;have eD:=xK.out;subst eD;refine ⟨0,t.seq+1,_,_,_,_,_,rfl,MS.out.grow zI.out,(Ck.out.grow zI.out).more (by omega),rfl,rfl,Nat.le_succ _,.inr ⟨ZO.out,HL.out,rfl,rfl,rfl,gj.out,?_,fun _=>⟨rfl,?_,?_⟩,.inr ⟨?_,?_⟩⟩⟩
    ·rw [←HP.out.1]
     omega
    ·show aN (fU++ [bs++ [(t.seq+1,ws)]])=_
     rw [MH,←Ch.out.1]
    ·rw [←HP.out.1]
    ·rw [←HP.out.1]
    ·show aN (fU++ [bs++ [(t.seq+1,ws)]])=_
     rw [MH,←Ch.out.1]
end
section
structure Told (size A C i:Nat) (f:Lk) (K:Nat) (s:eP):Prop where
 gM:xG size f s
 log:gK f s.V.wal.toNat (gF (jb s.LL))
 sync:ry f
 lim:vI A C i s
 vJ:pE s≤i
 xI:tN (eu s)
 top:∀ e∈eu s,e.seq≤pE s
 K:K≤10*i
variable {Z B Nn A C i:Nat} {w w':World} {t:Tr} {f:Lk} {T K:Nat} {s:eP}
theorem eJ.told (h:eJ Z B Nn A C i w t f T K s):Told t.o.block.toNat A C i f K s:=
 ⟨h.gM,h.log,h.sync,h.lim,by rw [←h.seq];exact h.vJ,h.xI,fun e he=>by rw [←h.seq];exact h.top e he,h.K⟩
abbrev Cl:eP:=⟨dh,[],fun _=> [],[]⟩
abbrev IW:Lk:=PA 0 [] (fun _=>none)
theorem Cm (k:ByteArray):IW k=if k=tr then some (kH 0,(kH 0).length) else if k=cX 0 then some ([],0) else none:=rfl
theorem amS:Sj IW 0:=by
 refine ⟨by rw [Cm,if_neg (Uw 0),if_pos rfl];simp,fun k hk hn=> ?_⟩;rw [Cm] at hn
 split at hn
 ·rename_i h
  rw [h] at hk;exact absurd hk (by decide)
 ·split at hn
  ·assumption
  ·exact absurd rfl hn
theorem aEN (size:Nat) {K:Nat} (hK:K≤10):Told size 0 0 1 IW K Cl:=by
 refine ⟨⟨by rw [Cm,if_pos rfl],by rw [Cm,if_neg (Uw 0),if_pos rfl];rfl,by rw [Cm,if_neg (by decide),if_neg (Ne.symm (Ox 0))],amS,rfl,avs,(fun _ h=>by cases h),(fun x hx=>by cases hx),fun k hk hn=> ?_,fun x hx=>(by cases hx),fun x hx=>(by cases hx)⟩,⟨fun j q h=>by simp at h,fun n hn hs=> ?_⟩,fun m q hq=> ?_,?_,aY _,fun a ha=>(by cases ha),fun e he=>(by cases he),by omega⟩
 ·exfalso
  rw [Cm] at hn
  split at hn
  ·rename_i h;rw [h] at hk;exact absurd hk (by decide)
  ·split at hn
   ·rename_i h
    rw [h] at hk;have h5:=II (b:=116) (q:= [45]) (a:=109) (p:= [97,110,105,102,101,115,116,45]) (Sl 0) (by decide);exact absurd (h5.symm.trans hk) (by decide)
   ·exact hn rfl
 ·exfalso
  have h1:IW n=none:=by
   rw [Cm];split
   ·rename_i h;rw [h] at hn;exact absurd (hn.symm.trans Zs) (by decide)
   ·split
    ·rename_i h;rw [h] at hn;exact absurd (hn.symm.trans (BX 0)) (by decide)
    ·rfl
  rw [h1] at hs;cases hs
 ·rw [Cm] at hq
  split at hq
  ·cases hq;rfl
  ·split at hq
   ·cases hq;rfl
   ·cases hq
 ·exact ⟨aw _,aw _,by decide,by decide,by decide,by decide,by decide,by decide,(fun b hb=>by cases hb),by decide,by decide,by decide⟩
def aaa (Z B size A C i:Nat) (w:World) (p r:Nat) (s:eP) (Tb:Nat) (e:Ending) (w':World):Prop:=
 ∃ sb,e= .returned (.tuple #[.pointer (some ⟨sb,0,none⟩),.nilIface])∧B≤sb∧∃ tv f' T' K' F',eh w' sb p tv s.V ((0:Nat):Int)∧Mn.Own 0 w' tv s.V.tabs∧Dl Z B w' p r f' T' K' F'∧Rl B r w w'∧Told size A C i f' K' s∧T'≤Tb
theorem amT {p:Nat} {F:Nat→Prop} (size:Nat) (h:Dl Z B w p r (fun _=>none) T K F) (hN:dn Nn B w) (hn:0<Nn) (hK:K≤5) (hroom:T+6≤Z):Calls Tryz.prog 48 #[.pointer (some ⟨p,0,none⟩)] w (aaa Z B size 0 0 1 w p r Cl (T+6)):=by
 refine (alz h hN (Q:=fun V n f' T' K'=>V=dh∧n=0∧f'=IW∧T'≤T+6∧K'≤10) (fun V n f' T' K' hq=>by obtain ⟨_,rfl,_,_,h5⟩:=hq;omega) (fun w1 sb hg MD hS=> ?_)).mono ?_
 ·have hB:B≤sb:=aM h.base MD
  refine (aDy hS (h.grow hg) hB (hN.grow hg h.base) hn rfl rfl hroom).mono ?_;rintro e w2 ⟨rfl,oO,⟨T',F',hT',hd⟩,hr⟩;exact ⟨rfl,_,dh,0,IW,T',K+3,F',oO,⟨rfl,.inl ⟨rfl,rfl⟩⟩,hd,hr,amS,rfl,rfl,rfl,hT',by omega⟩
 ·rintro e w2 ⟨sb,rfl,hB,tv,V,n,f',T',K',F',hS,ho,hd,hr,rfl,rfl,rfl,hT',hK'⟩
  exact ⟨sb,rfl,hB,tv,_,T',K',F',hS,ho,hd,hr,aEN size hK',hT'⟩
theorem aEO {size:Nat} (ht:Told size A C i f K s) (h:Dl Z B w p r f T K F) (hN:dn Nn B w) (hn:0<Nn) (hi:i≤5000):Calls Tryz.prog 48 #[.pointer (some ⟨p,0,none⟩)] w (aaa Z B size A C i w p r s T):=by
 have hl:=ht.lim;have hK:=ht.K;refine (alz h hN (Q:=fun V n f' T' K'=>V=s.V∧n=0∧f'=f∧T'=T∧K'=K) (fun V n f' T' K' hq=>by obtain ⟨_,rfl,_,_,rfl⟩:=hq;omega) (fun w1 sb hg MD hS=> ?_)).mono ?_
 ·have hB:B≤sb:=aM h.base MD
  refine (aDD hS (h.grow hg) hB (hN.grow hg h.base) hn (by omega) ht.gM.cur ht.gM.IG ht.gM.IH (by have:=hl.adds;omega) (by have:=hl.el;omega) ht.gM.all).mono ?_;rintro e w2 ⟨rfl,⟨tv,oO,ho⟩,⟨F',hd⟩,hr⟩;exact ⟨rfl,tv,s.V,0,f,T,K,F',oO,ho,hd,hr,ht.gM.one,rfl,rfl,rfl,rfl,rfl⟩
 ·rintro e w2 ⟨sb,rfl,hB,tv,V,n,f',T',K',F',hS,ho,hd,hr,rfl,rfl,rfl,rfl,rfl⟩
  exact ⟨sb,rfl,hB,tv,f',T',K',F',hS,ho,hd,hr,ht,aw _⟩
end
structure EZ (w3 W:World) (ds:List Int) (mb ha tm hm:Nat) (dv:Value):Prop where
 mem:∃ N:Nat→Prop,dQ N W mb ha [] 0 dv ds
 row:Go.Gl.Row1 3 w3.heap.size W dv (ds.map (fun x=> .int .i64 x))
 SI:w3.heap.size≤mb
 SJ:w3.heap.size≤ha
 tab:fj W tm encI (fun _=>none) 0
 IX:w3.heap.size≤tm
 held:fj W hm vC (fun _=>none) 0
 IY:w3.heap.size≤hm
 ne:tm≠hm
theorem EZ.grow (h:EZ w3 W ds mb ha tm hm dv) (hg:Grow W W'):EZ w3 W' ds mb ha tm hm dv:=by
 obtain ⟨N,h2⟩:=h.mem;exact ⟨⟨N,h2.grow hg⟩,h.row.grow hg,h.SI,h.SJ,h.tab.grow hg,h.IX,h.held.grow hg,h.IY,h.ne⟩
def S8 (w3:World) (sb xb:Nat) (o:Od) (cv:Value) (ds:List Int) (j:Nat) (v:Value) (W:World):Prop:=
 match j with
 |0=>v= .pointer (some ⟨sb,0,none⟩)
 |1=>v=xC o cv
 |2=>v= .pointer (some ⟨xb,5,none⟩)
 |3=>v=cv
 |4=>∃ mb ha dv,v= .pointer (some ⟨mb,0,none⟩)∧(∃ N:Nat→Prop,dQ N W mb ha [] 0 dv ds)∧Go.Gl.Row1 3 w3.heap.size W dv (ds.map (fun x=> .int .i64 x))∧w3.heap.size≤mb∧w3.heap.size≤ha
 |5=>∃ tm,v= .map (some tm)∧fj W tm encI (fun _=>none) 0∧w3.heap.size≤tm
 |6=>∃ hm,v= .map (some hm)∧fj W hm vC (fun _=>none) 0∧w3.heap.size≤hm
 |7=>∃ mb ha tm hm dv,v= .agg (ru sb o cv (.pointer none) mb tm 0 hm)∧EZ w3 W ds mb ha tm hm dv
 |8=>∃ db mb ha tm hm dv,v= .pointer (some ⟨db,0,none⟩)∧w3.heap.size≤db∧ep W db sb o cv (.pointer none) mb tm 0 hm∧EZ w3 W ds mb ha tm hm dv
 |9=>∃ db mb ha tm hm dv,v= .pointer (some ⟨db,0,none⟩)∧w3.heap.size≤db∧ep W db sb o cv (.pointer none) mb tm 0 hm∧EZ w3 W ds mb ha tm hm dv
 |_=>True
theorem S8.keep {o:Od}:∀ (j:Nat) (v:Value) (W W':World),Grow W W'→S8 w3 sb xb o cv ds j v W→S8 w3 sb xb o cv ds j v W':=by
 intro j v W W' hg h
 match j,h with
 |0,h=>exact h
 |1,h=>exact h
 |2,h=>exact h
 |3,h=>exact h
 |4,⟨mb,ha,dv,h1,⟨N,h3⟩,h6,h4,h5⟩=>exact ⟨mb,ha,dv,h1,⟨N,h3.grow hg⟩,h6.grow hg,h4,h5⟩
 |5,⟨tm,h1,h2,h3⟩=>exact ⟨tm,h1,h2.grow hg,h3⟩
 |6,⟨tm,h1,h2,h3⟩=>exact ⟨tm,h1,h2.grow hg,h3⟩
 |7,⟨mb,ha,tm,hm,dv,h1,h2⟩=>exact ⟨mb,ha,tm,hm,dv,h1,h2.grow hg⟩
 |8,⟨db,mb,ha,tm,hm,dv,h1,h2,h3,h4⟩=>exact ⟨db,mb,ha,tm,hm,dv,h1,h2,h3.grow hg,h4.grow hg⟩
 |9,⟨db,mb,ha,tm,hm,dv,h1,h2,h3,h4⟩=>exact ⟨db,mb,ha,tm,hm,dv,h1,h2,h3.grow hg,h4.grow hg⟩
 |_+10,_=>exact True.intro
def T8 (w3:World) (l:Array Bool) (a:Act) (W:World):Prop:=
 Grow w3 W∧(l.getD 5 false=true→l.getD 6 false=true→∃ tm hm,a.tmps[44]?=some (.map (some tm))∧a.tmps[45]?=some (.map (some hm))∧tm≠hm)
theorem T8.next {l:Array Bool} {a:Act} (h:T8 w3 l a W) (hi:i≠5∧i≠6) (hd:d≠44∧d≠45) (hg:Grow W W'):T8 w3 (l.setIfInBounds i true) (a.put (some d) v) W':=
 ⟨h.1.trans hg,fun h5 h6=>by
  rw [getD_set_ne false hi.1] at h5;rw [getD_set_ne false hi.2] at h6;obtain ⟨tm,hm,h1,h2,h3⟩:=h.2 h5 h6;exact ⟨tm,hm,gi hd.1 h1,gi hd.2 h2,h3⟩⟩
structure Bl (Z B Nn:Nat) (W:World) (db sb p r mb ha tm hm sq:Nat) (o:Od) (cv dv tv:Value) (ds:List Int) (V:bI) (f:Lk) (T K:Nat) (F:Nat→Prop):Prop where
 cell:ep W db sb o cv (.pointer none) mb tm sq hm
 set:eh W sb p tv V ((0:Nat):Int)
 own:Mn.Own 0 W tv V.tabs
 mem:dQ (fun b=>dv.ownBlock=some b) W mb ha [] 0 dv ds
 Nj:Go.Gl.Row1 3 0 W dv (ds.map (fun x=> .int .i64 x))
 SK:Go.Gl.Row1 3 0 W cv (ds.map (fun x=> .int .i64 x))
 held:fj W hm vC (fun _=>none) 0
 bg:Dl Z B W p r f T K F
 jn:dn Nn B W
def aEP (W W':World):Prop:=W.heap.size≤W'.heap.size∧∀ (b:Nat) (arr:Array Value) (ty:TypeId) (fz:Nat×Nat),W.heap[b]?=some (.cells arr ty fz)→(ty=93∨ty=154∨ty=101∨ty=181∨ty=176∨ty=287∨ty=3∨ty=85)→W'.heap[b]?=W.heap[b]?
theorem Bl.keep {o:Od} {V:bI} {f f':Lk} (h:Bl Z B Nn W db sb p r mb ha tm hm sq o cv dv tv ds V f T K F)
  (hk:aEP W W') (hh:W'.heap[hm]?=W.heap[hm]?) (hd:Dl Z B W' p r f' T' K' F') (hb:∀ b,b<B→W'.heap[b]?=W.heap[b]?):Bl Z B Nn W' db sb p r mb ha tm hm sq o cv dv tv ds V f' T' K' F':=by
 have hC:W.heap[db]?=some (.cells (ru sb o cv (.pointer none) mb tm sq hm) 93 (0,0)):=h.cell;have hS:W.heap[sb]?=some (.cells (setCells p tv V ((0:Nat):Int)) 154 (0,0)):=h.set;have kd:∀ {v:Value},Go.Gl.Row1 3 0 W v (ds.map (fun x=> .int .i64 x))→∀ b,v.ownBlock=some b→W'.heap[b]?=W.heap[b]?:=fun hr b hb=>by
  obtain ⟨cur,hc⟩:=hr.block hb;exact hk.2 b _ _ _ hc (.inr (.inr (.inr (.inr (.inr (.inr (.inl rfl)))))))
 refine ⟨h.cell.keep (hk.2 _ _ _ _ hC (.inl rfl)),h.set.same (hk.2 _ _ _ _ hS (.inr (.inl rfl))),EK h.own (fun b cur hc=>hk.2 _ _ _ _ hc (.inr (.inr (.inl rfl)))),h.mem.keep (fun b hb=> ?_) ⟨hk.1,fun b hb _=>kd h.Nj b hb⟩,h.Nj.keep (kd h.Nj),h.SK.keep (kd h.SK),h.held.keep hh,hd,h.jn.keep hb⟩;obtain ⟨arr,ty,h1,h2⟩:=h.mem.kind hb;exact hk.2 _ _ _ _ h1 (by rcases h2 with rfl|rfl|rfl<;>simp)
theorem Bl.gx {o:Od} {V:bI} {f:Lk} (h:Bl Z B Nn W db sb p r mb ha tm hm sq o cv dv tv ds V f T K F)
  {g:Int→Option Value} {m:Nat} (ht:fj W tm encI g m) (hg:GX tm W W') (hne:tm≠hm) (hF:¬ F tm) (hB:B≤tm):Bl Z B Nn W' db sb p r mb ha tm hm sq o cv dv tv ds V f T K F:=by
 have hs:=Sep.IB hg;refine h.keep ⟨hs.size,fun b arr ty fz hb _=>hs.out b (af hb) (fun e=>ht.map (by rw [←e];exact hb))⟩ (hs.out hm h.held.lt (fun e=>hne e.symm)) ?_ (fun b hb=> ?_)
 ·obtain ⟨V',d1,d2⟩:=h.bg
  exact ⟨V',d1.keep hs.size (fun b hb=>hs.out b (h.bg.foot hb).2 (fun e=>hF (by rw [←e];exact hb))),d2⟩
 ·exact hs.out b (by have:=h.bg.base;omega) (fun e=>by omega)
theorem Bl.sep {o:Od} {V:bI} {f f':Lk} (h:Bl Z B Nn W db sb p r mb ha tm hm sq o cv dv tv ds V f T K F)
  (hd:Dl Z B W' p r f' T' K' F') (hs:Sep F W W' F') (hh:¬ F hm):Bl Z B Nn W' db sb p r mb ha tm hm sq o cv dv tv ds V f' T' K' F':=by
 refine h.keep ⟨hs.size,fun b arr ty fz hb ht=>hs.out b (af hb) (h.bg.apart hb ?_ ?_ ?_)⟩ (hs.out hm h.held.lt hh) hd (fun b hb=>hs.out b (by have:=h.bg.base;omega) (fun hf=>by have:=(h.bg.foot hf).1;omega))
 all_goals rcases ht with rfl|rfl|rfl|rfl|rfl|rfl|rfl|rfl<;>decide
def LdI (w9:World) (tm:Nat) (tabs:List Tb) (ay:Int→List En) (iv:Value) (wr:World):Prop:=
 ∃ (i:Nat) (ld:Int→Option (Nat×List En)) (g:Int→Option Value) (gm:Nat),iv= .int .i64 (i:Int)∧i≤tabs.length∧GX tm w9 wr∧fj wr tm encI g gm∧
  (∀ k b l,ld k=some (b,l)→g k=some (.pointer (some ⟨b,0,none⟩))∧ue w9.heap.size wr b l∧∃ x∈tabs,l=ay x.file)∧
  (∀ x∈tabs.take i,∃ b,ld x.file=some (b,ay x.file))
theorem ue.mono {l:List En} (h:ue A W tb l) (hA:A'≤A):ue A' W tb l:=by
 obtain ⟨v,fv,nb,ys,h1,h2,h3,h4⟩:=h;refine ⟨v,fv,nb,ys,h1,aM hA h2,h3,⟨h4.1.1,?_⟩,fun y hy=> ?_⟩
 ·rcases h4.1.2 with h5|⟨g',cap,cur,h5,hB,kR⟩
  ·exact .inl h5
  ·exact .inr ⟨g',cap,cur,h5,aM hA hB,kR⟩
 ·obtain ⟨q1,q2⟩:=h4.2 y hy
  exact ⟨q1,q2.imp id (fun q3 b hb=>(q3 b hb).imp id (fun q4=>⟨aM hA q4.1,q4.2⟩))⟩
theorem Told.table {size:Nat} {f:Lk} {s:eP} (h:Told size A C i f K s) {x:Tb} (hx:x∈s.V.tabs):(s.ay x.file).length≤A∧costs (s.ay x.file)≤C:=by
 have h1:(s.ay x.file).length≤(s.V.tabs.map fun x=>(s.ay x.file).length).sum:=My (aZ.2 ⟨x,hx,rfl⟩);have h2:costs (s.ay x.file)≤(s.V.tabs.map fun x=>costs (s.ay x.file)).sum:=My (aZ.2 ⟨x,hx,rfl⟩);have h3:=h.lim.pB;have h4:=h.lim.cost;omega
def amU (db sb p r lb mb tm hm ha:Nat) (o:Od) (cv:Value) (ds:List Int) (tv dv:Value) (V:bI) (sq m:Nat) (NT F:Nat→Prop) (g:Int→Option Value) (gm:Nat) (ld:Int→Option (Nat×List En)):Tr:=
 ⟨db,sb,p,r,lb,mb,tm,hm,ha,o,cv,ds,tv,dv,V,sq,m,fun b=>NT b∨cv.ownBlock=some b∨dv.ownBlock=some b,F,[],g,gm,ld,fun _=>none,0⟩
theorem Bl.tree {o:Od} {V:bI} {f:Lk} (h:Bl Z B Nn W db sb p r mb ha tm hm sq o cv dv tv ds V f T K F)
  {m:Nat} (hl:dT W lb p cr (m:Int)) {g:Int→Option Value} {gm:Nat} (ht:fj W tm encI g gm) {ld:Int→Option (Nat×List En)} {NT:Nat→Prop} (js:∀ k b l,ld k=some (b,l)→g k=some (.pointer (some ⟨b,0,none⟩))∧qx NT W b l)
  (Nk:∀ b,NT b→b<W.heap.size∧¬ F b∧¬ FM mb ha [] b∧b≠db∧b≠sb∧b≠lb∧b≠tm∧b≠hm) (hb:B≤db∧B≤sb∧B≤lb∧B≤mb∧B≤ha∧B≤tm∧B≤hm) (h1:¬ F tm) (h2:¬ F hm) (h3:tm≠hm) (ic:ds.length≤1000000000):
  dm Z B Nn (W.setCell ⟨db,7,none⟩ (.pointer (some ⟨lb,0,none⟩))) (amU db sb p r lb mb tm hm ha o cv ds tv dv V sq m NT F g gm ld) f T K:=by
 have hC:W.heap[db]?=some (.cells (ru sb o cv (.pointer none) mb tm sq hm) 93 (0,0)):=h.cell;have hS:W.heap[sb]?=some (.cells (setCells p tv V ((0:Nat):Int)) 154 (0,0)):=h.set;have st:∀ b,b≠db→(W.setCell ⟨db,7,none⟩ (.pointer (some ⟨lb,0,none⟩))).heap[b]?=W.heap[b]?:=fun b hn=>aP _ _ _ _ hn
 have ty:∀ {b:Nat} {arr:Array Value} {ty:TypeId} {fz:Nat×Nat},W.heap[b]?=some (.cells arr ty fz)→ty≠93→b≠db:=fun hb ri e=>by
  rw [e,hC] at hb;exact ri (cE (bk hb)).2.1.symm
 have fmd:∀ b,FM mb ha [] b→b≠db:=fun b hb=>by
  obtain ⟨arr,t',e1,e2⟩:=h.mem.kind hb;refine ty e1 ?_;rcases e2 with rfl|rfl|rfl<;>decide
 have tmd:tm≠db:=fun e=>ht.map (by rw [e];exact hC)
 have hmd:hm≠db:=fun e=>h.held.map (by rw [e];exact hC)
 have row:∀ {v:Value},Go.Gl.Row1 3 0 W v (ds.map (fun x=> .int .i64 x))→∀ b,v.ownBlock=some b→b<W.heap.size∧b≠db∧b≠sb∧b≠lb∧b≠tm∧b≠hm∧¬ FM mb ha [] b∧¬ F b:=fun hr b hb=>by
  obtain ⟨cur,hc⟩:=hr.block hb;have inj:∀ {a2:Array Value} {t2:TypeId} {f2:Nat×Nat},W.heap[b]?=some (.cells a2 t2 f2)→(3:TypeId)=t2:=fun h2=>(cE (bk (hc.symm.trans h2))).2.1
  refine ⟨(hr.lt hb).2,ty hc (by decide),fun e=> ?_,fun e=> ?_,fun e=>ht.map (by rw [←e];exact hc),fun e=>h.held.map (by rw [←e];exact hc),fun hf=> ?_,h.bg.apart hc (by decide) (by decide) (by decide)⟩
  ·have:=inj (by rw [e];exact hS);revert this;decide
  ·have:=inj (by rw [e];exact hl.self);revert this;decide
  ·obtain ⟨arr,t',e1,e2⟩:=h.mem.kind hf
   have:=inj e1;rcases e2 with rfl|rfl|rfl<;>revert this<;>decide
 have Em:∀ {v:Value},Go.Gl.Row1 3 0 W v (ds.map (fun x=> .int .i64 x))→Go.Gl.Row1 3 0 (W.setCell ⟨db,7,none⟩ (.pointer (some ⟨lb,0,none⟩))) v (ds.map (fun x=> .int .i64 x)):=fun hr=>hr.keep (fun b hb=>st b (row hr b hb).2.1)
 have xj:=h.bg.apart hC (by decide) (by decide) (by decide);have kN:Kp NT W (W.setCell ⟨db,7,none⟩ (.pointer (some ⟨lb,0,none⟩))):=⟨by simp,fun b hb _=>st b (Nk b hb).2.2.2.1⟩
 refine ⟨Go.Gl.aK hC 7 _,h.set.same (st _ (ty hS (by decide))),EK h.own (fun b cur hc=>st b (ty hc (by decide))),hl.same (st _ (ty hl.self (by decide))),⟨0,(h.mem.keep (fun b hb=>st b (fmd b hb)) ⟨by simp,fun b hb _=>st b (row h.Nj b hb).2.1⟩).mono (fun b hb=> .inr (.inr hb))⟩,
  ht.keep (st _ tmd),fun k b l hk=>⟨(js k b l hk).1,((js k b l hk).2.kp kN).mono (fun b hb=> .inl hb)⟩,h.held.keep (st _ hmd),Lb (Em h.SK) ic (fun g hg=> .inr (.inl hg)),?_,h.jn.keep (fun b hb'=>st b (by omega)),fun b hb'=> ?_,fun b hb'=> ?_,h1,h2,h3⟩
 ·obtain ⟨V',d1,d2⟩:=h.bg
  exact ⟨V',d1.keep (by simp) (fun b hb'=>st b (fun e=>xj (by rw [←e];exact hb'))),d2⟩
 ·have key:b<W.heap.size∧b≠db∧b≠sb∧b≠lb∧b≠tm∧b≠hm∧¬ FM mb ha [] b∧¬ F b:=by
   rcases hb' with hb'|hb'|hb'
   ·have:=Nk b hb';exact ⟨this.1,this.2.2.2.1,this.2.2.2.2.1,this.2.2.2.2.2.1,this.2.2.2.2.2.2.1,this.2.2.2.2.2.2.2,this.2.2.1,this.2.1⟩
   ·exact row h.SK b hb'
   ·exact row h.Nj b hb'
  obtain ⟨k1,k2,k3,k4,k5,k6,k7,k8⟩:=key;refine ⟨by simpa using k1,?_⟩;rintro (q|q|q|q|q|q|q)
  ·exact k8 q
  ·exact k7 q
  ·exact k2 q
  ·exact k3 q
  ·exact k4 q
  ·exact k5 q
  ·exact k6 q
 ·rcases hb' with q|q|q|q|q|q|q
  ·exact (h.bg.foot q).1
  ·rcases q with q|q|⟨_,q,_⟩
   ·rw [q];exact hb.2.2.2.1
   ·rw [q];exact hb.2.2.2.2.1
   ·cases q
  ·rw [q];exact hb.1
  ·rw [q];exact hb.2.1
  ·rw [q];exact hb.2.2.1
  ·rw [q];exact hb.2.2.2.2.2.1
  ·rw [q];exact hb.2.2.2.2.2.2
def amV (Z B Nn A C i:Nat) (w:World) (p r:Nat) (o:Od) (ds:List Int) (s:eP) (Tb:Nat) (e:Ending) (w':World):Prop:=
 ∃ (t':Tr) (f':Lk) (T' K':Nat) (s':eP),e= .returned (.tuple #[.pointer (some ⟨t'.db,0,none⟩),.nilIface])∧eJ Z B Nn A C (i+1) w' t' f' T' K' s'∧t'.p=p∧t'.r=r∧t'.o=o∧t'.ds=ds∧
  s'.V=s.V∧(∀ x,x∈eu s'↔x∈eu s)∧t'.seq=pE s∧t'.hh=(fun _=>none)∧t'.hn=0∧w.heap.size≤t'.tm∧w.heap.size≤t'.hm∧(∀ b,t'.N b→w.heap.size≤b)∧Rl B r w w'∧T'≤Tb
theorem Rl.amW (h:Rl B r w W) (hs:Sep G W W' G') (hG:∀ b,G b→w.heap.size≤b) (hB:B≤w.heap.size):Rl B r w W':=by
 refine ⟨⟨hs.os.trans h.hold.os,hs.tape.trans h.hold.tape,hs.output.trans h.hold.output,aM h.hold.size hs.size,fun b arr ty fz hb ht=> ?_,fun b ob hb hc hn=> ?_⟩,⟨hs.os.trans h.below.os,hs.tape.trans h.below.tape,hs.output.trans h.below.output,aM h.below.size hs.size,fun b hb=> ?_⟩⟩
 ·have h1:=h.hold.keep b arr ty fz hb ht
  exact (hs.out b (af h1) (fun hg=>by have:=hG b hg;have:=af hb;omega)).trans h1
 ·have h1:=h.hold.maps b ob hb hc hn
  exact (hs.out b (af h1) (fun hg=>by have:=hG b hg;have:=af hb;omega)).trans h1
 ·have h1:=h.below.block b hb
  have h2:=h.hold.size;exact (hs.out b (by omega) (fun hg=>by have:=hG b hg;omega)).trans h1
theorem Rl.stp {t t':Tr} {f:Lk} (h:Rl B t.r w W) (ht:dm Z B Nn W t f T K) (hs:fD W t W' t') (hn:t.ns= []) (h1:w.heap.size≤t.db) (h2:w.heap.size≤t.mb) (h3:w.heap.size≤t.ha) (h4:w.heap.size≤t.lb) (h5:w.heap.size≤t.tm) (h6:w.heap.size≤t.hm) (hB:B≤w.heap.size):Rl B t.r w W':=by
 have hs':=hs.sep;have hS:W.heap[t.sb]?=some (.cells (setCells t.p t.tv t.V ((0:Nat):Int)) 154 (0,0)):=ht.set;have kD:∀ b,FM t.mb t.ha t.ns b→w.heap.size≤b:=fun b hb=>by
  rcases hb with q|q|⟨n,q,_⟩
  ·omega
  ·omega
  ·rw [hn] at q;cases q
 refine ⟨⟨hs'.os.trans h.hold.os,hs'.tape.trans h.hold.tape,hs'.output.trans h.hold.output,aM h.hold.size hs'.size,fun b arr ty fz hb ri=> ?_,fun b ob hb hc Qe=> ?_⟩,⟨hs'.os.trans h.below.os,hs'.tape.trans h.below.tape,hs'.output.trans h.below.output,aM h.below.size hs'.size,fun b hb=> ?_⟩⟩
 ·have g1:=h.hold.keep b arr ty fz hb ri
  have lb:=af hb;refine (hs'.out b (af g1) ?_).trans g1;rintro (q|q|q|q|q|q|q)
  ·exact ht.bg.apart g1 (fun e=>ri (.inl e)) (fun e=>ri (.inr (.inl e))) (fun e=>ri (.inr (.inr (.inl e)))) q
  ·have:=kD b q;omega
  ·omega
  ·rw [q,hS] at g1
   exact ri (.inr (.inr (.inr (cE (bk g1)).2.1.symm)))
  ·omega
  ·omega
  ·omega
 ·have g1:=h.hold.maps b ob hb hc Qe
  have lb:=af hb;refine (hs'.out b (af g1) ?_).trans g1;rintro (q|q|q|q|q|q|q)
  ·exact ht.bg.aeq g1 hc Qe q
  ·have:=kD b q;omega
  ·omega
  ·rw [q,hS] at g1
   exact hc _ _ _ (bk g1).symm
  ·omega
  ·omega
  ·omega
 ·exact (hs'.out b (by have:=h.hold.size;omega) (fun hf=>by have:=ht.base b hf;omega)).trans (h.below.block b hb)
def jt (LL:List (List (Nat×List Wr))):List (List (Nat×List Wr)):=if LL= [] then [[]] else LL
theorem amX (LL:List (List (Nat×List Wr))):(jt LL).flatten=LL.flatten:=by
 unfold jt;by_cases h:LL= []
 ·rw [if_pos h,h];rfl
 ·rw [if_neg h]
theorem amY (LL:List (List (Nat×List Wr))):jt LL≠ []:=by
 unfold jt;by_cases h:LL= []
 ·rw [if_pos h];exact List.cons_ne_nil _ _
 ·rw [if_neg h];exact h
theorem amZ (LL:List (List (Nat×List Wr))):(jt LL).length≤LL.length+1∧0<(jt LL).length:=by
 refine ⟨?_,List.length_pos_iff.2 (amY LL)⟩;unfold jt;by_cases h:LL= []
 ·rw [if_pos h];simp
 ·rw [if_neg h];omega
theorem aad (LL:List (List (Nat×List Wr))):nY (gF (jb LL))=gF (jb (jt LL)):=by
 unfold nY jt;by_cases h:LL= []
 ·rw [if_pos h,h];simp [bZ]
 ·rw [if_neg h,if_neg (fun e=>h (by simpa using e))]
theorem Told.opened {t:Tr} {f:Lk} {a:Nat} {s:eP} (h:Told t.o.block.toNat A C i f K s) (ha:s.V.wal=(a:Int)) (ht:dm Z B Nn w t (pW cr a f (gF (jb s.LL))) T K') (hV:t.V=s.V) (jJ:t.ns.map (fun n=>n.x.e)=s.LL.flatten.foldl (fun l b=>gA b.1 b.2 l) [])
  (hm:t.m=a+((jt s.LL).length-1)) (js:∀ x∈s.V.tabs,∃ b,t.ld x.file=some (b,s.ay x.file)) (sH:qy t.o) (eD:t.seq=(s.LL.flatten.map (·.1)).foldl max s.V.seq.toNat) (hK:K'≤K+10):eJ Z B Nn A C (i+1) w t (pW cr a f (gF (jb s.LL))) T K' {s with LL:=jt s.LL}:=by
 have hl:=h.lim;have hf:=amX s.LL;obtain ⟨yh,hl2⟩:=amZ s.LL;have hat:s.V.wal.toNat=a:=by omega
 have jP:aN (jt s.LL)=aN s.LL:=by unfold aN;rw [hf]
 have oM:eu {s with LL:=jt s.LL}=eu s:=by unfold eu;dsimp only;rw [jP]
 have htp:pE {s with LL:=jt s.LL}=pE s:=by unfold pE;dsimp only;rw [hf]
 have wQ:=h.log;rw [hat] at wQ;refine ⟨ht,hV,?_,?_,?_,?_,by rw [jJ,jP];rfl,by rw [hm];dsimp only;rw [ha];omega,amY _,js,sH,by rw [eD,htp];rfl,by rw [eD];have:=h.vJ;unfold pE at this;omega,by rw [oM];exact h.xI,fun e he=> ?_,by have:=h.K;omega⟩
 ·have h2:=h.gM.Zu (f':=pW cr a f (gF (jb s.LL))) (fun n hn=>by
   unfold pW;split
   ·exact ik _ (sG hn _) _
   ·rfl)
  exact ⟨h2.cur,h2.IG,h2.tmp,h2.one,h2.all,h2.good,h2.IH,h2.tabs,h2.only,h2.ay,h2.files⟩
 ·dsimp only
  rw [hat,←aad];exact VZ wQ
 ·unfold pW
  split
  ·exact ry.set h.sync _ []
  ·exact h.sync
 ·exact ⟨by dsimp only;rw [jP];exact hl.pB,by dsimp only;rw [jP];exact hl.cost,hl.xH,by have:=hl.wal;dsimp only;omega,hl.ER,by have:=hl.next;dsimp only;omega,by have:=hl.el;dsimp only;omega,by have:=hl.adds;dsimp only;omega,fun b hb=>hl.ES b (by rw [←hf];exact hb),by have:=hl.IJ;dsimp only;rw [hf];omega,by dsimp only;rw [hf];exact hl.ML,by dsimp only;rw [hf];exact hl.MM⟩
 ·rw [oM] at he
  rw [eD];exact h.top e he
end Go.Proofs.YtoolkdapflaeeaaGreatDoor
