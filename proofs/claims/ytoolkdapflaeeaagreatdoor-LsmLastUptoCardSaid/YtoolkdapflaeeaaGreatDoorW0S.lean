/- Helpers. -/
import Derived.Lib.UnsafeStr
import Derived.Test.YtoolkdapflaeeaaGreatDoorW0R
import Derived.Deep.CutRange
import Derived.Deep.DeepCutAuto
set_option maxRecDepth 100000
set_option maxHeartbeats 16000000
namespace Go.Proofs.YtoolkdapflaeeaaGreatDoor
open Go.RowKit Go.Gl Go.aH Mn
abbrev Md:Od:=⟨100,40,2,200,80⟩
theorem amc:pY Md:=by decide
theorem amd (w:World):Calls Tryz.prog 36 #[] w fun e w'=>∃ dv,e= .returned (sN Md dv)∧Go.Gl.Row1 3 w.heap.size w' dv ([3,1].map (fun x=>Value.int .i64 x))∧Grow w w':=by
 have ai:=Grow.alloc w (.cells #[.int .i64 0,.int .i64 0,.int .i64 0,.int .i64 0,.int .i64 0,.slice none 0 0] 26);have hb:=aw w (.cells #[.int .i64 0,.int .i64 0,.int .i64 0,.int .i64 0,.int .i64 0,.slice none 0 0] 26);have hbi:=aes;go_enter Tryz.func36,Tryz.ntmps36
 go_upto_region 1 with fail
 generalize w.alloc (.cells #[.int .i64 0,.int .i64 0,.int .i64 0,.int .i64 0,.int .i64 0,.slice none 0 0] 26)=w1 at*;obtain ⟨xb,gi⟩:∃ xb,xb=w.heap.size:=⟨_,rfl⟩
 rw [←gi] at hb ⊢;have tZ:=ae gi;clear gi;have hgb:=Grow.alloc w1 (.cells #[.int .i64 3,.int .i64 1] 3);have dw:=aw w1 (.cells #[.int .i64 3,.int .i64 1] 3);have hb2:=hgb.heap hb;have hf2:∀ j,(w1.alloc (.cells #[.int .i64 3,.int .i64 1] 3)).frozen? ⟨xb,j,none⟩=false:=fun j=>by simp [World.frozen?,hb2]
 have hc2:∀ j v,(#[Value.int .i64 0,.int .i64 0,.int .i64 0,.int .i64 0,.int .i64 0,.slice none 0 0]:Array Value)[j]?=some v→(w1.alloc (.cells #[.int .i64 3,.int .i64 1] 3)).cell? ⟨xb,j,none⟩=some v:=fun j v h=>by simp [World.cell?,hb2,h]
 have c0:=hc2 0 _ rfl;have c1:=hc2 1 _ rfl;have c2:=hc2 2 _ rfl;have c3:=hc2 3 _ rfl;have c4:=hc2 4 _ rfl;have c5:=hc2 5 _ rfl;have lx:=af hb2;have hst:=Go.Gl.aI (Go.Gl.aI (Go.Gl.aI (Go.Gl.aI (Go.Gl.aI (Go.Gl.aI hb2 0 (.int .i64 100)) 1 (.int .i64 40)) 2 (.int .i64 2)) 3 (.int .i64 200)) 4 (.int .i64 80)) 5 (.slice (some ⟨w1.heap.size,0,none⟩) 2 2);have hle:w.heap.size≤xb:=Nat.le_of_eq tZ.out.symm;have hgr:Grow w (((((((w1.alloc (.cells #[.int .i64 3,.int .i64 1] 3)).setCell ⟨xb,0,none⟩ (.int .i64 100)).setCell ⟨xb,1,none⟩ (.int .i64 40)).setCell ⟨xb,2,none⟩ (.int .i64 2)).setCell ⟨xb,3,none⟩ (.int .i64 200)).setCell ⟨xb,4,none⟩ (.int .i64 80)).setCell ⟨xb,5,none⟩ (.slice (some ⟨w1.heap.size,0,none⟩) 2 2)):=((((((ai.trans hgb).setCell (p:=⟨xb,0,none⟩) hle _).setCell (p:=⟨xb,1,none⟩) hle _).setCell (p:=⟨xb,2,none⟩) hle _).setCell (p:=⟨xb,3,none⟩) hle _).setCell (p:=⟨xb,4,none⟩) hle _).setCell (p:=⟨xb,5,none⟩) hle _;have fT:w1.heap.size≠xb:=by have:=af hb;omega
 have hrow:∀ W:World,W.heap[w1.heap.size]?=some (.cells #[.int .i64 3,.int .i64 1] 3 (0,0))→Go.Gl.Row1 3 w.heap.size W (.slice (some ⟨w1.heap.size,0,none⟩) 2 2) ([3,1].map (fun x=>Value.int .i64 x)):=fun W h=> .inr ⟨w1.heap.size,2,_,rfl,ai.size,h,by simp,ay _,by simp [maxLen],rfl⟩
 have hr2:=hrow (((((((w1.alloc (.cells #[.int .i64 3,.int .i64 1] 3)).setCell ⟨xb,0,none⟩ (.int .i64 100)).setCell ⟨xb,1,none⟩ (.int .i64 40)).setCell ⟨xb,2,none⟩ (.int .i64 2)).setCell ⟨xb,3,none⟩ (.int .i64 200)).setCell ⟨xb,4,none⟩ (.int .i64 80)).setCell ⟨xb,5,none⟩ (.slice (some ⟨w1.heap.size,0,none⟩) 2 2)) (by
  rw [aK _ _ _ _ fT,aK _ _ _ _ fT,aK _ _ _ _ fT,aK _ _ _ _ fT,aK _ _ _ _ fT,aK _ _ _ _ fT];exact dw)
 have bG:=ae (ah hst (ah hgr hr2));clear hc2 hst hgr hrow hr2 hb2 dw hgb ai hb;go_wp2;have hx:=bG.out.1;have z:∀ j v,(#[Value.int .i64 100,.int .i64 40,.int .i64 2,.int .i64 200,.int .i64 80,.slice (some ⟨w1.heap.size,0,none⟩) 2 2]:Array Value)[j]?=some v→(((((((w1.alloc (.cells #[.int .i64 3,.int .i64 1] 3)).setCell ⟨xb,0,none⟩ (.int .i64 100)).setCell ⟨xb,1,none⟩ (.int .i64 40)).setCell ⟨xb,2,none⟩ (.int .i64 2)).setCell ⟨xb,3,none⟩ (.int .i64 200)).setCell ⟨xb,4,none⟩ (.int .i64 80)).setCell ⟨xb,5,none⟩ (.slice (some ⟨w1.heap.size,0,none⟩) 2 2)).cell? ⟨xb,j,none⟩=some v:=fun j v h=>by
  simp only [World.cell?,hx];exact h
 have z0:=z 0 _ rfl;have z1:=z 1 _ rfl;have z2:=z 2 _ rfl;have z3:=z 3 _ rfl;have z4:=z 4 _ rfl;have z5:=z 5 _ rfl;refine bodyPost_ret (v:=sN Md (.slice (some ⟨w1.heap.size,0,none⟩) 2 2)) (by simp [results,Tryz.results36,go_sem,z0,z1,z2,z3,z4,z5]) rfl ?_;exact ⟨_,rfl,bG.out.2.2,bG.out.2.1⟩
theorem cz.below {Z B Nn:Nat} {w w':World} {t t':Tr} {f:Lk} {T K:Nat} (h:cz Z B Nn w t f T K) (hs:eC w t w' t'):Below B w w':=
 hs.sep.below (fun b hb=>h.base b hb) h.aW.base
abbrev Rh (x:UInt8) (W:World):World:=(W.alloc (.cells #[.int .u8 x.toNat] 5)).freeze ⟨W.heap.size,1,none⟩ 1
theorem aCk (x:UInt8) (W:World):(convert 49 49 (.slice (some ⟨W.heap.size,0,none⟩) 1 1)).run Tryz.prog (W.alloc (.cells #[.int .u8 x.toNat] 5))= .ok (.slice (some ⟨W.heap.size,0,none⟩) 1 1) (Rh x W):=by
 have rU:(W.alloc (.cells #[.int .u8 x.toNat] 5)).shape? W.heap.size=some (5,1):=by
  have hB:=aw W (.cells #[.int .u8 x.toNat] 5);unfold World.shape?;rw [hB];rfl
 simp [convert,go_sem,markStringish,rU]
theorem aCl (x:UInt8) (W:World):Grow W (Rh x W):=Lib.below_freeze (Grow.alloc _ _) (p:=⟨W.heap.size,1,none⟩) (ay _) 1
theorem aCm (x:UInt8) (W:World):(Rh x W).heap[W.heap.size]?=some (.cells #[.int .u8 x.toNat] 5 (1,2)):=by
 simp [Rh,World.freeze,World.alloc,-World.alloc_eq,Array.getElem_modify]
theorem ame {x:UInt8} {W:World} {b:Nat} {f:Nat×Nat} (h:W.heap[b]?=some (.cells #[.int .u8 x.toNat] 5 f)):Bv W (.slice (some ⟨b,0,none⟩) 1 1) [x]:=by
 refine ⟨_,1,rfl,ay _,by unfold maxLen;omega,(fun h=>by cases h),.inr ⟨b,0,rfl,af h,fun j k hk=> ?_⟩⟩
 match j,hk with
 |0,hk=>cases hk;simp [World.cell?,h]
 |j+1,hk=>cases hk
theorem amf (x:UInt8) (W:World):∃ wa,(convert 49 49 (.slice (some ⟨W.heap.size,0,none⟩) 1 1)).run Tryz.prog (W.alloc (.cells #[.int .u8 x.toNat] 5))= .ok (.slice (some ⟨W.heap.size,0,none⟩) 1 1) wa∧Grow W wa∧wa.heap[W.heap.size]?=some (.cells #[.int .u8 x.toNat] 5 (1,2)):=
 ⟨_,aCk x W,aCl x W,aCm x W⟩
theorem amg {B r A:Nat} {w W:World} {v:Value} {ds:List Int} (h:Go.Gl.Row1 3 A w v (ds.map (fun x=> .int .i64 x))) (hr:Rl B r w W) (hd:ds.length≤1000000000):Iw (fun _=>True) W v ds:=
 JR (h.keep (fun b hb=>by
  obtain ⟨cur,hc⟩:=h.block hb;rw [hc];exact hr.hold.keep b _ _ _ hc (by unfold zn;decide))) hd (fun _ _=>trivial)
theorem aCn (w:World) (a b:ByteArray) (g h:Bool) (x y:Option Addr) (m n c d:Nat):(Instr.buildSlice 27 2 #[(0,.agg #[.string a,.bool g,.slice x m c]),(1,.agg #[.string b,.bool h,.slice y n d])]).run Tryz.prog w= .ok (.slice (some ⟨w.heap.size,0,none⟩) 2 2) (w.alloc (.cells #[.string a,.bool g,.slice x m c,.string b,.bool h,.slice y n d] 51)):=by kernel_rfl
abbrev wA:List Wr:= [⟨⟨#[97]⟩,false,[120]⟩,⟨⟨#[98]⟩,false,[121]⟩]
abbrev YG:List Wr:= [⟨⟨#[97]⟩,true,[]⟩]
theorem amh (s:Nat) (ws:List Wr):(bw aq (lF s ws)).length≤40+30*ws.length+bD ws:=by
 have h1:=VX s ws;have h2:=kT aq (lF s ws);have h3:=cf (lF s ws).length;omega
theorem XP.done {Z B Nn A C i:Nat} {w w':World} {t:Tr} {T:Nat} {s:dP} {ws:List Wr} {e:Ending} (h:XP Z B Nn A C i w t T s ws e w') (hne:ws≠ []) (hl:¬ mf ws) (hr:T+(40+30*ws.length+bD ws)≤Z):
  ∃ (t':Tr) (f':Lk) (T' K':Nat) (s':dP),e= .returned (.tuple #[.int .u64 ((t.seq+1:Nat):Int),.int .i64 0])∧eC w t w' t'∧dI Z B Nn (A+ws.length) (C+16*ws.length+bD ws) (i+2) w' t' f' T' K' s'∧t'.hh=t.hh∧t'.hn=t.hn∧s'.V.tabs.length≤s.V.tabs.length+1∧t'.seq=t.seq+1∧
   (∀ x,x∈dE s'↔(∃ y,fV x.key ws=some y∧x=ia (t.seq+1) y)∨x∈dE s)∧((costs (gw (t.seq+1) ws (aS s.LL)):Int)≤t.o.mem→s'.V=s.V∧aS s'.LL=gw (t.seq+1) ws (aS s.LL)∧T'=T+(bw aq (lF (t.seq+1) ws)).length):=by
 obtain ⟨c,n,t',f',T',K',s',rfl,h1,h2,h3,h4,h5,h6⟩:=h;have hf:=amh (t.seq+1) ws;rcases h6 with ⟨h7|h7|h7,_⟩|⟨_,_,rfl,rfl,h7,h8,h9,h10⟩
 ·exact absurd h7.1 hne
 ·exact absurd h7.2.1 hl
 ·omega
 ·exact ⟨t',f',T',K',s',rfl,h1,h2,h3,h4,h5,h7,h8,h10⟩
theorem aCo {s:dP} (h:∀ x,x∈dE s↔x∈dE AV):aS s.LL= []:=by
 refine List.eq_nil_iff_forall_not_mem.2 fun x hx=> ?_
 have h1:=(h x).1 (List.mem_append_left _ hx);rw [show dE AV= [] from rfl] at h1;cases h1
theorem aCp (w:World):Calls Tryz.prog 10 #[] w fun e w'=>e= .returned (.bool true)∧Grow w w':=by
 have gO:Calls Tryz.prog 20 #[.int .i64 1048576] w _:=aju 1048576 w (by decide) (by decide);have jY:=ae gO;clear gO;go_enter Tryz.func10,Tryz.ntmps10
 go_wp2_with fail
 (with_reducible refine jY.out.mono ?_);rintro e w1 ⟨rfl,⟨F,hd⟩,hg1⟩;obtain ⟨B,hB⟩:∃ B,B=w.heap.size:=⟨_,rfl⟩
 rw [←hB] at hd ⊢;have gQ:cI 100 B w1:=SC B w1;have Hsm:=ae (amd w1);have HB:=ae hB;have Me:=ae hd;have Hn1:=ae gQ;have dK:=ae hg1;clear hd hg1 hB gQ jY
 go_wp2_with fail
 (with_reducible refine Hsm.out.mono ?_);rintro e w2 ⟨dv,rfl,hrow,hg2⟩;have hop:=Yk (Z:=1048576) (B:=B) (Nn:=100) (A:=0) (C:=0) (i:=1) (s:=AV) (Tb:=0+6) (Me.out.grow hg2) (Hn1.out.grow hg2 Me.out.base) (fun W hr=>amg hrow hr (by decide)) amc (fun W hg=>akH _ ((Me.out.grow hg2).grow hg) ((Hn1.out.grow hg2 Me.out.base).grow hg (Me.out.grow hg2).base) (by decide) (by decide) (by decide)) (by decide) (by decide) (by decide) (by decide) (by decide);have Hop:=ae hop;have eD:=ae (dK.out.trans hg2);clear hop hrow hg2 Hsm
 go_wp2_with fail
 (with_reducible refine Hop.out.mono ?_);rintro e w3 ⟨t1,f1,T1,K1,s1,rfl,h1,qV,hr1,mV,fR,hV1,ha1,hs1,GA,GC,Gw,Gx,Cp,yy,mP⟩;have H1:=ae (ah h1 (ah qV (ah mV (ah hV1 (ah ha1 (ah hs1 (ah yy mP)))))));have hw2:=aCn;obtain ⟨wa,yO,ai,vg⟩:∃ wa,(convert 49 49 (.slice (some ⟨w3.heap.size,0,none⟩) 1 1)).run Tryz.prog (w3.alloc (.cells #[.int .u8 120] 5))= .ok (.slice (some ⟨w3.heap.size,0,none⟩) 1 1) wa∧Grow w3 wa∧wa.heap[w3.heap.size]?=some (.cells #[.int .u8 (120:UInt8).toNat] 5 (1,2)):=amf 120 w3
 obtain ⟨wb,hv2,hgb,cZ⟩:∃ wb,(convert 49 49 (.slice (some ⟨wa.heap.size,0,none⟩) 1 1)).run Tryz.prog (wa.alloc (.cells #[.int .u8 121] 5))= .ok (.slice (some ⟨wa.heap.size,0,none⟩) 1 1) wb∧Grow wa wb∧wb.heap[wa.heap.size]?=some (.cells #[.int .u8 (121:UInt8).toNat] 5 (1,2)):=amf 121 wa
 have sL:=Grow.alloc wb (.cells #[.string ⟨#[97]⟩,.bool false,.slice (some ⟨w3.heap.size,0,none⟩) 1 1,.string ⟨#[98]⟩,.bool false,.slice (some ⟨wa.heap.size,0,none⟩) 1 1] 51);have qB:=aw wb (.cells #[.string ⟨#[97]⟩,.bool false,.slice (some ⟨w3.heap.size,0,none⟩) 1 1,.string ⟨#[98]⟩,.bool false,.slice (some ⟨wa.heap.size,0,none⟩) 1 1] 51);have YH:=(hgb.trans sL).heap vg;have YI:=sL.heap cZ;have YJ:=(ai.trans hgb).trans sL;have key:∀ (j:Nat) (v:Value),(#[Value.string ⟨#[97]⟩,.bool false,.slice (some ⟨w3.heap.size,0,none⟩) 1 1,.string ⟨#[98]⟩,.bool false,.slice (some ⟨wa.heap.size,0,none⟩) 1 1]:Array Value)[j]?=some v→(wb.alloc (.cells #[.string ⟨#[97]⟩,.bool false,.slice (some ⟨w3.heap.size,0,none⟩) 1 1,.string ⟨#[98]⟩,.bool false,.slice (some ⟨wa.heap.size,0,none⟩) 1 1] 51)).cell? ⟨wb.heap.size,j,none⟩=some v:=fun j v h=>by
  simp only [World.cell?,qB];exact h
 have yj:Hid (Ws (fun b=>w3.heap.size≤b∧b<(wb.alloc (.cells #[.string ⟨#[97]⟩,.bool false,.slice (some ⟨w3.heap.size,0,none⟩) 1 1,.string ⟨#[98]⟩,.bool false,.slice (some ⟨wa.heap.size,0,none⟩) 1 1] 51)).heap.size) (wb.alloc (.cells #[.string ⟨#[97]⟩,.bool false,.slice (some ⟨w3.heap.size,0,none⟩) 1 1,.string ⟨#[98]⟩,.bool false,.slice (some ⟨wa.heap.size,0,none⟩) 1 1] 51)) (.slice (some ⟨wb.heap.size,0,none⟩) 2 2) [⟨⟨⟨#[97]⟩,false,[120]⟩,.slice (some ⟨w3.heap.size,0,none⟩) 1 1⟩,⟨⟨⟨#[98]⟩,false,[121]⟩,.slice (some ⟨wa.heap.size,0,none⟩) 1 1⟩]):=ae (by
  refine ⟨⟨_,2,rfl,ay _,by unfold maxLen;omega,(fun h=>by cases h),.inr ⟨wb.heap.size,0,rfl,⟨aN ai.size hgb.size,by simp⟩,by simp,fun i x hx c u hu=> ?_⟩⟩,fun x hx=> ?_⟩
  ·match i,hx with
   |0,hx=>
    cases hx
    match c,hu with
    |0,hu=>cases hu;exact key 0 _ rfl
    |1,hu=>cases hu;exact key 1 _ rfl
    |2,hu=>cases hu;exact key 2 _ rfl
    |c+3,hu=>simp [ma] at hu
   |1,hx=>
    cases hx
    match c,hu with
    |0,hu=>cases hu;exact key 3 _ rfl
    |1,hu=>cases hu;exact key 4 _ rfl
    |2,hu=>cases hu;exact key 5 _ rfl
    |c+3,hu=>simp [ma] at hu
   |i+2,hx=>simp at hx
  ·rcases List.mem_cons.1 hx with rfl|hx
   ·exact ⟨ame (x:=120) YH,.inr (fun b hb=>by cases hb;exact ⟨ay _,af YH⟩)⟩
   ·rw [cY.1 hx]
    exact ⟨ame (x:=121) YI,.inr (fun b hb=>by cases hb;exact ⟨ai.size,af YI⟩)⟩)
 have hap:=XR (h1.grow YJ) (fun b hb=>⟨hb.2,fun hf=>by have:=h1.tree.lt hf;have:=hb.1;omega⟩) yj.out (ws:=wA) rfl (by simp) (by decide) (by decide) (by decide) (by decide) (by decide) (by rw [hV1];decide);have eG:=ae hap;have amk:=ae YJ;clear h1 qV hr1 mV fR hV1 ha1 hs1 GA GC Gw Gx Cp yy mP Hop hap YJ YH YI qB sL cZ hgb vg ai yj key
 go_wp2_with fail
 (with_reducible refine eG.out.mono ?_);rintro e w4 hp;obtain ⟨h1,qV,mV,hV1,ha1,hs1,yy,mP⟩:=H1.out;obtain ⟨t2,f2,T2,K2,s2,rfl,DL,h2,_,_,aCq,wB,yz,hV2⟩:=hp.done (by decide) (by decide) (by have:bD wA=4:=rfl;simp only [List.length_cons,List.length_nil];omega);have fY:=aCo ha1;have oh:t1.seq+1=1:=by rw [show t1.seq=0 from hs1]
 rw [oh,fY] at hV2;rw [oh] at wB yz;have Ad:=PA 1 [] wA;have e4:bD wA=4:=rfl;have e2:wA.length=2:=rfl;have e0:costs ([]:List En)=0:=rfl;have e00:([]:List En).length=0:=rfl;rw [e4,e2,e0,e00] at Ad;obtain ⟨Ri,iy,uI⟩:=hV2 (by rw [mV];show _≤(100:Int);omega);rw [hV1] at Ri;have eu:=amh 1 wA;have amm:=ajI h2 (by decide) (by decide) (by decide) (by decide) (by rw [Ri];decide);have H2:=ae (ah h2 (ah DL (ah wB (ah yz (ah Ri (ah iy (ah uI (ah Ad eu))))))));have pM:=ae amm;have amn:t1.seq+1=1:=oh;rw [amn];have YK:t2.db=t1.db:=DL.db;rw [YK] at pM;have aHX:=ae YK;clear h1 qV mV hV1 ha1 hs1 yy mP h2 DL wB yz hV2 Ri iy uI Ad eu amm fY oh e4 e2 e0 e00 aCq hp eG amn YK
 go_wp2_with fail
 (with_reducible refine pM.out.mono ?_);rintro e w5 ⟨c3,t3,f3,T3,K3,s3,rfl,amo,h3,Mf,Mg,_,_,YL,hc3,AD⟩;obtain ⟨h2,DL,wB,yz,hV2,iy,uI,Ad,eu⟩:=H2.out;obtain ⟨h1,qV,mV,hV1,ha1,hs1,yy,mP⟩:=H1.out;have hwA:bD wA=4:=rfl;have kD:wA.length=2:=rfl;have eU:t2.o=Md:=DL.o.trans mV;have AL:aS s2.LL≠ []:=by
  rw [iy];intro e;have:=(afc (l:= []) cQ.nil (e:=ia 1 ⟨⟨#[97]⟩,false,[120]⟩) (s:=1) wA).2 (.inl ⟨⟨⟨#[97]⟩,false,[120]⟩,by simp [fV,ia],rfl⟩);rw [e] at this;cases this
 have aCr:(fX t2.o.block.toNat (aS s2.LL)).length≤2000:=by
  have h9:=Qv (aS s2.LL);rw [iy] at h9;have h8:=aCh (size:=t2.o.block.toNat) AL (by rw [iy];omega) (by rw [iy];omega);rw [iy] at h8 ⊢;omega
 rw [hwA,kD] at eu;have hc0:c3=0:=by
  rcases hc3 with h9|⟨_,h9|⟨k0,k1,e1,e2,e3⟩⟩
  ·exact h9
  ·omega
  ·exact absurd (aCi hV2 (aCj h2.Gm.ord e1 e2) (by omega) (by have:=h2.m;have h8:=h2.lim.aj;omega)) e3
 subst hc0;have amq:t3.seq+1=2:=by rw [Mg,wB]
 have amr:T3≤310000:=by omega
 have DM:eC (wb.alloc (.cells #[.string ⟨#[97]⟩,.bool false,.slice (some ⟨w3.heap.size,0,none⟩) 1 1,.string ⟨#[98]⟩,.bool false,.slice (some ⟨wa.heap.size,0,none⟩) 1 1] 51)) t1 w5 t3:=DL.trans amo;have vJ:=Grow.alloc w5 (.cells #[.string ⟨#[97]⟩,.bool true,.slice none 0 0] 51);have ams:=aw w5 (.cells #[.string ⟨#[97]⟩,.bool true,.slice none 0 0] 51);have Rj:∀ (j:Nat) (v:Value),(#[Value.string ⟨#[97]⟩,.bool true,.slice none 0 0]:Array Value)[j]?=some v→(w5.alloc (.cells #[.string ⟨#[97]⟩,.bool true,.slice none 0 0] 51)).cell? ⟨w5.heap.size,j,none⟩=some v:=fun j v h=>by
  simp only [World.cell?,ams];exact h
 have LM:Ws (fun b=>w5.heap.size≤b∧b<(w5.alloc (.cells #[.string ⟨#[97]⟩,.bool true,.slice none 0 0] 51)).heap.size) (w5.alloc (.cells #[.string ⟨#[97]⟩,.bool true,.slice none 0 0] 51)) (.slice (some ⟨w5.heap.size,0,none⟩) 1 1) [⟨⟨⟨#[97]⟩,true,[]⟩,.slice none 0 0⟩]:=by
  refine ⟨⟨_,1,rfl,ay _,by unfold maxLen;omega,(fun h=>by cases h),.inr ⟨w5.heap.size,0,rfl,⟨ay _,by simp⟩,by simp,fun i x hx c u hu=> ?_⟩⟩,fun x hx=> ?_⟩
  ·match i,hx with
   |0,hx=>
    cases hx
    match c,hu with
    |0,hu=>cases hu;exact Rj 0 _ rfl
    |1,hu=>cases hu;exact Rj 1 _ rfl
    |2,hu=>cases hu;exact Rj 2 _ rfl
    |c+3,hu=>simp [ma] at hu
   |i+1,hx=>simp at hx
  ·rw [cY.1 hx];exact UC _ _
 have hap:=XR (h3.grow vJ) (fun b hb=>⟨hb.2,fun hf=>by have:=h3.tree.lt hf;have:=hb.1;omega⟩) LM (ws:=YG) rfl (by simp) (by decide) (by decide) (by decide) (by decide) (by decide) (by
  rw [hV2] at YL;have h9:cd.tabs.length=0:=rfl;omega)
 have Mh:t3.db=t1.db:=DM.db;rw [Mh] at hap;have eG:=ae hap;have H3:=ae (ah h3 (ah DM (ah Mf (ah amq (ah amr (ah Mh vJ))))));clear h2 DL wB yz hV2 iy uI Ad eu h1 qV mV hV1 ha1 hs1 yy mP hwA kD eU AL aCr amq amr DM ams Rj LM hap Mh vJ amo h3 Mf Mg hc3 AD pM
 go_wp2_with fail
 (with_reducible refine eG.out.mono ?_);rintro e w6 hp;obtain ⟨h3,DM,Mf,Mg,AD,Mh,vJ⟩:=H3.out;obtain ⟨t4,f4,T4,K4,s4,rfl,YM,h4,_,_,aCs,AY,YN,_⟩:=hp.done (by decide) (by decide) (by have:bD YG=1:=rfl;simp only [List.length_cons,List.length_nil];omega);rw [Mg] at AY YN ⊢;obtain ⟨h1,qV,mV,hV1,ha1,hs1,yy,mP⟩:=H1.out;have YO:=(DM.trans (eC.bF t3 vJ)).trans YM;have hp4:t4.p=B+1:=YO.p.trans qV;have jr:t4.o=Md:=YO.o.trans mV;have jh:Dl 1048576 B w6 (B+1) t4.r f4 T4 K4 t4.F:=by have:=h4.tree.aW;rw [hp4] at this;exact this
 have Tj:=aAE jh (by have:=h4.K;omega) h4.sync (pv:= .slice none 0 0) (picks:= []) ⟨none,0,rfl,bk _,.inl rfl⟩ (fun h=>absurd rfl h);have hall:∀ x,x∈dE s4↔(∃ y,fV x.key YG=some y∧x=ia 2 y)∨∃ y,fV x.key wA=some y∧x=ia 1 y:=fun x=>by
  rw [YN x];refine or_congr_right ?_;rw [Mf x,H2.out.2.2.2.1 x,ha1 x];rw [show dE AV= [] from rfl];constructor
  ·rintro (h|h)
   ·exact h
   ·cases h
  ·exact .inl
 have Rk:=HB.out;have DN:Below B w w6:=by
  have g1:Below B w w2:=eD.out.mono (Nat.le_of_eq Rk);have g2:Below B w3 (wb.alloc (.cells #[.string ⟨#[97]⟩,.bool false,.slice (some ⟨w3.heap.size,0,none⟩) 1 1,.string ⟨#[98]⟩,.bool false,.slice (some ⟨wa.heap.size,0,none⟩) 1 1] 51)):=amk.out.mono h1.tree.aW.base;have g3:=cz.below (h1.grow amk.out).tree DM;have g4:=cz.below (h3.grow vJ).tree YM;have g5:Below B w5 (w5.alloc (.cells #[.string ⟨#[97]⟩,.bool true,.slice none 0 0] 51)):=vJ.mono h3.tree.aW.base;exact ((((g1.trans yy.below).trans g2).trans g3).trans g5).trans g4
 have iz:s4.V.tabs.length≤2:=by
  have h9:cd.tabs.length=0:=rfl;have h8:=H2.out.2.2.2.2.1;rw [h8] at YL;omega
 have Hcr:=ae Tj;have H4:=ae (ah h4 (ah jr (ah AY (ah hall (ah DN iz)))));clear h3 DM Mf Mg AD Mh vJ YM h4 aCs AY YN h1 qV mV hV1 ha1 hs1 yy mP YO hp4 jr jh Tj hall DN eG hp Rk iz YL
 go_wp2_with fail
 (with_reducible refine Hcr.out.mono ?_);rintro e w7 ⟨rfl,F7,tN,nA⟩;have vx:=ae tN;have Cs:=ae nA;have amv:=ae (amd w7);clear tN nA Hcr
 go_wp2_with fail
 (with_reducible refine amv.out.mono ?_);rintro e w8 ⟨dv8,rfl,pW,cx⟩;obtain ⟨h4,jr,AY,hall,DN,iz⟩:=H4.out;have Mc:=h4.told;rw [jr] at Mc;have jL:cI 100 B w8:=SC B w8;have hop:=Yk (Z:=1048576) (B:=B) (Nn:=100) (s:=s4) (Tb:=T4) (vx.out.grow cx) jL (fun W hr=>amg pW hr (by decide)) amc (fun W hg=>aBE Mc ((vx.out.grow cx).grow hg) (jL.grow hg (vx.out.grow cx).base) (by decide) (by decide)) (by decide) (by decide) (by decide) (by decide) (by
  omega)
 have Hop:=ae hop;have oy:=ae cx;clear hop pW cx h4 jr AY hall DN iz Mc jL amv
 go_wp2_with fail
 (with_reducible refine Hop.out.mono ?_);rintro e w9 ⟨t5,f5,T5,K5,s5,rfl,h5,_,_,_,_,_,tJ,hs5,_,_,_,_,_,amw,_⟩;obtain ⟨h4,jr,AY,hall,DN,iz⟩:=H4.out;have YP:t5.seq=2:=by rw [hs5,←h4.seq,AY]
 have vg:eK ⟨#[97]⟩ 18446744073709551615 (dE s5)=some (ia 2 ⟨⟨#[97]⟩,true,[]⟩):=Om h5.vZ ((tJ _).2 ((hall _).2 (.inl ⟨⟨⟨#[97]⟩,true,[]⟩,by simp [fV,ia],rfl⟩))) ⟨rfl,by decide⟩ (fun x hx _=>by have:=h5.top x hx;rw [YP] at this;exact this);have cZ:eK ⟨#[98]⟩ 18446744073709551615 (dE s5)=some (ia 1 ⟨⟨#[98]⟩,false,[121]⟩):=Om h5.vZ ((tJ _).2 ((hall _).2 (.inr ⟨⟨⟨#[98]⟩,false,[121]⟩,by simp [fV,ia],rfl⟩))) ⟨rfl,by decide⟩ (fun x hx hf=>by
  rcases (hall x).1 ((tJ x).1 hx) with ⟨y,h9,_⟩|⟨y,_,h9⟩
  ·have h8:=afb h9
   rw [hf.1] at h8;have h7:=cY.1 h8.1;rw [h7] at h8;exact absurd h8.2 (by decide)
  ·rw [h9];exact ay _)
 have YQ:=YF h5 (by decide) ⟨#[97]⟩;rw [vg] at YQ;have amx:=ae YQ;have hend:Below B w w9:=by
  have g1:Below B w6 w7:=Cs.out.below (fun b hb=>(h4.tree.aW.foot hb).1) h4.tree.aW.base;have g2:Below B w7 w8:=oy.out.mono vx.out.base;exact ((DN.trans g1).trans g2).trans amw.below
 have Hbb:=ae cZ;have H5:=ae (ah h5 (ah YP hend));clear h4 jr AY hall DN iz YP vg cZ YQ hend h5 tJ hs5 amw Hop
 go_wp2_with fail
 (with_reducible refine amx.out.mono ?_);rintro e wx ⟨he,hgx⟩;have sW:e= .returned (.tuple #[.slice none 0 0,.bool false]):=he;subst sW;have YR:=YF (H5.out.1.grow hgx) (by decide) ⟨#[98]⟩;rw [Hbb.out] at YR;have amy:=ae YR;have KD:=ae hgx;clear he hgx YR amx
 go_wp2_with fail
 (with_reducible refine amy.out.mono ?_);rintro e wy ⟨he,uf⟩;have sW:∃ v,e= .returned (.tuple #[v,.bool true])∧aG wx.heap.size wy v [121]:=he
 obtain ⟨v,rfl,hv⟩:=sW;have hcv:=wN (cy hv);have hka:(⟨([121]:List UInt8).toArray⟩:ByteArray)=⟨#[121]⟩:=rfl;rw [hka] at hcv;have dh:=aCg (H5.out.1.grow (KD.out.trans uf));rw [H5.out.2.1] at dh;have wj:=ae dh;have Hgy:=ae (KD.out.trans uf);obtain ⟨va,vc,rfl⟩:=hv.slice;have aHZ:(convert 49 9 (.slice va 1 vc)).run Tryz.prog wy= .ok (.string ⟨#[121]⟩) wy:=hcv;clear he uf hv dh hka amy hcv
 go_wp2_with fail
 (with_reducible refine wj.out.mono ?_);rintro e wz ⟨rfl,Mi⟩;have aCv:=Mi.symm;subst aCv;clear Mi wj;go_wp2;go_ret;have Rk:=HB.out;have gJ:Below B w wy:=H5.out.2.2.trans (Hgy.out.mono H5.out.1.tree.aW.base);rw [Rk] at gJ;exact ⟨rfl,gJ⟩
structure Av where
 op:Int
 wv:Value
 pv:Value
 n:Int
 ys:List Wv
 ks:List Int
def YS (a:Av):List Value:= [.int .i64 a.op,a.wv,a.pv,.int .i64 a.n]
def Mj (N:Nat→Prop) (w:World) (v:Value) (xs:List Av):Prop:=
 (∃ a c,v= .slice a xs.length c∧(xs= []∨∃ b o,a=some ⟨b,o,none⟩∧N b∧b<w.heap.size∧Rd w b o YS 4 xs))∧∀ x∈xs,Ws N w x.wv x.ys∧Iw N w x.pv x.ks
theorem Mj.kp {N:Nat→Prop} {w w':World} {v:Value} {xs:List Av} (h:Mj N w v xs) (k:Kp N w w'):Mj N w' v xs:=by
 obtain ⟨⟨a,c,h1,h2⟩,h3⟩:=h;refine ⟨⟨a,c,h1,?_⟩,fun x hx=>⟨(h3 x hx).1.kp k,(h3 x hx).2.kp k⟩⟩;rcases h2 with h2|⟨b,o,q1,q2,q3,q4⟩
 ·exact .inl h2
 ·exact .inr ⟨b,o,q1,q2,cj q3 k.size,fun i x hx c' u hu=>(k.cell q2 q3 _).trans (q4 i x hx c' u hu)⟩
def qf (a:Av):Nat:=a.ys.length+a.ks.length+bD (a.ys.map (·.x))
def yA (xs:List Av):Prop:=xs.length≤300∧(xs.map qf).sum≤8192∧∀ a∈xs,∀ y∈a.ys,y.x.key.size≤60000
instance (xs:List Av):Decidable (yA xs):=by unfold yA;infer_instance
def YT (w:World) (xs:List Av) (nv iv:Value) (wr:World):Prop:=
 ∃ i:Nat,iv= .int .i64 (i:Int)∧i≤xs.length∧nv= .int .i64 ((((xs.take i).map qf).sum:Nat):Int)∧(∀ a∈xs.take i,∀ y∈a.ys,y.x.key.size≤60000)∧Grow w wr
def FwJ (w:World) (S:Nat) (ys:List Wv) (nv kv:Value) (wr:World):Prop:=
 ∃ k:Nat,kv= .int .i64 (k:Int)∧k≤ys.length∧nv= .int .i64 (((S+bD ((ys.take k).map (·.x))):Nat):Int)∧(∀ y∈ys.take k,y.x.key.size≤60000)∧Grow w wr
theorem aCw {N:Nat→Prop} {w:World} {v:Value} {xs:List Av} (h:Mj N w v xs) (hs:(xs.map qf).sum≤1000000000000000) (hl:xs.length≤1000000000000):
  Calls Tryz.prog 11 #[v] w fun e w'=>e= .returned (.bool (decide (yA xs)))∧Grow w w':=by
 obtain ⟨⟨va,vc,rfl,aY⟩,gu⟩:=id h;have bI:Hid (YT w xs (.int .i64 0) (.int .i64 0) w):=ae ⟨0,rfl,bk _,rfl,(fun a ha=>by simp at ha),Grow.refl w⟩;have Hh:=ae h;have Hb:=ae (ah hs hl);clear h aY gu hs hl;go_enter Tryz.func11,Tryz.ntmps11
 go_wp2_with fail
 go_loopw [3,4] (fun nv iv wr=>YT w xs nv iv wr) (fun _ iv _=>xs.length-(intOf iv).toNat)
 case atStart=>exact bI.out
 case round=>
  clear bI;obtain ⟨i,rfl,hi,rfl,rP,hgr⟩:=hrel;by_cases hlt:i<xs.length
  ·obtain ⟨x,hx⟩:∃ x,xs[i]?=some x:=⟨xs[i],by simp [hlt]⟩
   have hr:=Hh.out.kp (.bF hgr);obtain ⟨⟨rL,rM,jN,hrow⟩,gu⟩:=id hr;cases jN;obtain ⟨b,o,rfl,hNb,hbl,aY⟩:∃ b o,va=some ⟨b,o,none⟩∧N b∧b<wr.heap.size∧Rd wr b o YS 4 xs:=by
    rcases hrow with h0|h0
    ·rw [h0] at hx;cases hx
    ·exact h0
   have ow:=dY hx;have df:((xs.take (i+1)).map qf).sum=((xs.take i).map qf).sum+qf x:=by rw [take_one hx];simp
   have mo:((xs.take (i+1)).map qf).sum≤(xs.map qf).sum:=by rw [List.map_take];exact XA _ _
   obtain ⟨S,hS⟩:∃ S,S=((xs.take i).map qf).sum:=⟨_,rfl⟩
   rw [←hS] at df ⊢;have a1:=aY i x hx 1 _ rfl;have a2:=aY i x hx 2 _ rfl;obtain ⟨hw,hp⟩:=gu x ow;obtain ⟨op,wv,pv,nn,ys,ks⟩:=x;dsimp only at a1 a2 hw hp;have xB:qf ⟨op,wv,pv,nn,ys,ks⟩=ys.length+ks.length+bD (ys.map (·.x)):=rfl;obtain ⟨wa,wc,rfl⟩:=hw.slice;obtain ⟨pa,pc,rfl,eP,_⟩:=id hp;have hb:=Hb.out;have dJ:(i:Int)<(xs.length:Int):=by omega
   have bK:(0:Int)≤(i:Int):=by omega
   have eE:IntKind.i64.wrap ((i:Int)+1)=(i:Int)+1:=aR _ (by omega);obtain ⟨S1,hS1⟩:∃ S1,S1=S+ys.length:=⟨_,rfl⟩
   obtain ⟨S2,nu⟩:∃ S2,S2=S1+ks.length:=⟨_,rfl⟩
   have bS:IntKind.i64.wrap ((S:Int)+(ys.length:Int))=(S1:Int):=(aR _ (by omega)).trans (by omega);have hw2:IntKind.i64.wrap ((S1:Int)+(ks.length:Int))=(S2:Int):=(aR _ (by omega)).trans (by omega);have aIa:S2+bD (ys.map (·.x))≤1000000000000000:=by omega
   have dX:ys.length≤1000000000000000:=by omega
   have HSn:=ae (show ((xs.take (i+1)).map qf).sum=S2+bD (ys.map (·.x)) by omega);have YU:=ae rP;have Hx:=ae hx;have dU:=ae hgr;have Hw:=ae hw;have nS:=ae hlt;have nk:=ae (ah a1 (ah a2 hbl));clear hr hrow gu aY ow df mo hS xB hS1 nu rP hx hgr hw hp eP hlt hb hNb
   go_upto_region 5 with fail
   refine bX (fun W=>W.cell? ⟨b,o+i*4+1,none⟩=some (.slice wa ys.length wc)∧W.cell? ⟨b,o+i*4+2,none⟩=some (.slice pa ks.length pc)∧b<W.heap.size) [(0,false),(1,false),(2,false),(3,false),(4,false),(5,false),(6,false),(7,false),(8,false),(9,false),(10,false),(11,false),(12,false),(13,false),(14,false),(15,false)] (by kernel_rfl) (by kernel_rfl) (fun c a d v w h=>by cases d<;>exact h) ⟨by simpa using a1,by simpa using a2,by simpa using hbl⟩ ?_;simp only [aP,nth];clear a1 a2 hbl
   repeat (first|(refine aB (v:= ?_) (by rfl) ?_ ?_;rotate_left;(rintro W ⟨hW0,hW1,hW2⟩;go_simp;with_reducible rfl);simp only [ag,List.set])|(refine aC (by rfl) ?_;simp only [ag,List.set]))
   refine bm ?_;have hgd:=Grow.drew wr;have sR:=ae (dU.out.trans hgd);have Hw5:=ae (Hw.out.kp (.bF hgd));have YV:Hid (wr.drew.cell? ⟨b,o+i*4+1,none⟩=some (.slice wa ys.length wc)∧b<wr.drew.heap.size):=ae ⟨by simpa using nk.out.1,by simpa using nk.out.2.2⟩;clear hgd Hw nk dU;generalize wr.drew=w5 at*;have Mb:Hid (FwJ w5 S2 ys (.int .i64 (S2:Int)) (.int .i64 0) w5):=ae ⟨0,rfl,bk _,by simp [bD],(fun y hy=>by simp at hy),Grow.refl w5⟩
   go_wp2_with fail
   go_loopw [3,5] (fun nv kv W=>FwJ w5 S2 ys nv kv W) (fun _ kv _=>ys.length-(intOf kv).toNat)
   case atStart=>exact Mb.out
   case round=>
    clear Mb;obtain ⟨k,rfl,hk,rfl,oU,cM⟩:=hrel;have IC:=Hw5.out.kp (.bF cM);have a1:wr.cell? ⟨b,o+i*4+1,none⟩=some (.slice wa ys.length wc):=(Grow.cells wr b _ cM YV.out.2).trans YV.out.1;have lb:=cj YV.out.2 cM.size;by_cases lR:k<ys.length
    ·obtain ⟨y,hy⟩:∃ y,ys[k]?=some y:=⟨ys[k],by simp [lR]⟩
     obtain ⟨b2,o2,c2,jN,afg,Ks,amA⟩:=IC.addr hy;cases jN;obtain ⟨d0,d1,d2⟩:=FD amA hy;have amB:oL N wr y:=IC.get hy;have df:bD ((ys.take (k+1)).map (·.x))=bD ((ys.take k).map (·.x))+(y.x.key.size+y.x.val.length):=by rw [take_one hy,List.map_append,KA];simp [bD]
     have mo:bD ((ys.take (k+1)).map (·.x))≤bD (ys.map (·.x)):=by rw [List.map_take];exact Pj _ _
     have ju:∀ z∈ys.take (k+1),z∈ys.take k∨z=y:=fun z hz=>by
      rw [take_one hy] at hz;rcases List.mem_append.1 hz with hz|hz
      ·exact .inl hz
      ·exact .inr (cY.1 hz)
     have hym:=dY hy;obtain ⟨⟨yk,yg,yd⟩,yv⟩:=y;dsimp only at d0 d1 d2 df;have bg:Bv wr yv yd:=amB.1;obtain ⟨ya,yc,rfl⟩:=bg.slice;obtain ⟨Sk,hSk⟩:∃ Sk,Sk=S2+bD ((ys.take k).map (·.x)):=⟨_,rfl⟩
     obtain ⟨Sa,vz⟩:∃ Sa,Sa=Sk+yk.size:=⟨_,rfl⟩
     obtain ⟨Sb,hSb⟩:∃ Sb,Sb=Sa+yd.length:=⟨_,rfl⟩
     rw [←hSk];have kR:(k:Int)<(ys.length:Int):=by omega
     have jA:(0:Int)≤(k:Int):=by omega
     have Fm:IntKind.i64.wrap ((k:Int)+1)=(k:Int)+1:=aR _ (by omega);have hwa:IntKind.i64.wrap ((Sk:Int)+(yk.size:Int))=(Sa:Int):=(aR _ (by omega)).trans (by omega);have iI:IntKind.i64.wrap ((Sa:Int)+(yd.length:Int))=(Sb:Int):=(aR _ (by omega)).trans (by omega);have HSb:=ae (show Sb=S2+bD ((ys.take (k+1)).map (·.x)) by omega);have XU:=ae ju;have Hkk:=ae oU;have Hym:=ae hym;have AQ:=ae cM;have GD:=ae lR;have hgd:=Grow.drew wr;have uC:=ae hgd;clear IC amA amB df mo ju hym bg hSk vz hSb oU cM lR hy afg hgd
     go_upto_region 9 with fail
     refine bX (fun W=>(W.cell? ⟨b,o+i*4+1,none⟩=some (.slice (some ⟨b2,o2,none⟩) ys.length wc)∧b<W.heap.size)∧W.cell? ⟨b2,o2+k*3,none⟩=some (.string yk)∧W.cell? ⟨b2,o2+k*3+2,none⟩=some (.slice ya yd.length yc)∧b2<W.heap.size) [(0,false),(1,false),(2,false),(3,false),(4,false),(5,false),(6,false),(7,false),(8,false),(9,false),(10,false),(11,false),(12,false),(13,false),(14,false),(15,false),(16,false),(17,false),(18,false),(19,false),(20,false),(21,false),(22,false),(23,false)] (by kernel_rfl) (by kernel_rfl) (fun c a d v w h=>by cases d<;>exact h) ⟨⟨by simpa using a1,by simpa using lb⟩,by simpa using d0,by simpa using d2,by simpa using Ks⟩ ?_;simp only [aP,nth]
     repeat (first|(refine aB (v:= ?_) (by rfl) ?_ ?_;rotate_left;(rintro W ⟨⟨hW0,hW1⟩,hW2,hW3,mF⟩;go_simp;with_reducible rfl);simp only [ag,List.set])|(refine aC (by rfl) ?_;simp only [ag,List.set]))
     refine bm ?_;have a1d:wr.drew.cell? ⟨b,o+i*4+1,none⟩=some (.slice (some ⟨b2,o2,none⟩) ys.length wc):=by simpa using a1
     have lbd:b<wr.drew.heap.size:=by simpa using lb
     have d0d:wr.drew.cell? ⟨b2,o2+k*3,none⟩=some (.string yk):=by simpa using d0
     have l2d:b2<wr.drew.heap.size:=by simpa using Ks
     clear a1 lb d0 d1 d2 Ks;by_cases tU:60000<yk.size
     ·have hb1:(60000:Int)<(yk.size:Int):=by omega
      have YW:=ae tU;clear tU;go_wp2;go_ret;have hno:¬ yA xs:=fun hf=>by
       have h1:=hf.2.2 _ (dY Hx.out) _ Hym.out;have:=YW.out;dsimp only at h1;omega
      exact ⟨by rw [decide_eq_false hno];rfl,(sR.out.trans AQ.out).trans uC.out⟩
     ·have hb1:¬ (60000:Int)<(yk.size:Int):=by omega
      have hb2:(yk.size:Int)≤60000:=by omega
      have YW:=ae tU;clear tU;go_wp2;go_roundw
      case rel=>exact ⟨k+1,by simp,GD.out,by rw [←HSb.out],fun z hz=>by
       rcases XU.out z hz with h1|h1
       ·exact Hkk.out z h1
       ·rw [h1];have:=YW.out;dsimp only;omega,AQ.out.trans uC.out⟩
      case measure=>simp [intOf];have:=GD.out;omega
    ·obtain rfl:k=ys.length:=by omega
     rw [List.take_length] at oU ⊢;have hrel:YT w xs (.int .i64 ((S2+bD (ys.map (·.x)):Nat):Int)) (.int .i64 ((i:Int)+1)) wr:=⟨i+1,by simp,nS.out,by rw [HSn.out],fun a ha=>by
      rw [take_one Hx.out] at ha;rcases List.mem_append.1 ha with ha|ha
      ·exact YU.out a ha
      ·rw [cY.1 ha];exact oU,sR.out.trans cM⟩
     have bq:=ae hrel;obtain ⟨Se,hSe⟩:∃ Se,Se=S2+bD (ys.map (·.x)):=⟨_,rfl⟩
     rw [←hSe] at bq ⊢;clear hrel oU cM IC hSe;go_wp2;go_roundw
     case rel=>exact bq.out
     case measure=>simp [intOf];have:=nS.out;omega
  ·obtain rfl:i=xs.length:=by omega
   rw [List.take_length] at rP ⊢;have hb:=Hb.out;have YU:=ae rP;have dU:=ae hgr;obtain ⟨S,hS⟩:∃ S,S=(xs.map qf).sum:=⟨_,rfl⟩
   rw [←hS];have HS:=ae hS;clear rP hgr hS hb hlt hi;by_cases h1:xs.length≤300
   ·have d1:(xs.length:Int)≤300:=by omega
    by_cases h2:S≤8192
    ·have d2:(S:Int)≤8192:=by omega
     have aCD:Hid (yA xs):=ae ⟨h1,by rw [←HS.out];exact h2,YU.out⟩;clear h1 h2;go_wp2;go_ret;exact ⟨by rw [decide_eq_true aCD.out];rfl,dU.out⟩
    ·have d2:¬ (S:Int)≤8192:=by omega
     have d2':(8192:Int)<(S:Int):=by omega
     have hno:Hid (¬ yA xs):=ae (fun hf=>h2 (by rw [HS.out];exact hf.2.1));clear h1 h2;go_wp2;go_ret;exact ⟨by rw [decide_eq_false hno.out];rfl,dU.out⟩
   ·have d1:¬ (xs.length:Int)≤300:=by omega
    have d1':(300:Int)<(xs.length:Int):=by omega
    have hno:Hid (¬ yA xs):=ae (fun hf=>h1 hf.1);clear h1;go_wp2;go_ret;exact ⟨by rw [decide_eq_false hno.out];rfl,dU.out⟩
end Go.Proofs.YtoolkdapflaeeaaGreatDoor
namespace Go.Proofs.YtoolkdapflaeeaaGreatDoor
open Go.RowKit Go.Gl Go.aH Mn
variable {Z B Nn A C i:Nat} {w w':World} {t:Tr} {f:Lk} {T K:Nat} {s:dP}
theorem cz.side (h:cz Z B Nn w t f T K) {G G':Nat→Prop} (hs:Sep G w w' G') (hG:∀ b,G b→¬ FT t b∧¬ t.N b∧B≤b∧∀ cur fz,w.heap[b]?≠some (.cells cur 101 fz)):cz Z B Nn w' t f T K:=by
 have ft:∀ b,FT t b→w'.heap[b]?=w.heap[b]?:=fun b hb=>hs.out b (h.lt hb) (fun hg=>(hG b hg).1 hb)
 have kN:Kp t.N w w':=⟨hs.size,fun b hb hl=>hs.out b hl (fun hg=>(hG b hg).2.1 hb)⟩
 obtain ⟨aM,hm⟩:=h.mem;refine ⟨h.cell.keep (ft _ (.inr (.inr (.inl rfl)))),h.set.same (ft _ (.inr (.inr (.inr (.inl rfl))))),AB h.own (fun b cur hc=>hs.out b (af hc) (fun hg=>(hG b hg).2.2.2 _ _ hc)),h.log.same (ft _ (.inr (.inr (.inr (.inr (.inl rfl)))))),⟨aM,hm.keep (fun b hb=>ft b (.inr (.inl hb))) kN⟩,
  h.tabs.keep (ft _ (.inr (.inr (.inr (.inr (.inr (.inl rfl))))))),fun k b l hk=>⟨(h.load k b l hk).1,(h.load k b l hk).2.kp kN⟩,h.held.keep (ft _ (.inr (.inr (.inr (.inr (.inr (.inr rfl))))))),h.draws.kp kN,?_,h.gV.keep (fun b hb=>hs.out b (by have:=h.aW.base;omega) (fun hg=>by have:=(hG b hg).2.2.1;omega)),fun b hb=>⟨cj (h.apart b hb).1 hs.size,(h.apart b hb).2⟩,h.base,h.sO,h.ur,h.yf⟩
 obtain ⟨V,d1,d2,d3,d4⟩:=h.aW;exact ⟨V,d1.keep hs.size (fun b hb=>ft b (.inl hb)),d2,d3,d4⟩
theorem dI.side (h:dI Z B Nn A C i w t f T K s) {G G':Nat→Prop} (hs:Sep G w w' G') (hG:∀ b,G b→¬ FT t b∧¬ t.N b∧B≤b∧∀ cur fz,w.heap[b]?≠some (.cells cur 101 fz)):dI Z B Nn A C i w' t f T K s:={h with tree:=h.tree.side hs hG}
theorem cI.up {N B B':Nat} {w w':World} (h:cI N B w) (hB:B≤B') (hk:∀ b,b<B→w'.heap[b]?=w.heap[b]?):cI N B' w':=fun n hn W hW=>h n hn W (fun b hb=>(hW b (by omega)).trans (hk b hb))
abbrev DR (p:Nat) (o:Od) (drv tv:Value) (mm am seq:Nat) (hv ov:Value):Array Value:=#[.pointer (some ⟨p,0,none⟩),.int .i64 o.mem,.int .i64 o.block,.int .i64 o.zero,.int .i64 o.base,.int .i64 o.table,drv,tv,.map (some mm),.map (some am),.int .u64 (seq:Int),hv,ov]
theorem Rm {W:World} {wb p mm am seq:Nat} {o:Od} {drv tv hv ov:Value} (h:W.heap[wb]?=some (.cells (DR p o drv tv mm am seq hv ov) 47 (0,0))):
  (W.cell? ⟨wb,0,none⟩=some (.pointer (some ⟨p,0,none⟩))∧W.cell? ⟨wb,1,none⟩=some (.int .i64 o.mem)∧W.cell? ⟨wb,2,none⟩=some (.int .i64 o.block)∧W.cell? ⟨wb,3,none⟩=some (.int .i64 o.zero)∧W.cell? ⟨wb,4,none⟩=some (.int .i64 o.base)∧W.cell? ⟨wb,5,none⟩=some (.int .i64 o.table)∧W.cell? ⟨wb,6,none⟩=some drv)∧
  W.cell? ⟨wb,7,none⟩=some tv∧W.cell? ⟨wb,8,none⟩=some (.map (some mm))∧W.cell? ⟨wb,9,none⟩=some (.map (some am))∧W.cell? ⟨wb,10,none⟩=some (.int .u64 (seq:Int))∧W.cell? ⟨wb,11,none⟩=some hv∧W.cell? ⟨wb,12,none⟩=some ov∧wb<W.heap.size:=by
 refine ⟨⟨?_,?_,?_,?_,?_,?_,?_⟩,?_,?_,?_,?_,?_,?_,af h⟩<;>simp [World.cell?,h]
def aCE (Z B Nn A C i:Nat) (w:World) (wb p r:Nat) (o:Od) (drv:Value) (ds:List Int) (mm am seq:Nat) (s:dP) (Tb:Nat) (e:Ending) (w':World):Prop:=
 e= .returned (.bool true)∧∃ (t':Tr) (f':Lk) (T' K':Nat) (s':dP),dI Z B Nn A C (i+1) w' t' f' T' K' s'∧t'.p=p∧t'.r=r∧t'.o=o∧t'.ds=ds∧
  s'.V=s.V∧(∀ x,x∈dE s'↔x∈dE s)∧t'.seq=mL s∧t'.hh=(fun _=>none)∧t'.hn=0∧w.heap.size≤t'.tm∧w.heap.size≤t'.hm∧(∀ b,t'.N b→w.heap.size≤b)∧T'≤Tb∧
  w'.heap[wb]?=some (.cells (DR p o drv (.pointer (some ⟨t'.db,0,none⟩)) mm am seq (.slice none 0 0) (.slice none 0 0)) 47 (0,0))∧∃ W,Rl B r w W∧Sep (fun b=>b=wb) W w' (fun b=>b=wb)
theorem aCF {p r wb mm am seq:Nat} {o:Od} {drv tv hv ov:Value} {ds:List Int} {Tb:Nat} (hw:w.heap[wb]?=some (.cells (DR p o drv tv mm am seq hv ov) 47 (0,0))) (hB:B≤wb)
  (hop:∀ W,Grow w W→Calls Tryz.prog 23 #[.pointer (some ⟨p,0,none⟩),sN o drv] W (akJ Z B Nn A C i W p r o ds s Tb)):
  Calls Tryz.prog 39 #[.pointer (some ⟨wb,0,none⟩)] w (aCE Z B Nn A C i w wb p r o drv ds mm am seq s Tb):=by
 have Hop:=ae hop;have Hw:=ae hw;have HB:=ae hB;clear hop hB hw;go_enter Tryz.func39,Tryz.ntmps39
 go_upto_region 1 with fail
 have hgd:=Grow.drew w;have S1:∀ W,Grow w W→(W.cell? ⟨wb,0,none⟩=some (.pointer (some ⟨p,0,none⟩))∧W.cell? ⟨wb,1,none⟩=some (.int .i64 o.mem)∧W.cell? ⟨wb,2,none⟩=some (.int .i64 o.block)∧W.cell? ⟨wb,3,none⟩=some (.int .i64 o.zero)∧W.cell? ⟨wb,4,none⟩=some (.int .i64 o.base)∧W.cell? ⟨wb,5,none⟩=some (.int .i64 o.table)∧W.cell? ⟨wb,6,none⟩=some drv)∧wb<W.heap.size:=fun W hg=>by
  have h1:=Rm (hg.heap Hw.out);exact ⟨h1.1,h1.2.2.2.2.2.2.2⟩
 refine bX (fun W=>(W.cell? ⟨wb,0,none⟩=some (.pointer (some ⟨p,0,none⟩))∧W.cell? ⟨wb,1,none⟩=some (.int .i64 o.mem)∧W.cell? ⟨wb,2,none⟩=some (.int .i64 o.block)∧W.cell? ⟨wb,3,none⟩=some (.int .i64 o.zero)∧W.cell? ⟨wb,4,none⟩=some (.int .i64 o.base)∧W.cell? ⟨wb,5,none⟩=some (.int .i64 o.table)∧W.cell? ⟨wb,6,none⟩=some drv)∧wb<W.heap.size) [(0,false),(1,false),(2,false),(3,false),(4,false),(5,false),(6,false),(7,false),(8,true),(9,false),(10,false),(11,false),(12,false),(13,false)] (by kernel_rfl) (by kernel_rfl) (fun c a d v w h=>by cases d<;>exact h) (S1 _ hgd) ?_;simp only [aP,nth];clear S1
 repeat (first|(refine aB (v:= ?_) (by rfl) ?_ ?_;rotate_left;(rintro W ⟨⟨hW0,hW1,hW2,hW3,mF,sj,mG⟩,pK⟩;go_simp;with_reducible rfl);simp only [ag,List.set])|(refine aC (by rfl) ?_;simp only [ag,List.set]))
 refine bj (by rfl) (by go_simp) (Hop.out _ hgd) ?_;rintro e w1 ⟨t',f',T',K',s',rfl,h1,h2,h3,h4,h5,h6,h7,h8,h9,h10,h11,rJ,GF,Mk,DZ⟩;have bS:=Mk.hold.keep wb _ _ _ (hgd.heap Hw.out) (by unfold zn;decide);have YX:=Rm bS;refine ⟨_,rfl,⟨YX.1,YX.2.2.2.2.2.2.2⟩,?_⟩;have Hr:=ae (ah h1 (ah h2 (ah h3 (ah h4 (ah h5 (ah h6 (ah h7 (ah h8 (ah h9 (ah h10 (ah h11 (ah rJ (ah GF (ah Mk DZ))))))))))))));obtain ⟨_,c7,_,_,_,c11,c12,lb⟩:=YX;have ff:∀ j,w1.frozen? ⟨wb,j,none⟩=false:=fun j=>by simp [World.frozen?,bS]
 have FU:=ae bS;clear h1 h2 h3 h4 h5 h6 h7 h8 h9 h10 h11 rJ GF Mk DZ bS hgd Hop
 try first|simp only [ag,List.set]|simp only [aD]
 repeat (first|(refine aB (v:= ?_) (by rfl) ?_ ?_;rotate_left;(rintro W ⟨⟨hW0,hW1,hW2,hW3,mF,sj,mG⟩,pK⟩;go_simp;with_reducible rfl);simp only [ag,List.set])|(refine aC (by rfl) ?_;simp only [ag,List.set]))
 refine bm ?_;have cE:=Go.Gl.aI (Go.Gl.aI (Go.Gl.aI FU.out 7 (.pointer (some ⟨t'.db,0,none⟩))) 11 (.slice none 0 0)) 12 (.slice none 0 0);have ku:Sep (fun b=>b=wb) w1 (((w1.setCell ⟨wb,7,none⟩ (.pointer (some ⟨t'.db,0,none⟩))).setCell ⟨wb,11,none⟩ (.slice none 0 0)).setCell ⟨wb,12,none⟩ (.slice none 0 0)) (fun b=>b=wb):=⟨rfl,rfl,rfl,by simp,fun b _ hn=>by
  rw [aK _ _ _ _ hn,aK _ _ _ _ hn,aK _ _ _ _ hn],fun b hb=> .inl hb⟩
 have sw:=ae (ah cE ku);clear cE ku;go_wp2;go_ret;obtain ⟨h1,h2,h3,h4,h5,h6,h7,h8,h9,h10,h11,rJ,GF,Mk,DZ⟩:=Hr.out;have hlt:=af Hw.out;have sr:w.drew.heap.size=w.heap.size:=rfl;rw [sr] at h11 rJ GF;refine ⟨rfl,t',f',T',K',s',h1.side sw.out.2 (fun b hb=> ?_),h2,h3,h4,h5,h6,h7,h8,h9,h10,h11,rJ,GF,DZ,sw.out.1,w1,(Rl.grow (r:=r) (Grow.drew w) ?_).trans Mk,sw.out.2⟩
 ·subst hb
  exact ⟨h1.tree.off FU.out (by decide),fun hn=>by have:=GF _ hn;omega,HB.out,fun cur fz hc=>by rw [FU.out] at hc;exact absurd (cA (bB hc)).2.1 (by decide)⟩
 ·have:=HB.out;omega
end Go.Proofs.YtoolkdapflaeeaaGreatDoor
namespace Go.Proofs.YtoolkdapflaeeaaGreatDoor
open Go.RowKit Go.Gl Go.aH Mn
variable {Z Nn:Nat} {w:World}
def aCG (Z Nn:Nat) (w:World) (o:Od) (drv:Value) (ds:List Int) (e:Ending) (w':World):Prop:=
 ∃ (wb B mm am:Nat) (t:Tr) (f:Lk) (T K:Nat) (s:dP),e= .returned (.tuple #[.pointer (some ⟨wb,0,none⟩),.bool true])∧dI Z B Nn 0 0 2 w' t f T K s∧t.o=o∧t.ds=ds∧s.V=cd∧(∀ x,x∈dE s↔x∈dE AV)∧t.seq=0∧t.hh=(fun _=>none)∧t.hn=0∧T≤6∧
  w'.heap[wb]?=some (.cells (DR t.p o drv (.pointer (some ⟨t.db,0,none⟩)) mm am 0 (.slice none 0 0) (.slice none 0 0)) 47 (0,0))∧
  w'.heap[mm]?=some (.map #[] 0)∧w'.heap[am]?=some (.map #[] 0)∧mm≠am∧w.heap.size≤mm∧w.heap.size≤am∧w.heap.size≤B∧w.heap.size≤wb∧B≤wb∧B≤mm∧B≤am∧¬ FT t mm∧¬ FT t am∧¬ FT t wb∧¬ t.N wb∧¬ t.N mm∧¬ t.N am∧Grow w w'
theorem Dl.rlt {B p r:Nat} {f:Lk} {T K:Nat} {F:Nat→Prop} (hd:Dl Z B w p r f T K F):r<w.heap.size:=by
 obtain ⟨V,⟨_,_,born,fs,h,rfl,rfl⟩,_⟩:=hd;exact (h.RY (.inr (.inl rfl))).2
theorem cz.amF {B:Nat} {t:Tr} {f:Lk} {T K:Nat} (h:cz Z B Nn w t f T K) {b:Nat} {ob:Obj} (hb:w.heap[b]?=some ob) (hc:∀ arr ty fz,ob≠ .cells arr ty fz) (h1:b≠t.r) (h2:b≠t.tm) (h3:b≠t.hm):¬ FT t b:=by
 have hC:w.heap[t.db]?=some (.cells (oO t.sb t.o t.drv (.pointer (some ⟨t.lb,0,none⟩)) t.mb t.tm t.seq t.hm) 93 (0,0)):=h.cell;have hS:w.heap[t.sb]?=some (.cells (setCells t.p t.tv t.V ((0:Nat):Int)) 154 (0,0)):=h.set;have no:∀ {c:Nat} {arr:Array Value} {ty:TypeId} {fz:Nat×Nat},b=c→w.heap[c]?=some (.cells arr ty fz)→False:=fun e hh=>by
  rw [←e,hb] at hh;exact hc _ _ _ (bB hh)
 rintro (q|q|q|q|q|q|q)
 ·exact h.aW.Tv hb hc h1 q
 ·obtain ⟨aM,hm⟩:=h.mem
  obtain ⟨arr,ty,e1,_⟩:=hm.kind q;exact no rfl e1
 ·exact no q hC
 ·exact no q hS
 ·exact no q h.log.self
 ·exact h2 q
 ·exact h3 q
theorem aCI (hZ1:6≤Z) (YY:Z≤1073741824) (hN:cI Nn w.heap.size w) (Ml:10≤Nn) {o:Od} {drv:Value} {ds:List Int} {N0:Nat→Prop} (hdr:Iw N0 w drv ds) (wJ:∀ b,N0 b→b<w.heap.size) (rh:pY o):
  Calls Tryz.prog 13 #[.int .i64 (Z:Int),sN o drv] w (aCG Z Nn w o drv ds):=by
 have ai:=Grow.alloc w (.cells #[.int .i64 o.mem,.int .i64 o.block,.int .i64 o.zero,.int .i64 o.base,.int .i64 o.table,drv] 26);have gi:=aw w (.cells #[.int .i64 o.mem,.int .i64 o.block,.int .i64 o.zero,.int .i64 o.base,.int .i64 o.table,drv] 26);have pz:=ae hdr;have HN:=ae hN;have Hb:=ae (ah hZ1 (ah YY (ah Ml (ah wJ rh))));have jB:= @run_makeMap Tryz.prog;clear hdr hN hZ1 Ml wJ rh;go_enter Tryz.func13,Tryz.ntmps13
 go_upto_region 1 with fail
 generalize w.alloc (.cells #[.int .i64 o.mem,.int .i64 o.block,.int .i64 o.zero,.int .i64 o.base,.int .i64 o.table,drv] 26)=w1 at*;obtain ⟨xb,ym⟩:∃ xb,xb=w.heap.size:=⟨_,rfl⟩
 rw [←ym] at gi ⊢;have jY:=ae (aju Z w1 (by have:=Hb.out.1;omega) YY);have tZ:=ae gi;have bT:=ae ai;clear ym gi ai YY
 go_wp2_with fail
 (with_reducible refine jY.out.mono ?_);rintro e w2 ⟨rfl,⟨F,hd⟩,hg2⟩;have hx2:=hg2.heap tZ.out;obtain ⟨p,hp⟩:∃ p,p=w1.heap.size+1:=⟨_,rfl⟩
 obtain ⟨r,hr⟩:∃ r,r=w1.heap.size:=⟨_,rfl⟩
 rw [←hp,←hr] at hd;rw [←hp];have EN:=aw w2 (.map #[] 0);have hg3:=Grow.alloc w2 (.map #[] 0);have hx0:w2.cell? ⟨xb,0,none⟩=some (.int .i64 o.mem)∧w2.cell? ⟨xb,1,none⟩=some (.int .i64 o.block)∧w2.cell? ⟨xb,2,none⟩=some (.int .i64 o.zero)∧w2.cell? ⟨xb,3,none⟩=some (.int .i64 o.base)∧w2.cell? ⟨xb,4,none⟩=some (.int .i64 o.table)∧w2.cell? ⟨xb,5,none⟩=some drv:=by
  refine ⟨?_,?_,?_,?_,?_,?_⟩<;>simp [World.cell?,hx2]
 obtain ⟨x0,x1,x2,x3,x4,x5⟩:=hx0;have lx:=af hx2;have Hd:=ae hd;have eD:=ae hg2;have Hp:=ae (ah hp hr);have hg4:=Grow.alloc (w2.alloc (.map #[] 0)) (.map #[] 0);have xm:=aw (w2.alloc (.map #[] 0)) (.map #[] 0);have aO:=Grow.alloc ((w2.alloc (.map #[] 0)).alloc (.map #[] 0)) (.cells (DR p o drv (.pointer none) w2.heap.size (w2.heap.size+1) 0 (.slice none 0 0) (.slice none 0 0)) 47);have iI:=aw ((w2.alloc (.map #[] 0)).alloc (.map #[] 0)) (.cells (DR p o drv (.pointer none) w2.heap.size (w2.heap.size+1) 0 (.slice none 0 0) (.slice none 0 0)) 47);have amH:=(hg4.trans aO).heap EN;have YZ:=aO.heap xm;have hs1:(w2.alloc (.map #[] 0)).heap.size=w2.heap.size+1:=by simp
 have hs2:((w2.alloc (.map #[] 0)).alloc (.map #[] 0)).heap.size=w2.heap.size+1+1:=by simp
 rw [hs1] at YZ;rw [hs2] at iI;have qO:=(hg3.trans hg4).trans aO;have hb:=Hb.out;have BQ:=hg2.size;have Ew:=bT.out.size;have amI:=Hd.out.rlt;have hpr:r<w2.heap.size:=amI;have Be:w1.heap.size≤w2.heap.size:=BQ;have Rn:w.heap.size≤r:=by omega
 have hop:=fun (W:World) (hg:Grow (((w2.alloc (.map #[] 0)).alloc (.map #[] 0)).alloc (.cells (DR p o drv (.pointer none) w2.heap.size (w2.heap.size+1) 0 (.slice none 0 0) (.slice none 0 0)) 47)) W)=>Yk (Z:=Z) (B:=r) (Nn:=Nn) (A:=0) (C:=0) (i:=1) (s:=AV) (Tb:=0+6) (N0:=N0) (ds:=ds) (drv:=drv) (o:=o) ((Hd.out.grow qO).grow hg)
  (HN.out.up Rn (fun b hb'=>((((bT.out.trans eD.out).trans qO).trans hg)).block b hb')) (fun W' hr'=>pz.out.kp ⟨by have:=(((bT.out.trans eD.out).trans qO).trans hg).size;have:=hr'.hold.size;omega,fun b hb' hl=>by
   have h1:=hb.2.2.2.1 b hb';rw [hr'.below.block b (by omega)];exact (((bT.out.trans eD.out).trans qO).trans hg).block b h1⟩) hb.2.2.2.2 (fun W' eA=>akH _ (((Hd.out.grow qO).grow hg).grow eA) (HN.out.up Rn (fun b hb'=>(((((bT.out.trans eD.out).trans qO).trans hg)).trans eA).block b hb')) (by omega) (by omega) (by omega)) (by omega) (by omega) (by omega) (by omega) (by decide)
 have hwo:=aCF iI (show r≤_ by omega) hop;have amM:Calls Tryz.prog 39 #[.pointer (some ⟨w2.heap.size+1+1,0,none⟩)] (((w2.alloc (.map #[] 0)).alloc (.map #[] 0)).alloc (.cells #[.pointer (some ⟨p,0,none⟩),.int .i64 o.mem,.int .i64 o.block,.int .i64 o.zero,.int .i64 o.base,.int .i64 o.table,drv,.pointer none,.map (some w2.heap.size),.map (some (w2.heap.size+1)),.int .u64 0,.slice none 0 0,.slice none 0 0] 47)) _:=hwo;have Hwo:=ae amM;have aCJ:=ae (ah amH (ah YZ (ah iI (ah qO (ah BQ (ah Rn hpr))))));clear hd hx2 hp hr hg2 jY EN hg3 hg4 xm aO iI amH YZ hs1 hs2 qO hb BQ Ew Rn amI hpr Be hop hwo amM
 go_wp2_with fail
 (with_reducible refine Hwo.out.mono ?_);rintro e w6 ⟨rfl,t',f',T',K',s',q1,q2,q3,q4,q5,q6,q7,q8,q9,mU,tr,wF,vh,Ce,Cm,W,qK,zJ⟩;have Hq:=ae (ah q1 (ah q2 (ah q3 (ah q4 (ah q5 (ah q6 (ah q7 (ah q8 (ah q9 (ah mU (ah tr (ah wF (ah vh (ah Ce (ah Cm (ah qK zJ))))))))))))))));clear q1 q2 q3 q4 q5 q6 q7 q8 q9 mU tr wF vh Ce Cm qK zJ Hwo;go_wp2;go_ret2;obtain ⟨q1,q2,q3,q4,q5,q6,q7,q8,q9,mU,tr,wF,vh,Ce,Cm,qK,zJ⟩:=Hq.out;obtain ⟨m1,m2,m3,m4,m5,m6,m7⟩:=aCJ.out;have hrr:t'.r=r:=q3;have lb:=af m3;have n1:=(zJ.out _ (af (qK.hold.maps _ _ m1 (fun _ _ _ h=>by cases h) (by omega))) (by omega)).trans (qK.hold.maps _ _ m1 (fun _ _ _ h=>by cases h) (by omega));have n2:=(zJ.out _ (af (qK.hold.maps _ _ m2 (fun _ _ _ h=>by cases h) (by omega))) (by omega)).trans (qK.hold.maps _ _ m2 (fun _ _ _ h=>by cases h) (by omega));have hgr:Grow w w6:=by
  have g1:=((bT.out.trans eD.out).trans m4)
  have g2:Below w.heap.size _ W:=qK.below.mono m6;have g3:Below w.heap.size W w6:=zJ.below (fun b hb=>by omega) (by have:=qK.hold.size;omega);exact (Below.trans g1 g2).trans g3
 refine ⟨w2.heap.size+1+1,r,w2.heap.size,w2.heap.size+1,t',f',T',K',s',rfl,q1,q4,q5,q6,q7,q8.trans rfl,q9,mU,by omega,by rw [q2];exact Cm,n1,n2,by omega,by omega,by omega,by omega,by omega,by omega,by omega,by omega,q1.tree.amF n1 (fun _ _ _ h=>by cases h) (by omega) (by omega) (by omega),q1.tree.amF n2 (fun _ _ _ h=>by cases h) (by omega) (by omega) (by omega),q1.tree.off Cm (by decide),fun h=>by have:=vh _ h;omega,fun h=>by have:=vh _ h;omega,fun h=>by have:=vh _ h;omega,hgr⟩
end Go.Proofs.YtoolkdapflaeeaaGreatDoor
