/- Helpers. -/
import Derived.Lib.UnsafeStr
import Derived.Test.YtoolkdapflaeeaaGreatDoorW0E
import Derived.Deep.CutRange
import Derived.Deep.DeepCutAuto
import Derived.Test.YtoolkdapflaeeaaGreatDoorW09
import Derived.Test.YtoolkdapflaeeaaGreatDoorW0C
import Derived.Test.YtoolkdapflaeeaaGreatDoorW0A
import Derived.Test.YtoolkdapflaeeaaGreatDoorW0D
set_option maxRecDepth 100000
set_option maxHeartbeats 16000000
set_option linter.unusedSimpArgs false
open Go
variable{A B B' C K Nn T Z am b c cap g i mm p r seq tb wb:Nat}{F G G' M N:Nat→Prop}{W W' w w' w0:World}{bv hv ov tv u v:Value}{ds:List Int}{f:Nat × Nat}
namespace Go.Proofs.YtoolkdapflaeeaaGreatDoor
open Go.RowKit Go.Gl Go.aF Mn
abbrev PM:Od:=⟨100,40,2,200,80⟩
theorem aqr:sw PM:=by decide
theorem aqs(w:World):Calls Tryz.prog 36 #[] w λe w'=>∃dv,e=.returned (vr PM dv)/\Go.Gl.Row1 3 w.heap.size w' dv ([3,1].map (λx=>Value.int .i64 x))/\Grow w w':=by
 have i:=ar w (.cells #[.int .i64 0,.int .i64 0,.int .i64 0,.int .i64 0,.int .i64 0,.slice none 0 0] 26);have h:=ax w (.cells #[.int .i64 0,.int .i64 0,.int .i64 0,.int .i64 0,.int .i64 0,.slice none 0 0] 26);have a:=aiW;go_enter Tryz.func36,Tryz.ntmps36
 go_upto_region 1 with fail
 generalize w.alloc (.cells #[.int .i64 0,.int .i64 0,.int .i64 0,.int .i64 0,.int .i64 0,.slice none 0 0] 26)=b at*;obtain⟨a,c⟩:∃a,a=w.heap.size:=⟨_,rfl⟩
 rw[<-c]at h ⊢;have m:=ae c;clear c;have j:=ar b (.cells #[.int .i64 3,.int .i64 1] 3);have k:=ax b (.cells #[.int .i64 3,.int .i64 1] 3);have f:=j.heap h;have c:=bG f;have c:∀d v,(#[Value.int .i64 0,.int .i64 0,.int .i64 0,.int .i64 0,.int .i64 0,.slice none 0 0]:Array Value)[d]?=some v->(b.alloc (.cells #[.int .i64 3,.int .i64 1] 3)).cell? ⟨a,d,none⟩=some v:=λd v g=>by simp[World.cell?,f,g]
 have e:=c 0 _ rfl;have e:=c 1 _ rfl;have e:=c 2 _ rfl;have e:=c 3 _ rfl;have e:=c 4 _ rfl;have e:=c 5 _ rfl;have e:=af f;have l:=Go.Gl.aK (Go.Gl.aK (Go.Gl.aK (Go.Gl.aK (Go.Gl.aK (Go.Gl.aK f 0 (.int .i64 100)) 1 (.int .i64 40)) 2 (.int .i64 2)) 3 (.int .i64 200)) 4 (.int .i64 80)) 5 (.slice (some ⟨b.heap.size,0,none⟩) 2 2);have e:w.heap.size<=a:=Nat.le_of_eq m.out.symm;have m:Grow w (((((((b.alloc (.cells #[.int .i64 3,.int .i64 1] 3)).setCell ⟨a,0,none⟩ (.int .i64 100)).setCell ⟨a,1,none⟩ (.int .i64 40)).setCell ⟨a,2,none⟩ (.int .i64 2)).setCell ⟨a,3,none⟩ (.int .i64 200)).setCell ⟨a,4,none⟩ (.int .i64 80)).setCell ⟨a,5,none⟩ (.slice (some ⟨b.heap.size,0,none⟩) 2 2)):=((((((i.trans j).setCell (p:=⟨a,0,none⟩) e _).setCell (p:=⟨a,1,none⟩) e _).setCell (p:=⟨a,2,none⟩) e _).setCell (p:=⟨a,3,none⟩) e _).setCell (p:=⟨a,4,none⟩) e _).setCell (p:=⟨a,5,none⟩) e _;have e:b.heap.size≠a:=by have:=af h;omega
 have n:∀W:World,W.heap[b.heap.size]?=some (.cells #[.int .i64 3,.int .i64 1] 3 (0,0))->Go.Gl.Row1 3 w.heap.size W (.slice (some ⟨b.heap.size,0,none⟩) 2 2) ([3,1].map (λx=>Value.int .i64 x)):=λW g=>.inr ⟨b.heap.size,2,_,rfl,i.size,g,by simp,aw _,by simp[maxLen],rfl⟩
 have o:=n (((((((b.alloc (.cells #[.int .i64 3,.int .i64 1] 3)).setCell ⟨a,0,none⟩ (.int .i64 100)).setCell ⟨a,1,none⟩ (.int .i64 40)).setCell ⟨a,2,none⟩ (.int .i64 2)).setCell ⟨a,3,none⟩ (.int .i64 200)).setCell ⟨a,4,none⟩ (.int .i64 80)).setCell ⟨a,5,none⟩ (.slice (some ⟨b.heap.size,0,none⟩) 2 2)) (by rw[aN _ _ _ _ e,aN _ _ _ _ e,aN _ _ _ _ e,aN _ _ _ _ e,aN _ _ _ _ e,aN _ _ _ _ e];exact k)
 have e:=ae (ag l (ag m o));clear c l m n o f k j i h;go_wp2;have f:=e.out.1;have c:∀d v,(#[Value.int .i64 100,.int .i64 40,.int .i64 2,.int .i64 200,.int .i64 80,.slice (some ⟨b.heap.size,0,none⟩) 2 2]:Array Value)[d]?=some v->(((((((b.alloc (.cells #[.int .i64 3,.int .i64 1] 3)).setCell ⟨a,0,none⟩ (.int .i64 100)).setCell ⟨a,1,none⟩ (.int .i64 40)).setCell ⟨a,2,none⟩ (.int .i64 2)).setCell ⟨a,3,none⟩ (.int .i64 200)).setCell ⟨a,4,none⟩ (.int .i64 80)).setCell ⟨a,5,none⟩ (.slice (some ⟨b.heap.size,0,none⟩) 2 2)).cell? ⟨a,d,none⟩=some v:=λd v g=>by simp only[World.cell?,f];exact g
 have a:=c 0 _ rfl;have d:=c 1 _ rfl;have f:=c 2 _ rfl;have g:=c 3 _ rfl;have h:=c 4 _ rfl;have i:=c 5 _ rfl;refine bodyPost_ret (v:=vr PM (.slice (some ⟨b.heap.size,0,none⟩) 2 2)) (by simp[results,Tryz.results36,go_sem,a,d,f,g,h,i]) rfl ?_;exact⟨_,rfl,e.out.2.2,e.out.2.1⟩
theorem cR.below{t c:Tr}{f:Lk}(a:cR Z B Nn w t f T K)(d:fJ w t w' c):Below B w w':=
 d.sep.below (λb c=>a.base b c) a.aS.base
abbrev Vm(x:UInt8)(W:World):World:=(W.alloc (.cells #[.int .u8 x.toNat] 5)).freeze ⟨W.heap.size,1,none⟩ 1
theorem aHO(x:UInt8)(W:World):(convert 49 49 (.slice (some ⟨W.heap.size,0,none⟩) 1 1)).run Tryz.prog (W.alloc (.cells #[.int .u8 x.toNat] 5))=.ok (.slice (some ⟨W.heap.size,0,none⟩) 1 1) (Vm x W):=by
 have a:(W.alloc (.cells #[.int .u8 x.toNat] 5)).shape? W.heap.size=some (5,1):=by have b:=ax W (.cells #[.int .u8 x.toNat] 5);unfold World.shape?;rw[b];rfl
 simp[convert,go_sem,markStringish,a]
theorem aHP(x:UInt8)(W:World):Grow W (Vm x W):=Lib.below_freeze (ar _ _) (p:=⟨W.heap.size,1,none⟩) (aw _) 1
theorem aHQ(x:UInt8)(W:World):(Vm x W).heap[W.heap.size]?=some (.cells #[.int .u8 x.toNat] 5 (1,2)):=by simp[Vm,World.freeze,World.alloc,-World.alloc_eq,Array.getElem_modify]
theorem aqt{x:UInt8}(c:W.heap[b]?=some (.cells #[.int .u8 x.toNat] 5 f)):Bv W (.slice (some ⟨b,0,none⟩) 1 1) [x]:=by
 refine⟨_,1,rfl,aw _,by unfold maxLen;omega,(λc=>by cases c),.inr ⟨b,0,rfl,af c,λb a a=>?_⟩⟩
 match b,a with
 |0,a=>cases a;simp[World.cell?,c]
 |b+1,a=>cases a
theorem aqu(x:UInt8)(W:World):∃a,(convert 49 49 (.slice (some ⟨W.heap.size,0,none⟩) 1 1)).run Tryz.prog (W.alloc (.cells #[.int .u8 x.toNat] 5))=.ok (.slice (some ⟨W.heap.size,0,none⟩) 1 1) a/\Grow W a/\a.heap[W.heap.size]?=some (.cells #[.int .u8 x.toNat] 5 (1,2)):=
 ⟨_,aHO x W,aHP x W,aHQ x W⟩
theorem aqv{B r:Nat}{w W:World}{ds:List Int}(a:Go.Gl.Row1 3 A w v (ds.map (λx=>.int .i64 x)))(d:Rl B r w W)(e:ds.length<=1000000000):Iw (λ_=>True) W v ds:=
 Nc (a.keep (λb f=>by obtain⟨c,c⟩:=a.block f;rw[c];exact d.hold.keep b _ _ _ c (by unfold BP;decide))) e (λ_ _=>trivial)
theorem aHR(w:World)(a b:ByteArray)(g e:Bool)(x y:Option Addr)(m n c d:Nat):(Instr.buildSlice 27 2 #[(0,.agg #[.string a,.bool g,.slice x m c]),(1,.agg #[.string b,.bool e,.slice y n d])]).run Tryz.prog w=.ok (.slice (some ⟨w.heap.size,0,none⟩) 2 2) (w.alloc (.cells #[.string a,.bool g,.slice x m c,.string b,.bool e,.slice y n d] 51)):=by kernel_rfl
abbrev zi:List Wr:=[⟨⟨#[97]⟩,false,[120]⟩,⟨⟨#[98]⟩,false,[121]⟩]
abbrev wsB:List Wr:=[⟨⟨#[97]⟩,true,[]⟩]
theorem Vn(s:Nat)(ws:List Wr):(bC aq (jw s ws)).length<=40+30*ws.length+bj ws:=by have a:=ZY s ws;have a:=nG aq (jw s ws);have a:=cF (jw s ws).length;omega
theorem UF.done{t:Tr}{s:di}{ws:List Wr}{e:Ending}(b:UF Z B Nn A C i w t T s ws e w')(f:ws≠[])(g:¬lu ws)(a:T+(40+30*ws.length+bj ws)<=Z):
  ∃(a:Tr)(f':Lk)(T' d:Nat)(s':di),e=.returned (.tuple #[.int .u64 ((t.seq+1:Nat):Int),.int .i64 0])/\fJ w t w' a/\cY Z B Nn (A+ws.length) (C+16*ws.length+bj ws) (i+2) w' a f' T' d s'/\a.hh=t.hh/\a.hn=t.hn/\s'.V.tabs.length<=s.V.tabs.length+1/\a.seq=t.seq+1/\
   (∀x,x∈cJ s'↔(∃y,gJ x.key ws=some y/\x=gI (t.seq+1) y)\/x∈cJ s)/\((costs (fO (t.seq+1) ws (aH s.LL)):Int)<=t.o.mem->s'.V=s.V/\aH s'.LL=fO (t.seq+1) ws (aH s.LL)/\T'=T+(bC aq (jw (t.seq+1) ws)).length)/\
   T'<=T+(bC aq (jw (t.seq+1) ws)).length+(gW t.o.block.toNat (fO (t.seq+1) ws (aH s.LL))).length+(2*costs (fO (t.seq+1) ws (aH s.LL))+200)/\(aH s'.LL=[]\/T'=T+(bC aq (jw (t.seq+1) ws)).length/\aH s'.LL=fO (t.seq+1) ws (aH s.LL)):=by
 obtain⟨c,c,a,f',T',d,s',rfl,c,e,h,i,j,k⟩:=b;have b:=Vn (t.seq+1) ws;rcases k with⟨b|b|b,_⟩|⟨_,_,rfl,rfl,b,k,l,m,n⟩
 .exact absurd b.1 f
 .exact absurd b.2.1 g
 .omega
 .exact⟨a,f',T',d,s',rfl,c,e,h,i,j,b,k,m,l,n⟩
theorem aHS{s:di}(b:∀x,x∈cJ s↔x∈cJ Ba):aH s.LL=[]:=by
 refine List.eq_nil_iff_forall_not_mem.2 λx c=>?_
 have a:=(b x).1 (jg _ c);rw[show cJ Ba=[]from rfl]at a;cases a
theorem aHT(w:World):Calls Tryz.prog 10 #[] w λe w'=>e=.returned (.bool true)/\Grow w w':=by
 have fQ:Calls Tryz.prog 20 #[.int .i64 1048576] w _:=anK 1048576 w (by decide) (by decide);have kX:=ae fQ;clear fQ;go_enter Tryz.func10,Tryz.ntmps10
 go_wp2_with fail
 (with_reducible refine kX.out.mono ?_);rintro e w1 ⟨rfl,⟨F,hd⟩,hg1⟩;obtain⟨B,hB⟩:∃B,B=w.heap.size:=⟨_,rfl⟩
 rw[<-hB]at hd ⊢;have jk:df 100 B w1:=afC B w1;have PN:=ae (aqs w1);have HB:=ae hB;have PO:=ae hd;have Hn1:=ae jk;have eV:=ae hg1;clear hd hg1 hB jk kX
 go_wp2_with fail
 (with_reducible refine PN.out.mono ?_);rintro e w2 ⟨dv,rfl,hrow,hg2⟩;have hop:=ach (Z:=1048576) (B:=B) (Nn:=100) (A:=0) (C:=0) (i:=1) (s:=Ba) (Tb:=0+6) (PO.out.grow hg2) (Hn1.out.grow hg2 PO.out.base) (λW hr=>aqv hrow hr (by decide)) aqr (λW hg=>aoX _ ((PO.out.grow hg2).grow hg) ((Hn1.out.grow hg2 PO.out.base).grow hg (PO.out.grow hg2).base) (by decide) (by decide) (by decide)) (by decide) (by decide) (by decide) (by decide) (by decide);have Hop:=ae hop;have eG:=ae (eV.out.trans hg2);clear hop hrow hg2 PN
 go_wp2_with fail
 (with_reducible refine Hop.out.mono ?_);rintro e w3 ⟨t1,f1,T1,K1,s1,rfl,h1,tD,hr1,pO,jm,hV1,ha1,hs1,KE,KF,Kz,KA,EM,Bg,sG⟩;have H1:=ae (ag h1 (ag tD (ag pO (ag hV1 (ag ha1 (ag hs1 (ag Bg sG)))))));have hw2:=aHR;obtain⟨wa,hv1,ai,yh⟩:∃wa,(convert 49 49 (.slice (some ⟨w3.heap.size,0,none⟩) 1 1)).run Tryz.prog (w3.alloc (.cells #[.int .u8 120] 5))=.ok (.slice (some ⟨w3.heap.size,0,none⟩) 1 1) wa/\Grow w3 wa/\wa.heap[w3.heap.size]?=some (.cells #[.int .u8 (120:UInt8).toNat] 5 (1,2)):=aqu 120 w3
 obtain⟨wb,hv2,hgb,eD⟩:∃wb,(convert 49 49 (.slice (some ⟨wa.heap.size,0,none⟩) 1 1)).run Tryz.prog (wa.alloc (.cells #[.int .u8 121] 5))=.ok (.slice (some ⟨wa.heap.size,0,none⟩) 1 1) wb/\Grow wa wb/\wb.heap[wa.heap.size]?=some (.cells #[.int .u8 (121:UInt8).toNat] 5 (1,2)):=aqu 121 wa
 have jc:=ar wb (.cells #[.string ⟨#[97]⟩,.bool false,.slice (some ⟨w3.heap.size,0,none⟩) 1 1,.string ⟨#[98]⟩,.bool false,.slice (some ⟨wa.heap.size,0,none⟩) 1 1] 51);have sS:=ax wb (.cells #[.string ⟨#[97]⟩,.bool false,.slice (some ⟨w3.heap.size,0,none⟩) 1 1,.string ⟨#[98]⟩,.bool false,.slice (some ⟨wa.heap.size,0,none⟩) 1 1] 51);have acJ:=(hgb.trans jc).heap yh;have acK:=jc.heap eD;have acL:=(ai.trans hgb).trans jc;have key:∀(j:Nat)(v:Value),(#[Value.string ⟨#[97]⟩,.bool false,.slice (some ⟨w3.heap.size,0,none⟩) 1 1,.string ⟨#[98]⟩,.bool false,.slice (some ⟨wa.heap.size,0,none⟩) 1 1]:Array Value)[j]?=some v->(wb.alloc (.cells #[.string ⟨#[97]⟩,.bool false,.slice (some ⟨w3.heap.size,0,none⟩) 1 1,.string ⟨#[98]⟩,.bool false,.slice (some ⟨wa.heap.size,0,none⟩) 1 1] 51)).cell? ⟨wb.heap.size,j,none⟩=some v:=λj v h=>by simp only[World.cell?,sS];exact h
 have Gv:Hid (Ws (λb=>w3.heap.size<=b/\b<(wb.alloc (.cells #[.string ⟨#[97]⟩,.bool false,.slice (some ⟨w3.heap.size,0,none⟩) 1 1,.string ⟨#[98]⟩,.bool false,.slice (some ⟨wa.heap.size,0,none⟩) 1 1] 51)).heap.size) (wb.alloc (.cells #[.string ⟨#[97]⟩,.bool false,.slice (some ⟨w3.heap.size,0,none⟩) 1 1,.string ⟨#[98]⟩,.bool false,.slice (some ⟨wa.heap.size,0,none⟩) 1 1] 51)) (.slice (some ⟨wb.heap.size,0,none⟩) 2 2) [⟨⟨⟨#[97]⟩,false,[120]⟩,.slice (some ⟨w3.heap.size,0,none⟩) 1 1⟩,⟨⟨⟨#[98]⟩,false,[121]⟩,.slice (some ⟨wa.heap.size,0,none⟩) 1 1⟩]):=ae (by
  refine⟨⟨_,2,rfl,aw _,by unfold maxLen;omega,(λh=>by cases h),.inr ⟨wb.heap.size,0,rfl,⟨aJ ai.size hgb.size,by simp⟩,by simp,λi x hx c u hu=>?_⟩⟩,λx hx=>?_⟩
  .match i,hx with
   |0,hx=>
    cases hx
    match c,hu with
    |0,hu=>cases hu;exact key 0 _ rfl
    |1,hu=>cases hu;exact key 1 _ rfl
    |2,hu=>cases hu;exact key 2 _ rfl
    |c+3,hu=>simp[mF]at hu
   |1,hx=>
    cases hx
    match c,hu with
    |0,hu=>cases hu;exact key 3 _ rfl
    |1,hu=>cases hu;exact key 4 _ rfl
    |2,hu=>cases hu;exact key 5 _ rfl
    |c+3,hu=>simp[mF]at hu
   |i+2,hx=>simp at hx
  .rcases bI.1 hx with rfl|hx
   .exact⟨aqt (x:=120) acJ,.inr (λb hb=>by cases hb;exact⟨aw _,af acJ⟩)⟩
   .rw[cZ.1 hx];exact⟨aqt (x:=121) acK,.inr (λb hb=>by cases hb;exact⟨ai.size,af acK⟩)⟩)
 have hap:=UH (h1.grow acL) (λb hb=>⟨hb.2,λhf=>by have:=h1.tree.lt hf;have:=hb.1;omega⟩) Gv.out (ws:=zi) rfl (by simp) (by decide) (by decide) (by decide) (by decide) (by decide) (by rw[hV1];decide);have fC:=ae hap;have aqx:=ae acL;clear h1 tD hr1 pO jm hV1 ha1 hs1 KE KF Kz KA EM Bg sG Hop hap acL acJ acK sS jc eD hgb yh ai Gv key
 go_wp2_with fail
 (with_reducible refine fC.out.mono ?_);rintro e w4 hp;obtain⟨h1,tD,pO,hV1,ha1,hs1,Bg,sG⟩:=H1.out;obtain⟨t2,f2,T2,K2,s2,rfl,kx,h2,_,_,pF,jK,PQ,hV2,_,_⟩:=hp.done (by decide) (by decide) (by have:bj zi=4:=rfl;simp only[dD,iJ];omega);have gz:=aHS ha1;have qE:t1.seq+1=1:=by rw[show t1.seq=0 from hs1]
 rw[qE,gz]at hV2;rw[qE]at jK PQ;have CH:=Oe 1 [] zi;have e4:bj zi=4:=rfl;have e2:zi.length=2:=rfl;have e0:costs ([]:List En)=0:=rfl;have e00:([]:List En).length=0:=rfl;rw[e4,e2,e0,e00]at CH;obtain⟨Vo,fR,DJ⟩:=hV2 (by rw[pO];show _<=(100:Int);omega);rw[hV1]at Vo;have dV:=Vn 1 zi;have aqz:=aoa h2 (by decide) (by decide) (by decide) (by decide) (by rw[Vo];decide);have H2:=ae (ag h2 (ag kx (ag jK (ag PQ (ag Vo (ag fR (ag DJ (ag CH dV))))))));have rC:=ae aqz;have aqA:t1.seq+1=1:=qE;rw[aqA];have acM:t2.db=t1.db:=kx.db;rw[acM]at rC;have aOX:=ae acM;clear h1 tD pO hV1 ha1 hs1 Bg sG h2 kx jK PQ hV2 Vo fR DJ CH dV aqz gz qE e4 e2 e0 e00 pF hp fC aqA acM
 go_wp2_with fail
 (with_reducible refine rC.out.mono ?_);rintro e w5 ⟨c3,t3,f3,T3,K3,s3,rfl,aqB,h3,PR,PS,_,_,acN,hc3,tM,_⟩;obtain⟨h2,kx,jK,PQ,hV2,fR,DJ,CH,dV⟩:=H2.out;obtain⟨h1,tD,pO,hV1,ha1,hs1,Bg,sG⟩:=H1.out;have hwA:bj zi=4:=rfl;have kO:zi.length=2:=rfl;have gy:t2.o=PM:=kx.o.trans pO;have Di:aH s2.LL≠[]:=by rw[fR];intro e;have:=(YX (l:=[]) cx.nil (e:=gI 1 ⟨⟨#[97]⟩,false,[120]⟩) (s:=1) zi).2 (.inl ⟨⟨⟨#[97]⟩,false,[120]⟩,by simp[gJ,gI],rfl⟩);rw[e]at this;cases this
 have aHU:(gW t2.o.block.toNat (aH s2.LL)).length<=2000:=by have h9:=OX (aH s2.LL);rw[fR]at h9;have h8:=aqq (size:=t2.o.block.toNat) Di (by rw[fR];omega) (by rw[fR];omega);rw[fR]at h8 ⊢;omega
 have aHV:costs (aH s2.LL)<=36:=by rw[fR];omega
 rw[hwA,kO]at dV;have hc0:c3=0:=by
  rcases hc3 with h9|⟨_,h9|⟨k0,k1,e1,e2,e3⟩⟩
  .exact h9
  .omega
  .exact absurd (aHM hV2 (aHN h2.yY.ord e1 e2) (by omega) (by have:=h2.m;have h8:=h2.lim.wal;omega)) e3
 subst hc0;have aqD:t3.seq+1=2:=by rw[PS,jK]
 have aqE:T3<=310000:=by omega
 have GI:fJ (wb.alloc (.cells #[.string ⟨#[97]⟩,.bool false,.slice (some ⟨w3.heap.size,0,none⟩) 1 1,.string ⟨#[98]⟩,.bool false,.slice (some ⟨wa.heap.size,0,none⟩) 1 1] 51)) t1 w5 t3:=kx.trans aqB;have yH:=ar w5 (.cells #[.string ⟨#[97]⟩,.bool true,.slice none 0 0] 51);have aqF:=ax w5 (.cells #[.string ⟨#[97]⟩,.bool true,.slice none 0 0] 51);have Vp:∀(j:Nat)(v:Value),(#[Value.string ⟨#[97]⟩,.bool true,.slice none 0 0]:Array Value)[j]?=some v->(w5.alloc (.cells #[.string ⟨#[97]⟩,.bool true,.slice none 0 0] 51)).cell? ⟨w5.heap.size,j,none⟩=some v:=λj v h=>by simp only[World.cell?,aqF];exact h
 have Pp:Ws (λb=>w5.heap.size<=b/\b<(w5.alloc (.cells #[.string ⟨#[97]⟩,.bool true,.slice none 0 0] 51)).heap.size) (w5.alloc (.cells #[.string ⟨#[97]⟩,.bool true,.slice none 0 0] 51)) (.slice (some ⟨w5.heap.size,0,none⟩) 1 1) [⟨⟨⟨#[97]⟩,true,[]⟩,.slice none 0 0⟩]:=by
  refine⟨⟨_,1,rfl,aw _,by unfold maxLen;omega,(λh=>by cases h),.inr ⟨w5.heap.size,0,rfl,⟨aw _,by simp⟩,by simp,λi x hx c u hu=>?_⟩⟩,λx hx=>?_⟩
  .match i,hx with
   |0,hx=>
    cases hx
    match c,hu with
    |0,hu=>cases hu;exact Vp 0 _ rfl
    |1,hu=>cases hu;exact Vp 1 _ rfl
    |2,hu=>cases hu;exact Vp 2 _ rfl
    |c+3,hu=>simp[mF]at hu
   |i+1,hx=>simp at hx
  .rw[cZ.1 hx];exact YB _ _
 have hap:=UH (h3.grow yH) (λb hb=>⟨hb.2,λhf=>by have:=h3.tree.lt hf;have:=hb.1;omega⟩) Pp (ws:=wsB) rfl (by simp) (by decide) (by decide) (by decide) (by decide) (by decide) (by rw[hV2]at acN;have h9:dw.tabs.length=0:=rfl;omega)
 have PT:t3.db=t1.db:=GI.db;rw[PT]at hap;have fC:=ae hap;have H3:=ae (ag h3 (ag GI (ag PR (ag aqD (ag aqE (ag PT yH))))));clear h2 kx jK PQ hV2 fR DJ CH dV h1 tD pO hV1 ha1 hs1 Bg sG hwA kO gy Di aHU aHV aqD aqE GI aqF Vp Pp hap PT yH aqB h3 PR PS hc3 tM rC
 go_wp2_with fail
 (with_reducible refine fC.out.mono ?_);rintro e w6 hp;obtain⟨h3,GI,PR,PS,tM,PT,yH⟩:=H3.out;obtain⟨t4,f4,T4,K4,s4,rfl,acO,h4,_,_,aHW,Dt,acP,_⟩:=hp.done (by decide) (by decide) (by have:bj wsB=1:=rfl;simp only[dD,iJ];omega);rw[PS]at Dt acP ⊢;obtain⟨h1,tD,pO,hV1,ha1,hs1,Bg,sG⟩:=H1.out;have acQ:=(GI.trans (fJ.bO t3 yH)).trans acO;have hp4:t4.p=B+1:=acQ.p.trans tD;have kM:t4.o=PM:=acQ.o.trans pO;have kD:Dl 1048576 B w6 (B+1) t4.r f4 T4 K4 t4.F:=by have:=h4.tree.aS;rw[hp4]at this;exact this
 have Xn:=aGm kD (by have:=h4.K;omega) h4.sync (pv:=.slice none 0 0) (picks:=[]) ⟨none,0,rfl,aY _,.inl rfl⟩ (λh=>absurd rfl h);have hall:∀x,x∈cJ s4↔(∃y,gJ x.key wsB=some y/\x=gI 2 y)\/∃y,gJ x.key zi=some y/\x=gI 1 y:=λx=>by
  rw[acP x];refine or_congr_right ?_;rw[PR x,H2.out.2.2.2.1 x,ha1 x];rw[show cJ Ba=[]from rfl];constructor
  .rintro(h|h)
   .exact h
   .cases h
  .exact .inl
 have Vq:=HB.out;have GJ:Below B w w6:=by have g1:Below B w w2:=eG.out.mono (Nat.le_of_eq Vq);have g2:Below B w3 (wb.alloc (.cells #[.string ⟨#[97]⟩,.bool false,.slice (some ⟨w3.heap.size,0,none⟩) 1 1,.string ⟨#[98]⟩,.bool false,.slice (some ⟨wa.heap.size,0,none⟩) 1 1] 51)):=aqx.out.mono h1.tree.aS.base;have g3:=cR.below (h1.grow aqx.out).tree GI;have g4:=cR.below (h3.grow yH).tree acO;have g5:Below B w5 (w5.alloc (.cells #[.string ⟨#[97]⟩,.bool true,.slice none 0 0] 51)):=yH.mono h3.tree.aS.base;exact((((g1.trans Bg.below).trans g2).trans g3).trans g5).trans g4
 have dG:s4.V.tabs.length<=2:=by have h9:dw.tabs.length=0:=rfl;have h8:=H2.out.2.2.2.2.1;rw[h8]at acN;omega
 have Hcr:=ae Xn;have H4:=ae (ag h4 (ag kM (ag Dt (ag hall (ag GJ dG)))));clear h3 GI PR PS tM PT yH acO h4 aHW Dt acP h1 tD pO hV1 ha1 hs1 Bg sG acQ hp4 kM kD Xn hall GJ fC hp Vq dG acN
 go_wp2_with fail
 (with_reducible refine Hcr.out.mono ?_);rintro e w7 ⟨rfl,F7,wD,pZ⟩;have yy:=ae wD;have EP:=ae pZ;have aqI:=ae (aqs w7);clear wD pZ Hcr
 go_wp2_with fail
 (with_reducible refine aqI.out.mono ?_);rintro e w8 ⟨dv8,rfl,mG,cW⟩;obtain⟨h4,kM,Dt,hall,GJ,dG⟩:=H4.out;have PK:=h4.told;rw[kM]at PK;have lN:df 100 B w8:=afC B w8;have hop:=ach (Z:=1048576) (B:=B) (Nn:=100) (s:=s4) (Tb:=T4) (yy.out.grow cW) lN (λW hr=>aqv mG hr (by decide)) aqr (λW hg=>aHk PK ((yy.out.grow cW).grow hg) (lN.grow hg (yy.out.grow cW).base) (by decide) (by decide)) (by decide) (by decide) (by decide) (by decide) (by omega)
 have Hop:=ae hop;have zO:=ae cW;clear hop mG cW h4 kM Dt hall GJ dG PK lN aqI
 go_wp2_with fail
 (with_reducible refine Hop.out.mono ?_);rintro e w9 ⟨t5,f5,T5,K5,s5,rfl,h5,_,_,_,_,_,wj,hs5,_,_,_,_,_,aqJ,_⟩;obtain⟨h4,kM,Dt,hall,GJ,dG⟩:=H4.out;have acR:t5.seq=2:=by rw[hs5,<-h4.seq,Dt]
 have yh:eP ⟨#[97]⟩ 18446744073709551615 (cJ s5)=some (gI 2 ⟨⟨#[97]⟩,true,[]⟩):=Jk h5.vu ((wj _).2 ((hall _).2 (.inl ⟨⟨⟨#[97]⟩,true,[]⟩,by simp[gJ,gI],rfl⟩))) ⟨rfl,by decide⟩ (λx hx _=>by have:=h5.top x hx;rw[acR]at this;exact this);have eD:eP ⟨#[98]⟩ 18446744073709551615 (cJ s5)=some (gI 1 ⟨⟨#[98]⟩,false,[121]⟩):=Jk h5.vu ((wj _).2 ((hall _).2 (.inr ⟨⟨⟨#[98]⟩,false,[121]⟩,by simp[gJ,gI],rfl⟩))) ⟨rfl,by decide⟩ (λx hx hf=>by
  rcases(hall x).1 ((wj x).1 hx)with⟨y,h9,_⟩|⟨y,_,h9⟩
  .have h8:=ajD h9;rw[hf.1]at h8;have h7:=cZ.1 h8.1;rw[h7]at h8;exact absurd h8.2 (by decide)
  .rw[h9];exact aw _)
 have acS:=Vl h5 (by decide) ⟨#[97]⟩;rw[yh]at acS;have aqK:=ae acS;have hend:Below B w w9:=by have g1:Below B w6 w7:=EP.out.below (λb hb=>(h4.tree.aS.foot hb).1) h4.tree.aS.base;have g2:Below B w7 w8:=zO.out.mono yy.out.base;exact((GJ.trans g1).trans g2).trans aqJ.below
 have Hbb:=ae eD;have H5:=ae (ag h5 (ag acR hend));clear h4 kM Dt hall GJ dG acR yh eD acS hend h5 wj hs5 aqJ Hop
 go_wp2_with fail
 (with_reducible refine aqK.out.mono ?_);rintro e wx ⟨he,hgx⟩;have vI:e=.returned (.tuple #[.slice none 0 0,.bool false]):=he;subst vI;have acT:=Vl (H5.out.1.grow hgx) (by decide) ⟨#[98]⟩;rw[Hbb.out]at acT;have aqL:=ae acT;have NY:=ae hgx;clear he hgx acT aqK
 go_wp2_with fail
 (with_reducible refine aqL.out.mono ?_);rintro e wy ⟨he,wP⟩;have vI:∃v,e=.returned (.tuple #[v,.bool true])/\aI wx.heap.size wy v [121]:=he
 obtain⟨v,rfl,hv⟩:=vI;have hcv:=xQ (cE hv);have hka:(⟨([121]:List UInt8).toArray⟩:ByteArray)=⟨#[121]⟩:=rfl;rw[hka]at hcv;have dR:=aqp (H5.out.1.grow (NY.out.trans wP));rw[H5.out.2.1]at dR;have ze:=ae dR;have Hgy:=ae (NY.out.trans wP);obtain⟨va,vc,rfl⟩:=hv.slice;have aOZ:(convert 49 9 (.slice va 1 vc)).run Tryz.prog wy=.ok (.string ⟨#[121]⟩) wy:=hcv;clear he wP hv dR hka aqL hcv
 go_wp2_with fail
 (with_reducible refine ze.out.mono ?_);rintro e wz ⟨rfl,PU⟩;have aHZ:=PU.symm;subst aHZ;clear PU ze;go_wp2;go_ret;have Vq:=HB.out;have fI:Below B w wy:=H5.out.2.2.trans (Hgy.out.mono H5.out.1.tree.aS.base);rw[Vq]at fI;exact⟨rfl,fI⟩
structure Av where
 op:Int
 wv:Value
 pv:Value
 n:Int
 ys:List Wv
 ks:List Int
def acU(a:Av):List Value:=[.int .i64 a.op,a.wv,a.pv,.int .i64 a.n]
def PV(N:Nat->Prop)(w:World)(v:Value)(xs:List Av):Prop:=
 (∃a c,v=.slice a xs.length c/\(xs=[]\/∃b c,a=some ⟨b,c,none⟩/\N b/\b<w.heap.size/\Rd w b c acU 4 xs))/\∀a∈xs,Ws N w a.wv a.ys/\Iw N w a.pv a.ks
theorem PV.kp{xs:List Av}(a:PV N w v xs)(k:Kp N w w'):PV N w' v xs:=by
 obtain⟨⟨f,c,g,d⟩,e⟩:=a;refine⟨⟨f,c,g,?_⟩,λa c=>⟨(e a c).1.kp k,(e a c).2.kp k⟩⟩;rcases d with d|⟨b,o,q1,q2,q3,q4⟩
 .exact .inl d
 .exact .inr ⟨b,o,q1,q2,bF q3 k.size,λi a c b u d=>(k.cell q2 q3 _).trans (q4 i a c b u d)⟩
def sB(a:Av):Nat:=a.ys.length+a.ks.length+bj (a.ys.map (·.x))
def Bh(xs:List Av):Prop:=xs.length<=300/\(xs.map sB).sum<=8192/\∀a∈xs,∀b∈a.ys,b.x.key.size<=60000
instance(xs:List Av):Decidable (Bh xs):=by unfold Bh;infer_instance
def FwI(w:World)(xs:List Av)(a b:Value)(c:World):Prop:=
 ∃i:Nat,b=.int .i64 (i:Int)/\i<=xs.length/\a=.int .i64 ((((xs.take i).map sB).sum:Nat):Int)/\(∀a∈xs.take i,∀b∈a.ys,b.x.key.size<=60000)/\Grow w c
def FwJ(w:World)(S:Nat)(b:List Wv)(c d:Value)(e:World):Prop:=
 ∃a:Nat,d=.int .i64 (a:Int)/\a<=b.length/\c=.int .i64 (((S+bj ((b.take a).map (·.x))):Nat):Int)/\(∀c∈b.take a,c.x.key.size<=60000)/\Grow w e
theorem aIa{xs:List Av}(h:PV N w v xs)(hs:(xs.map sB).sum<=1000000000000000)(hl:xs.length<=1000000000000):
  Calls Tryz.prog 11 #[v] w λe w'=>e=.returned (.bool (decide (Bh xs)))/\Grow w w':=by
 obtain⟨⟨va,vc,rfl,bq⟩,fu⟩:=id h;have bz:Hid (FwI w xs (.int .i64 0) (.int .i64 0) w):=ae ⟨0,rfl,aY _,rfl,(λa ha=>by simp at ha),aW w⟩;have Hh:=ae h;have Hb:=ae (ag hs hl);clear h bq fu hs hl;go_enter Tryz.func11,Tryz.ntmps11
 go_wp2_with fail
 go_loopw [3,4] (λnv iv wr=>FwI w xs nv iv wr) (λ_ iv _=>xs.length-(intOf iv).toNat)
 case atStart=>exact bz.out
 case round=>
  clear bz;obtain⟨i,rfl,hi,rfl,uw,hgr⟩:=hrel;by_cases hlt:i<xs.length
  .obtain⟨x,hx⟩:∃x,xs[i]?=some x:=⟨xs[i],by simp[hlt]⟩
   have hr:=Hh.out.kp (.bO hgr);obtain⟨⟨xE,xF,jV,hrow⟩,fu⟩:=id hr;cases jV;obtain⟨b,o,rfl,hNb,hbl,bq⟩:∃b o,va=some ⟨b,o,none⟩/\N b/\b<wr.heap.size/\Rd wr b o acU 4 xs:=by
    rcases hrow with h0|h0
    .rw[h0]at hx;cases hx
    .exact h0
   have nP:=dm hx;have ep:((xs.take (i+1)).map sB).sum=((xs.take i).map sB).sum+sB x:=by rw[take_one hx];simp
   have oV:((xs.take (i+1)).map sB).sum<=(xs.map sB).sum:=by rw[List.map_take];exact abC _ _
   obtain⟨S,hS⟩:∃S,S=((xs.take i).map sB).sum:=⟨_,rfl⟩
   rw[<-hS]at ep ⊢;have a1:=bq i x hx 1 _ rfl;have a2:=bq i x hx 2 _ rfl;obtain⟨hw,hp⟩:=fu x nP;obtain⟨op,wv,pv,nn,ys,ks⟩:=x;dsimp only at a1 a2 hw hp;have Am:sB ⟨op,wv,pv,nn,ys,ks⟩=ys.length+ks.length+bj (ys.map (·.x)):=rfl;obtain⟨wa,wc,rfl⟩:=hw.slice;obtain⟨pa,pc,rfl,gi,_⟩:=id hp;have hb:=Hb.out;have eN:(i:Int)<(xs.length:Int):=by omega
   have bU:(0:Int)<=(i:Int):=by omega
   have fT:IntKind.i64.wrap ((i:Int)+1)=(i:Int)+1:=aQ _ (by omega);obtain⟨S1,hS1⟩:∃S1,S1=S+ys.length:=⟨_,rfl⟩
   obtain⟨S2,iD⟩:∃S2,S2=S1+ks.length:=⟨_,rfl⟩
   have bT:IntKind.i64.wrap ((S:Int)+(ys.length:Int))=(S1:Int):=(aQ _ (by omega)).trans (by omega);have hw2:IntKind.i64.wrap ((S1:Int)+(ks.length:Int))=(S2:Int):=(aQ _ (by omega)).trans (by omega);have aPa:S2+bj (ys.map (·.x))<=1000000000000000:=by omega
   have dM:ys.length<=1000000000000000:=by omega
   have HSn:=ae (show((xs.take (i+1)).map sB).sum=S2+bj (ys.map (·.x))by omega);have acW:=ae uw;have Hx:=ae hx;have gu:=ae hgr;have Hw:=ae hw;have iy:=ae hlt;have pU:=ae (ag a1 (ag a2 hbl));clear hr hrow fu bq nP ep oV hS Am hS1 iD uw hx hgr hw hp gi hlt hb hNb
   go_upto_region 5 with fail
   refine cN (λW=>W.cell? ⟨b,o+i*4+1,none⟩=some (.slice wa ys.length wc)/\W.cell? ⟨b,o+i*4+2,none⟩=some (.slice pa ks.length pc)/\b<W.heap.size) [] (by kernel_rfl) (bB λ_ _ _ _ _ h=>h) ⟨by simpa using a1,by simpa using a2,by simpa using hbl⟩ ?_;simp only[ct];clear a1 a2 hbl
   repeat ((first|(apply az;rfl;rintro W ⟨hW0,hW1,hW2⟩;go_simp;with_reducible rfl)|(apply aA;rfl));simp only[ah,List.set])
   refine bg ?_;have hgd:=ay wr;have vz:=ae (gu.out.trans hgd);have Hw5:=ae (Hw.out.kp (.bO hgd));have acX:Hid (wr.drew.cell? ⟨b,o+i*4+1,none⟩=some (.slice wa ys.length wc)/\b<wr.drew.heap.size):=ae ⟨by simpa using pU.out.1,by simpa using pU.out.2.2⟩;clear hgd Hw pU gu;generalize wr.drew=w5 at*;have PH:Hid (FwJ w5 S2 ys (.int .i64 (S2:Int)) (.int .i64 0) w5):=ae ⟨0,rfl,aY _,by simp[bj],(λy hy=>by simp at hy),aW w5⟩
   go_wp2_with fail
   go_loopw [3,5] (λnv kv W=>FwJ w5 S2 ys nv kv W) (λ_ kv _=>ys.length-(intOf kv).toNat)
   case atStart=>exact PH.out
   case round=>
    clear PH;obtain⟨k,rfl,hk,rfl,tS,dh⟩:=hrel;have LP:=Hw5.out.kp (.bO dh);have a1:wr.cell? ⟨b,o+i*4+1,none⟩=some (.slice wa ys.length wc):=(Grow.cells wr b _ dh acX.out.2).trans acX.out.1;have lb:=bF acX.out.2 dh.size;by_cases Cg:k<ys.length
    .obtain⟨y,hy⟩:∃y,ys[k]?=some y:=⟨ys[k],by simp[Cg]⟩
     obtain⟨b2,o2,c2,jV,ajI,NM,aqN⟩:=LP.addr hy;cases jV;obtain⟨d0,d1,d2⟩:=JK aqN hy;have GK:pz N wr y:=LP.get hy;have ep:bj ((ys.take (k+1)).map (·.x))=bj ((ys.take k).map (·.x))+(y.x.key.size+y.x.val.length):=by rw[take_one hy,dS,JL];simp[bj]
     have oV:bj ((ys.take (k+1)).map (·.x))<=bj (ys.map (·.x)):=by rw[List.map_take];exact NV _ _
     have kT:∀z∈ys.take (k+1),z∈ys.take k\/z=y:=λz hz=>by
      rw[take_one hy]at hz;rcases dn.1 hz with hz|hz
      .exact .inl hz
      .exact .inr (cZ.1 hz)
     have Vr:=dm hy;obtain⟨⟨yk,yg,yd⟩,yv⟩:=y;dsimp only at d0 d1 d2 ep;have bD:Bv wr yv yd:=GK.1;obtain⟨ya,yc,rfl⟩:=bD.slice;obtain⟨Sk,hSk⟩:∃Sk,Sk=S2+bj ((ys.take k).map (·.x)):=⟨_,rfl⟩
     obtain⟨Sa,yA⟩:∃Sa,Sa=Sk+yk.size:=⟨_,rfl⟩
     obtain⟨Sb,hSb⟩:∃Sb,Sb=Sa+yd.length:=⟨_,rfl⟩
     rw[<-hSk];have lV:(k:Int)<(ys.length:Int):=by omega
     have jZ:(0:Int)<=(k:Int):=by omega
     have yF:IntKind.i64.wrap ((k:Int)+1)=(k:Int)+1:=aQ _ (by omega);have hwa:IntKind.i64.wrap ((Sk:Int)+(yk.size:Int))=(Sa:Int):=(aQ _ (by omega)).trans (by omega);have oH:IntKind.i64.wrap ((Sa:Int)+(yd.length:Int))=(Sb:Int):=(aQ _ (by omega)).trans (by omega);have HSb:=ae (show Sb=S2+bj ((ys.take (k+1)).map (·.x))by omega);have Hkn:=ae kT;have Hkk:=ae tS;have Hym:=ae Vr;have Dm:=ae dh;have aqP:=ae Cg;have hgd:=ay wr;have xp:=ae hgd;clear LP aqN GK ep oV kT Vr bD hSk yA hSb tS dh Cg hy ajI hgd
     go_upto_region 9 with fail
     refine cN (λW=>(W.cell? ⟨b,o+i*4+1,none⟩=some (.slice (some ⟨b2,o2,none⟩) ys.length wc)/\b<W.heap.size)/\W.cell? ⟨b2,o2+k*3,none⟩=some (.string yk)/\W.cell? ⟨b2,o2+k*3+2,none⟩=some (.slice ya yd.length yc)/\b2<W.heap.size) [] (by kernel_rfl) (bB λ_ _ _ _ _ h=>h) ⟨⟨by simpa using a1,by simpa using lb⟩,by simpa using d0,by simpa using d2,by simpa using NM⟩ ?_;simp only[ct]
     repeat ((first|(apply az;rfl;rintro W ⟨⟨hW0,hW1⟩,hW2,hW3,jR⟩;go_simp;with_reducible rfl)|(apply aA;rfl));simp only[ah,List.set])
     refine bg ?_;have a1d:wr.drew.cell? ⟨b,o+i*4+1,none⟩=some (.slice (some ⟨b2,o2,none⟩) ys.length wc):=by simpa using a1
     have lbd:b<wr.drew.heap.size:=by simpa using lb
     have d0d:wr.drew.cell? ⟨b2,o2+k*3,none⟩=some (.string yk):=by simpa using d0
     have l2d:b2<wr.drew.heap.size:=by simpa using NM
     clear a1 lb d0 d1 d2 NM;by_cases wI:60000<yk.size
     .have hb1:(60000:Int)<(yk.size:Int):=by omega
      have acY:=ae wI;clear wI;go_wp2;go_ret;have hno:¬Bh xs:=λhf=>by have h1:=hf.2.2 _ (dm Hx.out) _ Hym.out;have:=acY.out;dsimp only at h1;omega
      exact⟨by rw[decide_eq_false hno];rfl,(vz.out.trans Dm.out).trans xp.out⟩
     .have hb1:¬(60000:Int)<(yk.size:Int):=by omega
      have hb2:(yk.size:Int)<=60000:=by omega
      have acY:=ae wI;clear wI;go_wp2;go_roundw
      case rel=>exact⟨k+1,by simp,aqP.out,by rw[<-HSb.out],λz hz=>by
       rcases Hkn.out z hz with h1|h1
       .exact Hkk.out z h1
       .rw[h1];have:=acY.out;dsimp only;omega,Dm.out.trans xp.out⟩
      case measure=>simp[intOf];have:=aqP.out;omega
    .obtain rfl:k=ys.length:=by omega
     rw[iA]at tS ⊢;have hrel:FwI w xs (.int .i64 ((S2+bj (ys.map (·.x)):Nat):Int)) (.int .i64 ((i:Int)+1)) wr:=⟨i+1,by simp,iy.out,by rw[HSn.out],λa ha=>by
      rw[take_one Hx.out]at ha;rcases dn.1 ha with ha|ha
      .exact acW.out a ha
      .rw[cZ.1 ha];exact tS,vz.out.trans dh⟩
     have aR:=ae hrel;obtain⟨Se,hSe⟩:∃Se,Se=S2+bj (ys.map (·.x)):=⟨_,rfl⟩
     rw[<-hSe]at aR ⊢;clear hrel tS dh LP hSe;go_wp2;go_roundw
     case rel=>exact aR.out
     case measure=>simp[intOf];have:=iy.out;omega
  .obtain rfl:i=xs.length:=by omega
   rw[iA]at uw ⊢;have hb:=Hb.out;have acW:=ae uw;have gu:=ae hgr;obtain⟨S,hS⟩:∃S,S=(xs.map sB).sum:=⟨_,rfl⟩
   rw[<-hS];have HS:=ae hS;clear uw hgr hS hb hlt hi;by_cases h1:xs.length<=300
   .have d1:(xs.length:Int)<=300:=by omega
    by_cases h2:S<=8192
    .have d2:(S:Int)<=8192:=by omega
     have acZ:Hid (Bh xs):=ae ⟨h1,by rw[<-HS.out];exact h2,acW.out⟩;clear h1 h2;go_wp2;go_ret;exact⟨by rw[decide_eq_true acZ.out];rfl,gu.out⟩
    .have d2:¬(S:Int)<=8192:=by omega
     have d2':(8192:Int)<(S:Int):=by omega
     have hno:Hid (¬Bh xs):=ae (λhf=>h2 (by rw[HS.out];exact hf.2.1));clear h1 h2;go_wp2;go_ret;exact⟨by rw[decide_eq_false hno.out];rfl,gu.out⟩
   .have d1:¬(xs.length:Int)<=300:=by omega
    have d1':(300:Int)<(xs.length:Int):=by omega
    have hno:Hid (¬Bh xs):=ae (λhf=>h1 hf.1);clear h1;go_wp2;go_ret;exact⟨by rw[decide_eq_false hno.out];rfl,gu.out⟩
section
variable{Z B Nn A C i:Nat}{w w':World}{t:Tr}{f:Lk}{T K:Nat}{s:di}
theorem cR.side(a:cR Z B Nn w t f T K)(d:Sep G w w' G')(g:∀b,G b->¬FT t b/\¬t.N b/\B<=b/\∀i fz,w.heap[b]?≠some (.cells i 101 fz)):cR Z B Nn w' t f T K:=by
 have e:∀b,FT t b->w'.heap[b]?=w.heap[b]?:=λb c=>d.out b (a.lt c) (λf=>(g b f).1 c)
 have h:Kp t.N w w':=⟨d.size,λb c j=>d.out b j (λf=>(g b f).2.1 c)⟩
 obtain⟨j,k⟩:=a.mem;refine⟨a.cell.keep (e _ (.inr (.inr (.inl rfl)))),a.set.same (e _ (.inr (.inr (.inr (.inl rfl))))),Db a.own (λb i i=>d.out b (af i) (λf=>(g b f).2.2.2 _ _ i)),a.log.same (e _ (.inr (.inr (.inr (.inr (.inl rfl)))))),⟨j,k.keep (λb c=>e b (.inr (.inl c))) h⟩,
  a.tabs.keep (e _ (.inr (.inr (.inr (.inr (.inr (.inl rfl))))))),λi b j k=>⟨(a.load i b j k).1,(a.load i b j k).2.kp h⟩,a.held.keep (e _ (.inr (.inr (.inr (.inr (.inr (.inr rfl))))))),a.draws.kp h,?_,a.dK.keep (λb c=>d.out b (by have:=a.aS.base;omega) (λf=>by have:=(g b f).2.2.1;omega)),λb c=>⟨bF (a.apart b c).1 d.size,(a.apart b c).2⟩,a.base,a.vt,a.wX,a.AW⟩
 obtain⟨f,g,h,i,j⟩:=a.aS;exact⟨f,g.keep d.size (λb c=>e b (.inl c)),h,i,j⟩
theorem cY.side(a:cY Z B Nn A C i w t f T K s)(c:Sep G w w' G')(d:∀b,G b->¬FT t b/\¬t.N b/\B<=b/\∀e fz,w.heap[b]?≠some (.cells e 101 fz)):cY Z B Nn A C i w' t f T K s:={a with tree:=a.tree.side c d}
theorem df.up{N B:Nat}{w w':World}(a:df N B w)(c:B<=B')(c:∀b,b<B->w'.heap[b]?=w.heap[b]?):df N B' w':=λd e W f=>a d e W (λb a=>(f b (by omega)).trans (c b a))
abbrev Du(p:Nat)(o:Od)(drv tv:Value)(mm am seq:Nat)(hv ov:Value):Array Value:=#[.pointer (some ⟨p,0,none⟩),.int .i64 o.mem,.int .i64 o.block,.int .i64 o.zero,.int .i64 o.base,.int .i64 o.table,drv,tv,.map (some mm),.map (some am),.int .u64 (seq:Int),hv,ov]
theorem vA{seq:Nat}{o:Od}{drv:Value}(a:W.heap[wb]?=some (.cells (Du p o drv tv mm am seq hv ov) 47 (0,0))):
  (W.cell? ⟨wb,0,none⟩=some (.pointer (some ⟨p,0,none⟩))/\W.cell? ⟨wb,1,none⟩=some (.int .i64 o.mem)/\W.cell? ⟨wb,2,none⟩=some (.int .i64 o.block)/\W.cell? ⟨wb,3,none⟩=some (.int .i64 o.zero)/\W.cell? ⟨wb,4,none⟩=some (.int .i64 o.base)/\W.cell? ⟨wb,5,none⟩=some (.int .i64 o.table)/\W.cell? ⟨wb,6,none⟩=some drv)/\
  W.cell? ⟨wb,7,none⟩=some tv/\W.cell? ⟨wb,8,none⟩=some (.map (some mm))/\W.cell? ⟨wb,9,none⟩=some (.map (some am))/\W.cell? ⟨wb,10,none⟩=some (.int .u64 (seq:Int))/\W.cell? ⟨wb,11,none⟩=some hv/\W.cell? ⟨wb,12,none⟩=some ov/\wb<W.heap.size:=by
 refine⟨⟨?_,?_,?_,?_,?_,?_,?_⟩,?_,?_,?_,?_,?_,?_,af a⟩<;>simp[World.cell?,a]
def aIh(Z B Nn A C i:Nat)(w:World)(wb p r:Nat)(o:Od)(drv:Value)(ds:List Int)(mm am seq:Nat)(s:di)(Tb:Nat)(e:Ending)(w':World):Prop:=
 e=.returned (.bool true)/\∃(a:Tr)(e:Lk)(d f:Nat)(c:di),cY Z B Nn A C (i+1) w' a e d f c/\a.p=p/\a.r=r/\a.o=o/\a.ds=ds/\
  c.V=s.V/\(∀e,e∈cJ c↔e∈cJ s)/\a.seq=pD s/\a.hh=(λ_=>none)/\a.hn=0/\w.heap.size<=a.tm/\w.heap.size<=a.hm/\(∀b,a.N b->w.heap.size<=b)/\d<=Tb/\
  w'.heap[wb]?=some (.cells (Du p o drv (.pointer (some ⟨a.db,0,none⟩)) mm am seq (.slice none 0 0) (.slice none 0 0)) 47 (0,0))/\∃W,Rl B r w W/\Sep (λb=>b=wb) W w' (λb=>b=wb)
theorem aIi{o:Od}{drv:Value}{Tb:Nat}(a:w.heap[wb]?=some (.cells (Du p o drv tv mm am seq hv ov) 47 (0,0)))(c:B<=wb)(d:∀W,Grow w W->Calls Tryz.prog 23 #[.pointer (some ⟨p,0,none⟩),vr o drv] W (aoZ Z B Nn A C i W p r o ds s Tb)):
  Calls Tryz.prog 39 #[.pointer (some ⟨wb,0,none⟩)] w (aIh Z B Nn A C i w wb p r o drv ds mm am seq s Tb):=by
 have y:=ae d;have t:=ae a;have z:=ae c;clear d c a;go_enter Tryz.func39,Tryz.ntmps39
 go_upto_region 1 with fail
 have g:=ay w;have c:∀W,Grow w W->(W.cell? ⟨wb,0,none⟩=some (.pointer (some ⟨p,0,none⟩))/\W.cell? ⟨wb,1,none⟩=some (.int .i64 o.mem)/\W.cell? ⟨wb,2,none⟩=some (.int .i64 o.block)/\W.cell? ⟨wb,3,none⟩=some (.int .i64 o.zero)/\W.cell? ⟨wb,4,none⟩=some (.int .i64 o.base)/\W.cell? ⟨wb,5,none⟩=some (.int .i64 o.table)/\W.cell? ⟨wb,6,none⟩=some drv)/\wb<W.heap.size:=λW d=>by have a:=vA (d.heap t.out);exact⟨a.1,a.2.2.2.2.2.2.2⟩
 refine cN (λW=>(W.cell? ⟨wb,0,none⟩=some (.pointer (some ⟨p,0,none⟩))/\W.cell? ⟨wb,1,none⟩=some (.int .i64 o.mem)/\W.cell? ⟨wb,2,none⟩=some (.int .i64 o.block)/\W.cell? ⟨wb,3,none⟩=some (.int .i64 o.zero)/\W.cell? ⟨wb,4,none⟩=some (.int .i64 o.base)/\W.cell? ⟨wb,5,none⟩=some (.int .i64 o.table)/\W.cell? ⟨wb,6,none⟩=some drv)/\wb<W.heap.size) [8] (by kernel_rfl) (bB λ_ _ _ _ _ d=>d) (c _ g) ?_;simp only[ct];clear c
 repeat ((first|(apply az;rfl;rintro W ⟨⟨A,B,C,D,E,F,G⟩,H⟩;go_simp;with_reducible rfl)|(apply aA;rfl));simp only[ah,List.set])
 refine bw (by rfl) (by go_simp) (y.out _ g) ?_;rintro c u ⟨v,I,J,K,L,rfl,a,h,i,j,k,l,m,n,o,p,d,e,c,f,q⟩;have s:=f.hold.keep wb _ _ _ (g.heap t.out) (by unfold BP;decide);have x:=vA s;refine⟨_,rfl,⟨x.1,x.2.2.2.2.2.2.2⟩,?_⟩;have M:=ae (ag a (ag h (ag i (ag j (ag k (ag l (ag m (ag n (ag o (ag p (ag d (ag e (ag c (ag f q))))))))))))));obtain⟨_,N,_,_,_,N,N,N⟩:=x;have x:=bG s;have x:=ae s;clear a h i j k l m n o p d e c f q s g y
 try simp only[ah,List.set,aC]
 repeat ((first|(apply az;rfl;rintro W ⟨⟨A,B,C,D,E,F,G⟩,H⟩;go_simp;with_reducible rfl)|(apply aA;rfl));simp only[ah,List.set])
 refine bg ?_;have A:=Go.Gl.aK (Go.Gl.aK (Go.Gl.aK x.out 7 (.pointer (some ⟨v.db,0,none⟩))) 11 (.slice none 0 0)) 12 (.slice none 0 0);have B:Sep (λb=>b=wb) u (((u.setCell ⟨wb,7,none⟩ (.pointer (some ⟨v.db,0,none⟩))).setCell ⟨wb,11,none⟩ (.slice none 0 0)).setCell ⟨wb,12,none⟩ (.slice none 0 0)) (λb=>b=wb):=⟨rfl,rfl,rfl,by simp,λb _ g=>by rw[aN _ _ _ _ g,aN _ _ _ _ g,aN _ _ _ _ g],λb s=>.inl s⟩
 have y:=ae (ag A B);clear A B;go_wp2;go_ret;obtain⟨a,h,i,j,k,l,m,n,o,p,d,e,c,f,q⟩:=M.out;have A:=af t.out;have t:w.drew.heap.size=w.heap.size:=rfl;rw[t]at d e c;refine⟨rfl,v,I,J,K,L,a.side y.out.2 (λb s=>?_),h,i,j,k,l,m,n,o,p,d,e,c,q,y.out.1,u,(Rl.grow (r:=r) (ay w) ?_).trans f,y.out.2⟩
 .subst s;exact⟨a.tree.off x.out (by decide),λg=>by have:=c _ g;omega,z.out,λa a a=>by rw[x.out]at a;exact absurd (cp (bh a)).2.1 (by decide)⟩
 .have:=z.out;omega
end
section
variable{Z Nn:Nat}{w:World}
def ada(Z Nn:Nat)(w:World)(o:Od)(drv:Value)(ds:List Int)(e:Ending)(w':World):Prop:=
 ∃(wb B mm am:Nat)(t:Tr)(f:Lk)(T K:Nat)(s:di),e=.returned (.tuple #[.pointer (some ⟨wb,0,none⟩),.bool true])/\cY Z B Nn 0 0 2 w' t f T K s/\t.o=o/\t.ds=ds/\s.V=dw/\(∀a,a∈cJ s↔a∈cJ Ba)/\t.seq=0/\t.hh=(λ_=>none)/\t.hn=0/\T<=6/\
  w'.heap[wb]?=some (.cells (Du t.p o drv (.pointer (some ⟨t.db,0,none⟩)) mm am 0 (.slice none 0 0) (.slice none 0 0)) 47 (0,0))/\
  w'.heap[mm]?=some (.map #[] 0)/\w'.heap[am]?=some (.map #[] 0)/\mm≠am/\w.heap.size<=mm/\w.heap.size<=am/\w.heap.size<=B/\w.heap.size<=wb/\B<=wb/\B<=mm/\B<=am/\¬FT t mm/\¬FT t am/\¬FT t wb/\¬t.N wb/\¬t.N mm/\¬t.N am/\Grow w w'
theorem Dl.rlt{f:Lk}(a:Dl Z B w p r f T K F):r<w.heap.size:=by obtain⟨b,⟨_,_,b,b,b,rfl,rfl⟩,_⟩:=a;exact(b.Wn (.inr (.inl rfl))).2
theorem cR.PX{t:Tr}{f:Lk}(d:cR Z B Nn w t f T K){a:Obj}(f:w.heap[b]?=some a)(g:∀arr ty fz,a≠.cells arr ty fz)(h1:b≠t.r)(h:b≠t.tm)(i:b≠t.hm):¬FT t b:=by
 have j:w.heap[t.db]?=some (.cells (rh t.sb t.o t.drv (.pointer (some ⟨t.lb,0,none⟩)) t.mb t.tm t.seq t.hm) 93 (0,0)):=d.cell;have k:w.heap[t.sb]?=some (.cells (setCells t.p t.tv t.V ((0:Nat):Int)) 154 (0,0)):=d.set;have e:∀{c:Nat}{arr:Array Value}{ty:TypeId}{fz:Nat×Nat},b=c->w.heap[c]?=some (.cells arr ty fz)->False:=λb a=>by rw[<-b,f]at a;exact g _ _ _ (bh a)
 rintro(a|a|a|a|a|a|a)
 .exact d.aS.Xx f g h1 a
 .obtain⟨b,b⟩:=d.mem;obtain⟨arr,ty,c,_⟩:=b.kind a;exact e rfl c
 .exact e a j
 .exact e a k
 .exact e a d.log.self
 .exact h a
 .exact i a
theorem aIk(d:6<=Z)(a:Z<=1073741824)(e:df Nn w.heap.size w)(f:10<=Nn){o:Od}{drv:Value}{N0:Nat->Prop}(g:Iw N0 w drv ds)(h:∀b,N0 b->b<w.heap.size)(j:sw o):
  Calls Tryz.prog 13 #[.int .i64 (Z:Int),vr o drv] w (ada Z Nn w o drv ds):=by
 have k:=ar w (.cells #[.int .i64 o.mem,.int .i64 o.block,.int .i64 o.zero,.int .i64 o.base,.int .i64 o.table,drv] 26);have c:=ax w (.cells #[.int .i64 o.mem,.int .i64 o.block,.int .i64 o.zero,.int .i64 o.base,.int .i64 o.table,drv] 26);have O:=ae g;have z:=ae e;have n:=ae (ag d (ag a (ag f (ag h j))));have l:=@run_makeMap Tryz.prog;clear g e d f h j;go_enter Tryz.func13,Tryz.ntmps13
 go_upto_region 1 with fail
 generalize w.alloc (.cells #[.int .i64 o.mem,.int .i64 o.block,.int .i64 o.zero,.int .i64 o.base,.int .i64 o.table,drv] 26)=d at*;obtain⟨e,g⟩:∃e,e=w.heap.size:=⟨_,rfl⟩
 rw[<-g]at c ⊢;have D:=ae (anK Z d (by have:=n.out.1;omega) a);have e:=ae c;have f:=ae k;clear g c k a
 go_wp2_with fail
 (with_reducible refine D.out.mono ?_);rintro P a ⟨rfl,⟨F,q⟩,g⟩;have E:=g.heap e.out;obtain⟨p,h⟩:∃p,p=d.heap.size+1:=⟨_,rfl⟩
 obtain⟨r,t⟩:∃r,r=d.heap.size:=⟨_,rfl⟩
 rw[<-h,<-t]at q;rw[<-h];have F:=ax a (.map #[] 0);have G:=ar a (.map #[] 0);obtain⟨⟨c,c,c,c,c,c⟩,c⟩:=Ge E;have u:=ae q;have j:=ae g;have c:=ae (ag h t);have v:=ar (a.alloc (.map #[] 0)) (.map #[] 0);have H:=ax (a.alloc (.map #[] 0)) (.map #[] 0);have k:=ar ((a.alloc (.map #[] 0)).alloc (.map #[] 0)) (.cells (Du p o drv (.pointer none) a.heap.size (a.heap.size+1) 0 (.slice none 0 0) (.slice none 0 0)) 47);have l:=ax ((a.alloc (.map #[] 0)).alloc (.map #[] 0)) (.cells (Du p o drv (.pointer none) a.heap.size (a.heap.size+1) 0 (.slice none 0 0) (.slice none 0 0)) 47);have I:=(v.trans k).heap F;have x:=k.heap H;have J:(a.alloc (.map #[] 0)).heap.size=a.heap.size+1:=by simp
 have K:((a.alloc (.map #[] 0)).alloc (.map #[] 0)).heap.size=a.heap.size+1+1:=by simp
 rw[J]at x;rw[K]at l;have c:=(G.trans v).trans k;have m:=n.out;have y:=g.size;have Q:=f.out.size;have L:=u.out.rlt;have M:r<a.heap.size:=L;have R:d.heap.size<=a.heap.size:=y;have n:w.heap.size<=r:=by omega
 have N:=λ(W:World)(d:Grow (((a.alloc (.map #[] 0)).alloc (.map #[] 0)).alloc (.cells (Du p o drv (.pointer none) a.heap.size (a.heap.size+1) 0 (.slice none 0 0) (.slice none 0 0)) 47)) W)=>ach (Z:=Z) (B:=r) (Nn:=Nn) (A:=0) (C:=0) (i:=1) (s:=Ba) (Tb:=0+6) (N0:=N0) (ds:=ds) (drv:=drv) (o:=o) ((u.out.grow c).grow d)
  (z.out.up n (λb e=>((((f.out.trans j.out).trans c).trans d)).block b e)) (λW' i=>O.out.kp ⟨by have:=(((f.out.trans j.out).trans c).trans d).size;have:=i.hold.size;omega,λb e s=>by have s:=m.2.2.2.1 b e;rw[i.below.block b (by omega)];exact(((f.out.trans j.out).trans c).trans d).block b s⟩) m.2.2.2.2 (λW' i=>aoX _ (((u.out.grow c).grow d).grow i) (z.out.up n (λb e=>(((((f.out.trans j.out).trans c).trans d)).trans i).block b e)) (by omega) (by omega) (by omega)) (by omega) (by omega) (by omega) (by omega) (by decide)
 have d:=aIi l (show r<=_ by omega) N;have e:Calls Tryz.prog 39 #[.pointer (some ⟨a.heap.size+1+1,0,none⟩)] (((a.alloc (.map #[] 0)).alloc (.map #[] 0)).alloc (.cells #[.pointer (some ⟨p,0,none⟩),.int .i64 o.mem,.int .i64 o.block,.int .i64 o.zero,.int .i64 o.base,.int .i64 o.table,drv,.pointer none,.map (some a.heap.size),.map (some (a.heap.size+1)),.int .u64 0,.slice none 0 0,.slice none 0 0] 47)) _:=d;have z:=ae e;have B:=ae (ag I (ag x (ag l (ag c (ag y (ag n M))))));clear q E h t g D F G v H k l I x J K c m y Q n L M R N d e
 go_wp2_with fail
 (with_reducible refine z.out.mono ?_);rintro P y ⟨rfl,A,C,D,E,F,e,k,c,l,n,o,p,q,s,t,u,v,g,x,i,W,d,h⟩;have G:=ae (ag e (ag k (ag c (ag l (ag n (ag o (ag p (ag q (ag s (ag t (ag u (ag v (ag g (ag x (ag i (ag d h))))))))))))))));clear e k c l n o p q s t u v g x i d h z;go_wp2;go_ret2;obtain⟨e,k,c,l,n,o,p,q,s,t,u,v,g,x,i,d,h⟩:=G.out;obtain⟨u,v,x,z,G,G,H⟩:=B.out;have B:A.r=r:=c;have c:=af x;have x:=(h.out _ (af (d.hold.maps _ _ u (λ_ _ _ c=>by cases c) (by omega))) (by omega)).trans (d.hold.maps _ _ u (λ_ _ _ c=>by cases c) (by omega));have u:=(h.out _ (af (d.hold.maps _ _ v (λ_ _ _ c=>by cases c) (by omega))) (by omega)).trans (d.hold.maps _ _ v (λ_ _ _ c=>by cases c) (by omega));have v:Grow w y:=by
  have B:=((f.out.trans j.out).trans z)
  have f:Below w.heap.size _ W:=d.below.mono G;have j:Below w.heap.size W y:=h.below (λb m=>by omega) (by have:=d.hold.size;omega);exact(Below.trans B f).trans j
 refine⟨a.heap.size+1+1,r,a.heap.size,a.heap.size+1,A,C,D,E,F,rfl,e,l,n,o,p,q.trans rfl,s,t,by omega,by rw[k];exact i,x,u,by omega,by omega,by omega,by omega,by omega,by omega,by omega,by omega,e.tree.PX x (λ_ _ _ c=>by cases c) (by omega) (by omega) (by omega),e.tree.PX u (λ_ _ _ c=>by cases c) (by omega) (by omega) (by omega),e.tree.off i (by decide),λc=>by have:=g _ c;omega,λc=>by have:=g _ c;omega,λc=>by have:=g _ c;omega,v⟩
end
end Go.Proofs.YtoolkdapflaeeaaGreatDoor
namespace Go.Proofs.YtoolkdapflaeeaaGreatDoor
open Go.RowKit Go.Gl Mn
def nX(e:En):List En->List En
 | []=>[]
 |x::l=>if eB x e=0 then nX e l else x::l
theorem aqZ{e:En}{r:List En}(a:∀y t,r=y::t->¬qg y e):nX e r=r:=by
 cases r with
 |nil=>rfl
 |cons y t=>unfold nX;rw[if_neg (λb=>a y t rfl ((Cv _ _).1 b))]
theorem aIm{e:En}{r:List En}(g:cx r)(c:∀x t,r=x::t->¬fY x e):(∀x∈nX e r,x∈r/\fY e x)/\(∀x∈r,x∈nX e r\/qg x e)/\cx (nX e r):=by
 cases r with
 |nil=>exact⟨λx a=>(by cases a),λx a=>(by cases a),g⟩
 |cons b t=>
  have f:=uN.1 g;have k:=c b t rfl;by_cases c:qg b e
  .have a:nX e t=t:=aqZ λj l h i=>by have d:=f.1 j (by rw[h];exact ej ..);rw[yB c,<-yB i]at d;exact Ac _ d
   have m:nX e (b::t)=t:=by show(if eB b e=0 then nX e t else b::t)=t;rw[if_pos ((Cv _ _).2 c),a]
   rw[m];refine⟨λx a=>⟨fE _ a,(yB c).1 (f.1 x a)⟩,λx a=>?_,f.2⟩;rcases bI.1 a with rfl|a
   .exact .inr c
   .exact .inl a
  .rw[aqZ (λj l h i=>by cases h;exact c i)]
   have h:fY e b:=by
    by_cases d:fY e b
    .exact d
    .exact absurd (Yw k d) c
   refine⟨λx a=>⟨a,?_⟩,λx a=>.inl a,g⟩;rcases bI.1 a with rfl|a
   .exact h
   .exact Jj h (f.1 x a)
theorem Vt(e:En):∀r:List En,(nX e r).length<=r.length
 | []=>aw _
 |x::r=>by
  show(if eB x e=0 then nX e r else x::r).length<=_;have:=Vt e r
  split<;>simp only[dD]<;>omega
structure Bj(ls:List (List En))(out:List En)(rs:List (List En)):Prop where
 ord:cx out
 aIn:∀r∈rs,cx r
 lt:∀o∈out,∀r∈rs,∀x∈r,fY o x
 mem:∀e,(∃l∈ls,e∈l)↔e∈out\/∃r∈rs,e∈r
theorem Bj.start{ls:List (List En)}(a:∀l∈ls,cx l):Bj ls [] ls:=⟨cx.nil,a,λa a=>(by cases a),λa=>by simp⟩
theorem Bj.done{ls rs:List (List En)}{b:List En}(a:Bj ls b rs)(c:∀r∈rs,r=[]):SI ls b:=⟨a.ord,λb=>by rw[a.mem];refine⟨λa=>.inl a,λa=>a.elim id ?_⟩;rintro⟨r,b,a⟩;rw[c r b]at a;cases a⟩
theorem Bj.step{ls rs:List (List En)}{a:List En}(d:Bj ls a rs)(m:qQ ls.flatten){e:En}(c:∃r∈rs,e∈r)(g:∀r∈rs,∀x t,r=x::t->¬fY x e):Bj ls (a++[e]) (rs.map (nX e)):=by
 obtain⟨i,j,k⟩:=c;have l:∀x,(∃r∈rs,x∈r)->x∈ls.flatten:=λx a=>by obtain⟨c,f,h⟩:=(d.mem x).2 (.inr a);exact List.mem_flatten.2 ⟨c,f,h⟩
 have h:=λr f=>aIm (d.aIn r f) (g r f)
 refine⟨List.pairwise_append.2 ⟨d.ord,List.pairwise_singleton _ _,λc n b b=>?_⟩,λr f=>?_,λo g r f x a=>?_,λx=>?_⟩
 .rw[cZ.1 b];exact d.lt c n i j e k
 .obtain⟨c,b,rfl⟩:=aV.1 f;exact(h c b).2.2
 .obtain⟨c,b,rfl⟩:=aV.1 f
  have f:=(h c b).1 x a;rcases dn.1 g with g|g
  .exact d.lt o g c b x f.1
  .rw[cZ.1 g];exact f.2
 .rw[d.mem]
  constructor
  .rintro(a|⟨c,b,a⟩)
   .exact .inl (jg _ a)
   .rcases(h c b).2.1 x a with f|f
    .exact .inr ⟨_,aV.2 ⟨c,b,rfl⟩,f⟩
    .have:=m x (l x ⟨c,b,a⟩) e (l e ⟨i,j,k⟩) f;rw[this];exact .inl (nz _ (List.mem_singleton_self _))
  .rintro(a|⟨c,b,a⟩)
   .rcases dn.1 a with a|a
    .exact .inl a
    .rw[cZ.1 a];exact .inr ⟨i,j,k⟩
   .obtain⟨p,c,rfl⟩:=aV.1 b;exact .inr ⟨p,c,((h p c).1 x a).1⟩
theorem aIo{e:En}:∀{rs:List (List En)},(∃t,e::t∈rs)->((rs.map (nX e)).map List.length).sum<(rs.map List.length).sum:=by
 have c:∀rs:List (List En),((rs.map (nX e)).map List.length).sum<=(rs.map List.length).sum:=by
  intro rs
  induction rs with
  |nil=>exact aw _
  |cons r rs b=>have:=Vt e r;simp only[cr,List.sum_cons]at*;omega
 intro rs
 induction rs with
 |nil=>rintro⟨t,a⟩;cases a
 |cons r rs b=>
  rintro⟨t,a⟩;have d:=Vt e r;rcases bI.1 a with rfl|a
  .have d:(nX e (e::t)).length<=t.length:=by show(if eB e e=0 then nX e t else e::t).length<=_;rw[if_pos ((Cv _ _).2 ⟨rfl,rfl⟩)];exact Vt e t
   have d:=c rs;simp only[cr,List.sum_cons,dD]at*;omega
  .have:=b ⟨t,a⟩;simp only[cr,List.sum_cons]at*;omega
end Go.Proofs.YtoolkdapflaeeaaGreatDoor
namespace Go.Proofs.YtoolkdapflaeeaaGreatDoor
open Go.RowKit Go.Gl Go.aF Mn
section
structure il(N:Nat->Prop)(W:World)(g:Nat)(bV:List (List Ev)):Prop where
 box:∃cur,W.heap[g]?=some (.cells cur 57 (0,0))/\bV.length<=cur.size/\∀(i:Nat)(xs:List Ev),bV[i]?=some xs->∃u,cur[i]?=some u/\Es N W u xs
section
variable{N:Nat→Prop}{W W':World}{g:Nat}{bV:List (List Ev)}
theorem il.get(b:il N W g bV){xs:List Ev}(d:bV[i]?=some xs):∃a c,W.cell? ⟨g,i,none⟩=some (.slice a xs.length c)/\Es N W (.slice a xs.length c) xs:=by obtain⟨e,e,_,f⟩:=b.box;obtain⟨u,g,b⟩:=f i xs d;obtain⟨a,c,rfl⟩:=b.slice;exact⟨a,c,by simp[World.cell?,e,g],b⟩
theorem il.kp(a:il N W g bV)(k:Kp N W W')(b:W'.heap[g]?=W.heap[g]?):il N W' g bV:=by obtain⟨c,d,e,f⟩:=a.box;exact⟨c,b.trans d,e,λi a b=>(f i a b).imp λu a=>⟨a.1,a.2.kp k⟩⟩
theorem il.lt(a:il N W g bV):g<W.heap.size:=by obtain⟨b,b,_⟩:=a.box;exact af b
theorem il.grow(a:il N W g bV)(b:Grow W W'):il N W' g bV:=a.kp (.bO b) (b.block g a.lt)
theorem il.set(a:il N W g bV)(e:¬N g)(hi:i<bV.length){xs:List Ev}(f:Es N W u xs):il N (W.setCell ⟨g,i,none⟩ u) g (bV.set i xs):=by
 obtain⟨h,j,k,l⟩:=a.box;have d:Kp N W (W.setCell ⟨g,i,none⟩ u):=⟨by simp,λb c _=>aN _ _ _ _ (λb=>by rw[b]at c;exact e c)⟩
 refine⟨h.setIfInBounds i u,Go.Gl.aK j i u,by simpa using k,λe g c=>?_⟩;by_cases b:e=i
 .subst b;rw[List.getElem?_set_self hi]at c;cases c;exact⟨u,Array.getElem?_setIfInBounds_self_of_lt (by omega),f.kp d⟩
 .rw[List.getElem?_set_ne (λa=>b a.symm)]at c;obtain⟨v,hv,f⟩:=l e g c;exact⟨v,by rw[Array.getElem?_setIfInBounds_ne (λa=>b a.symm)];exact hv,f.kp d⟩
theorem il.frozen(a:il N W g bV)(j:Nat):W.frozen? ⟨g,j,none⟩=false:=by obtain⟨b,b,_⟩:=a.box;simp[World.frozen?,b]
end
def ny(e:En):List Ev->List Ev
 | []=>[]
 |x::l=>if eB x.e e=0 then ny e l else x::l
theorem ara(e:En):∀l:List Ev,(ny e l).map Ev.e=nX e (l.map Ev.e)
 | []=>rfl
 |x::l=>by
  show(if eB x.e e=0 then ny e l else x::l).map Ev.e=if eB x.e e=0 then nX e (l.map Ev.e)else x.e::l.map Ev.e
  split
  .exact ara e l
  .rfl
theorem arb(e:En):∀l:List Ev,∀x∈ny e l,x∈l
 | [],x,h=>h
 |y::l,x,h=>by
  have a:x∈(if eB y.e e=0 then ny e l else y::l):=h
  split at a
  .exact fE _ (arb e l x a)
  .exact a
def Vu:Value->Nat
 | .slice _ n _=>n
 |_=>0
structure TgS(N:Nat->Prop)(w:World)(g:Nat)(bV:List (List Ev))(ys:List Ev)(rs:List (List Ev))(ov:Value)(W:World):Prop where
 lst:il N W g rs
 len:rs.length=bV.length
 row:cQ w.heap.size (λ_=>False) W ov ys
 mg:Bj (bV.map (List.map Ev.e)) (ys.map Ev.e) (rs.map (List.map Ev.e))
 gx:GX g w W
 sub:∀xs∈rs,∀x∈xs,x.e.val.length<=1000000000000
 cV:ys.length+(rs.map List.length).sum<=(bV.map List.length).sum
def KI(w0:World)(rs:List (List Ev))(bv a:Value)(W:World):Prop:=
 ∃i:Nat,a=.int .i64 (i:Int)/\i<=rs.length/\Grow w0 W/\((bv=.int .i64 (-1)/\∀(a:Nat) xs,a<i->rs[a]?=some xs->xs=[])\/
  ∃(b:Nat)(c:Ev)(t:List Ev),bv=.int .i64 (b:Int)/\b<i/\rs[b]?=some (c::t)/\∀(a:Nat) b t',a<i->rs[a]?=some (b::t')->¬fY b.e c.e)
theorem Es.head{N:Nat->Prop}{W:World}{a:Option Addr}{x:Ev}{t:List Ev}(d:Es N W (.slice a (x::t).length c) (x::t)):
  ∃b o xa xc,a=some ⟨b,o,none⟩/\b<W.heap.size/\x.v=.slice xa x.e.val.length xc/\lM N W x/\W.cell? ⟨b,o,none⟩=some (.string x.e.key)/\W.cell? ⟨b,o+1,none⟩=some (.int .u64 x.e.seq)/\W.cell? ⟨b,o+2,none⟩=some (.bool x.e.gone)/\W.cell? ⟨b,o+3,none⟩=some (.slice xa x.e.val.length xc):=by
 obtain⟨b,o,a,hv,_,h,g⟩:=d.addr (i:=0) rfl;cases hv;obtain⟨c,e,f,a⟩:=Cw g (i:=0) rfl;have g:=d.get (i:=0) rfl;obtain⟨xa,xc,d⟩:=g.slice;rw[d]at a;simp only[Nat.zero_mul,Nat.add_zero]at c e f a;exact⟨b,o,xa,xc,rfl,h,d,g,c,e,f,a⟩
end
def CuI(N:Nat->Prop)(a:World)(e:En)(xs:List Ev)(c:Value)(W:World):Prop:=
 ∃b,Es N a c b/\ny e b=ny e xs/\Grow a W
def CtI(N:Nat->Prop)(w0:World)(g:Nat)(e:En)(rs:List (List Ev))(a:Value)(W:World):Prop:=
 ∃i:Nat,a=.int .i64 (i:Int)/\i<=rs.length/\il N W g ((rs.take i).map (ny e)++rs.drop i)/\GX g w0 W
theorem Vv{x:Nat}:∀{l:List Nat},x∈l->x<=l.sum
 |y::l,h=>by
  rw[List.sum_cons];rcases bI.1 h with rfl|h
  .omega
  .have:=Vv h;omega
theorem ard{a:Type}{f:a->a}{l:List a}(hi:i<l.length):((l.take i).map f++l.drop i)[i]?=l[i]?:=by rw[xx (by simp;omega)];simp only[bA,List.length_take,List.getElem?_drop];congr 1;omega
theorem aIp{a:Type}{f:a->a}{l:List a}{x:a}(a:l[i]?=some x):((l.take i).map f++l.drop i).set i (f x)=(l.take (i+1)).map f++l.drop (i+1):=by
 have b:=(dW.1 a).1;have c:l.drop i=x::l.drop (i+1):=by rw[nA b];rw[ek b]at a;rw[bh a]
 rw[List.take_add_one,a,c,List.set_append_right _ _ (by simp;omega)];simp only[bA,List.length_take];rw[show i-min i l.length=0 by omega];simp
theorem aIq{rs:List (List Ev)}{i:Nat}(c:KI w0 rs bv (.int .i64 (i:Int)) W)(d:rs[i]?=some [])(j:Grow W W'):KI w0 rs bv (.int .i64 ((i+1:Nat):Int)) W':=by
 obtain⟨k,l,x,m,n⟩:=c;obtain rfl:i=k:=by have:=Value.int.inj l;omega
 have o:=(dW.1 d).1;refine⟨i+1,rfl,o,m.trans j,?_⟩;rcases n with⟨e,c⟩|⟨b,p,t,e,y,q,r⟩
 .refine .inl ⟨e,λa s u f=>?_⟩
  by_cases g:a=i
  .subst g;rw[d]at f;exact(bh f).symm
  .exact c a s (by omega) f
 .refine .inr ⟨b,p,t,e,by omega,q,λa v w u h=>?_⟩
  by_cases g:a=i
  .subst g;rw[d]at h;cases h
  .exact r a v w (by omega) h
theorem aIr{bV:List (List Ev)}(h:il N w g bV)(hN:∀b,N b->b<w.heap.size/\b≠g)(hlen:(bV.map List.length).sum<=1000000000)(hl2:bV.length<=1000000000)(hval:∀xs∈bV,∀x∈xs,x.e.val.length<=1000000000000)(ho:∀xs∈bV,cx (xs.map Ev.e))(hf:qQ (bV.map (List.map Ev.e)).flatten):
  Calls Tryz.prog 87 #[.slice (some ⟨g,0,none⟩) bV.length c] w λe w'=>∃v ys,e=.returned v/\SI (bV.map (List.map Ev.e)) (ys.map Ev.e)/\cQ w.heap.size (λ_=>False) w' v ys/\GX g w w':=by
 have hst:TgS N w g bV [] bV (.slice none 0 0) w:=⟨h,rfl,⟨jh _ _ _ _,λ_ h=>(by cases h)⟩,Bj.start (λl hl=>by obtain⟨xs,hx,rfl⟩:=aV.1 hl;exact ho xs hx),GX.refl _ _,hval,by simp⟩
 have bz:=ae hst;have HN:=ae hN;have Hb:=ae (ag hlen hl2);have Hf:=ae hf;have Hgl:=ae h.lt;clear h hN hlen hval ho hf hst;obtain⟨S,hS⟩:∃S,S=(bV.map List.length).sum:=⟨_,rfl⟩
 obtain⟨n,hn⟩:∃n,n=bV.length:=⟨_,rfl⟩
 rw[<-hn]at hl2 ⊢;have HS:=ae hS;have Hn:=ae hn;clear hS hn;go_enter Tryz.func87,Tryz.ntmps87
 go_wp2_with fail
 go_loopw [3] (λov wr=>∃ys rs,TgS N w g bV ys rs ov wr) (λov _=>S+1-Vu ov)
 case atStart=>exact⟨_,_,bz.out⟩
 case round=>
  clear bz;obtain⟨ys,rs,hs⟩:=hrel;have qG:rs.length=n:=hs.len.trans Hn.out.symm;obtain⟨w8,hw8⟩:∃W,W=wr:=⟨_,rfl⟩
  subst hw8;obtain⟨oa,oc,rfl⟩:=hs.row.slice;have Hs:=ae hs;have kx:KI w8 rs (.int .i64 (-1)) (.int .i64 0) w8:=⟨0,rfl,aY _,aW _,.inl ⟨rfl,λj xs hj=>by omega⟩⟩
  have EB:=ae kx;clear hs kx
  go_wp2_with fail
  go_loopw [4,12] (λbv iv W=>KI w8 rs bv iv W) (λ_ iv _=>n-(intOf iv).toNat)
  case atStart=>exact EB.out
  case round=>
   clear EB;have aR:=ae hrel;obtain⟨i,rfl,hi,hg,yO⟩:=hrel;by_cases hlt:i<rs.length
   .obtain⟨xs,hx⟩:∃xs,rs[i]?=some xs:=⟨_,ek hlt⟩
    have hl:=Hs.out.lst.grow hg;obtain⟨xa,xc,c0,hes⟩:=hl.get hx;have lg:=hl.lt;have eN:(i:Int)<(n:Int):=by omega
    have bU:(0:Int)<=(i:Int):=by omega
    have fT:IntKind.i64.wrap ((i:Int)+1)=((i+1:Nat):Int):=by rw[aQ _ (by omega)];omega
    have aU:=Grow.cells (w:=wr);have Hx:=ae hx;have Hg:=ae hg;have Hl:=ae hl;clear hg hl hx;cases xs with
    |nil=>
     clear yO hes
     go_upto_region 6 with fail
     refine cN (λV=>Below wr.heap.size wr V) [16] (by kernel_rfl) (bB λ_ _ _ _ _ h=>h) (by((repeat (first|exact bW _ _|assumption|refine cC ?_|refine cD ?_|refine cw ?_ ?_ _|refine cB ?_ ?_ _))<;>try (first|omega|(simp<;>omega)))) ?_;simp only[ct]
     repeat ((first|(apply az;rfl;rintro W hW;go_simp;with_reducible rfl)|(apply aA;rfl));simp only[ah,List.set])
     refine Ih (by rfl) (by((repeat (first|exact bW _ _|assumption|refine cC ?_|refine cD ?_|refine cw ?_ ?_ _|refine cB ?_ ?_ _))<;>try (first|omega|(simp<;>omega)))) ?_
     try simp only[ah,List.set,aC]
     repeat ((first|(apply az;rfl;rintro W hW;go_simp;with_reducible rfl)|(apply aA;rfl));simp only[ah,List.set])
     refine bg ?_;go_wp2;go_roundw
     case rel=>exact aIq aR.out Hx.out (ay _)
     case measure=>simp[intOf];omega
    |cons x t=>
     obtain⟨b0,o0,va,vc,rfl,hb0,cI,lO,d0,d1,d2,d3⟩:=hes.head;have gz:0<(x::t).length:=by simp
     generalize (x::t).length=m at c0 gz hes;rcases yO with⟨rfl,hnone⟩|⟨b,y,t',rfl,hbi,hby,KJ⟩
     .have fQ:Hid (∀W,Grow wr W->KI w8 rs (.int .i64 (i:Int)) (.int .i64 ((i+1:Nat):Int)) W):=ae (λW hW=>⟨i+1,rfl,hlt,Hg.out.trans hW,.inr ⟨i,x,t,rfl,by omega,Hx.out,λj y t' hj hy=>by
       by_cases iM:j=i
       .subst iM;rw[Hx.out]at hy;cases hy;exact Ac _
       .exact absurd (hnone j _ (by omega) hy) (by simp)⟩⟩)
      clear hnone hes lO cI
      go_upto_region 6 with fail
      refine cN (λV=>Below wr.heap.size wr V) [16] (by kernel_rfl) (bB λ_ _ _ _ _ h=>h) (by((repeat (first|exact bW _ _|assumption|refine cC ?_|refine cD ?_|refine cw ?_ ?_ _|refine cB ?_ ?_ _))<;>try (first|omega|(simp<;>omega)))) ?_;simp only[ct]
      repeat ((first|(apply az;rfl;rintro W hW;go_simp;with_reducible rfl)|(apply aA;rfl));simp only[ah,List.set])
      refine Ih (by rfl) (by((repeat (first|exact bW _ _|assumption|refine cC ?_|refine cD ?_|refine cw ?_ ?_ _|refine cB ?_ ?_ _))<;>try (first|omega|(simp<;>omega)))) ?_
      try simp only[ah,List.set,aC]
      repeat ((first|(apply az;rfl;rintro W hW;go_simp;with_reducible rfl)|(apply aA;rfl));simp only[ah,List.set])
      refine bg ?_;go_wp2;go_roundw
      case rel=>exact fQ.out _ (ay _)
      case measure=>simp[intOf];omega
     .obtain⟨ya,yc,e0,KL⟩:=Hl.out.get hby
      obtain⟨b1,o1,ua,uc,rfl,hb1,eZ,rZ,f0,f1,f2,f3⟩:=KL.head;have fR:0<(y::t').length:=by simp
      generalize (y::t').length=m' at e0 fR KL;have adi:=ae (Ug x y cI eZ);have hbn:¬(b:Int)<0:=by omega
      have yU:(0:Int)<=(b:Int):=by omega
      have hbl:(b:Int)<(n:Int):=by omega
      have fQ:Hid (∀W,Grow wr W->KI w8 rs (.int .i64 (if eB x.e y.e<0 then(i:Int)else(b:Int))) (.int .i64 ((i+1:Nat):Int)) W):=ae (λW hW=>⟨i+1,rfl,hlt,Hg.out.trans hW,.inr (by
       by_cases hc:eB x.e y.e<0
       .rw[if_pos hc]
        have hc':=(Ab _ _).1 hc;refine⟨i,x,t,rfl,by omega,Hx.out,λj z Vx hj hz PZ=>?_⟩;by_cases iM:j=i
        .subst iM;rw[Hx.out]at hz;cases hz;exact Ac _ PZ
        .exact KJ j z Vx (by omega) hz (Jj PZ hc')
       .rw[if_neg hc]
        refine⟨b,y,t',rfl,by omega,hby,λj z Vx hj hz PZ=>?_⟩;by_cases iM:j=i
        .subst iM;rw[Hx.out]at hz;cases hz;exact hc ((Ab _ _).2 PZ)
        .exact KJ j z Vx (by omega) hz PZ)⟩)
      generalize eB x.e y.e=cc at*;clear KJ hes KL lO rZ cI eZ hby hbi
      go_upto_region 6 with fail
      refine cN (λV=>Below wr.heap.size wr V) [16] (by kernel_rfl) (bB λ_ _ _ _ _ h=>h) (by((repeat (first|exact bW _ _|assumption|refine cC ?_|refine cD ?_|refine cw ?_ ?_ _|refine cB ?_ ?_ _))<;>try (first|omega|(simp<;>omega)))) ?_;simp only[ct]
      repeat ((first|(apply az;rfl;rintro W hW;go_simp;with_reducible rfl)|(apply aA;rfl));simp only[ah,List.set])
      clear d0 d1 d2 d3 f0 f1 f2 f3 e0;refine bw (by rfl) (by go_simp) (adi.out _) ?_;rintro e w2 ⟨rfl,hg2⟩;have hg3:=(ay wr).trans hg2;refine⟨_,rfl,hg3,?_⟩
      try simp only[ah,List.set,aC]
      have jo:=ae hg3;clear hg2 hg3;by_cases hcc:cc<0
      .rw[if_pos hcc]at fQ
       repeat ((first|(apply az;rfl;rintro W hW;go_simp;with_reducible rfl)|(apply aA;rfl));simp only[ah,List.set])
       refine bg ?_;go_wp2;go_roundw
       case rel=>exact fQ.out _ jo.out
       case measure=>simp[intOf];omega
      .rw[if_neg hcc]at fQ
       repeat ((first|(apply az;rfl;rintro W hW;go_simp;with_reducible rfl)|(apply aA;rfl));simp only[ah,List.set])
       refine bg ?_;go_wp2;go_roundw
       case rel=>exact fQ.out _ jo.out
       case measure=>simp[intOf];omega
   .obtain rfl:i=n:=by omega
    rcases yO with⟨rfl,hnone⟩|⟨b,x,t,rfl,hbi,dy,KJ⟩
    .have zj:=Hs.out.mg.done (λr hr=>by obtain⟨xs,dC,rfl⟩:=aV.1 hr;obtain⟨j,hj⟩:=List.mem_iff_getElem?.1 dC;rw[hnone j xs (by have:=(dW.1 hj).1;omega) hj];rfl);have cP:=ae (ag zj (ag (Hs.out.row.grow hg (λb hb=>hb.elim)) (Hs.out.gx.trans (GX.of hg))));clear zj hnone hg aR;go_wp2;go_ret;exact⟨_,ys,rfl,cP.out⟩
    .have hl:=Hs.out.lst.grow hg
     obtain⟨ya,yc,e0,hes⟩:=hl.get dy;obtain⟨b0,o0,va,vc,rfl,hb0,cI,lO,d0,d1,d2,d3⟩:=hes.head;have gz:0<(x::t).length:=by simp
     have hbn:¬(b:Int)<0:=by omega
     have yU:(0:Int)<=(b:Int):=by omega
     have hbl:(b:Int)<(i:Int):=by omega
     have lg:=hl.lt;have ai:=ar wr (.cells #[.string x.e.key,.int .u64 x.e.seq,.bool x.e.gone,.slice va x.e.val.length vc] 60);have dB:=ax wr (.cells #[.string x.e.key,.int .u64 x.e.seq,.bool x.e.gone,.slice va x.e.val.length vc] 60);have gL:x.e.val.length<=1000000000000:=Hs.out.sub (x::t) (dm dy) x (ej ..);have qp:cd x=#[.string x.e.key,.int .u64 x.e.seq,.bool x.e.gone,.slice va x.e.val.length vc]:=by rw[<-cI]
     have fC:=ae (aBb (lO.grow ai) gL);rw[qp]at fC;have Hl:=ae hl;have qK:=ae dy;have aIt:=ae KJ;have Hg:=ae hg;have ZJ:=ae cI;have hlt:ys.length+1<=S:=by have h1:=Hs.out.cV;have h2:(x::t).length<=(rs.map List.length).sum:=Vv (aV.2 ⟨_,dm dy,rfl⟩);have:=HS.out;omega
     have iy:=ae hlt;generalize (x::t).length=m at e0 gz hes;clear hl dy KJ hg qp hes lO gL aR hlt cI
     go_wp2_with fail
     obtain⟨eb,oo⟩:∃eb,eb=wr.heap.size:=⟨_,rfl⟩
     rw[<-oo]at dB ⊢;have Fi:=ae oo;clear oo d0 d1 d2 d3 e0 lg;generalize wr.alloc (.cells #[.string x.e.key,.int .u64 x.e.seq,.bool x.e.gone,.slice va x.e.val.length vc] 60)=w9 at*;(with_reducible refine fC.out.mono ?_);rintro e ix ⟨av,rfl,hown,qZ⟩;obtain⟨aa,ac,rfl⟩:=hown.slice;dsimp only[cd];have z1:=Hs.out.gx.size;have z2:=Hg.out.size;have z3:=ai.size;have z4:=qZ.size;have eZ:nU (λ_=>False) w.heap.size ix ⟨x.e,.slice aa x.e.val.length ac⟩:=⟨cE hown,.inr (λb hb=>.inr ⟨by have:=(hown.lt hb).1;omega,by obtain⟨cur,hc⟩:=hown.block hb;exact⟨cur,_,hc,rfl⟩⟩)⟩
     have mG:=Hs.out.row;have eu:=Hg.out.trans (ai.trans qZ);obtain⟨gb,JR,nV,hrun,hrow,hgr⟩:=NG (mG.grow eu (λb hb=>hb.elim)) eZ (λb hb=>hb.elim) (by omega) (by have:=HS.out;have:=Hb.out.1;have:=iy.out;omega);have fS:∀b,(Value.slice oa ys.length oc).ownBlock=some b->w.heap.size<=b/\b<w8.heap.size/\∃cur,w8.heap[b]?=some (.cells cur 60 (0,0)):=λb yU=>by obtain⟨h1,cur,h2⟩:=sg mG yU;exact⟨h1,af h2,cur,h2⟩
     have Vy:=Hl.out.grow (ai.trans qZ);have adj:il N nV g rs:=Vy.kp (Kp.grown hgr (λb yU hn=>by have:=(fS b yU).1;have:=(HN.out b hn).1;omega)) (hgr.block g Vy.lt (λe=>by obtain⟨_,_,cur,h2⟩:=fS g e.symm;obtain⟨cur',h3,_⟩:=Hs.out.lst.box;rw[h3]at h2;exact absurd (cp (bh h2)).2.1 (by decide)))
     have arf:nV.heap[eb]?=some (.cells #[.string x.e.key,.int .u64 x.e.seq,.bool x.e.gone,.slice va x.e.val.length vc] 60 (0,0)):=by rw[hgr.block eb (af (qZ.heap dB)) (λe=>by have:=(fS eb e.symm).2.1;have:=Fi.out;omega)];exact qZ.heap dB
     have arh:GX g w nV:=⟨hgr.os.trans (eu.os.trans Hs.out.gx.os),hgr.tape.trans (eu.tape.trans Hs.out.gx.tape),hgr.output.trans (eu.output.trans Hs.out.gx.output),by have:=hgr.size;omega,λk hk hne=>by have BW:=Hs.out.gx.block k hk hne;have hkw:=eu.block k (by omega);rw[hgr.block k (by omega) (λe=>by have:=(fS k e.symm).1;omega),hkw,BW]⟩
     have cU:=ae hrun;have pK:=ae hrow;have aIu:=ae arh;have aIv:=ae adj;have IV:Hid (CtI N nV g x.e rs (.int .i64 0) nV):=ae ⟨0,rfl,aY _,by simpa using adj,GX.refl _ _⟩;have arj:Hid (eb≠g/\nV.heap[eb]?=some (.cells #[.string x.e.key,.int .u64 x.e.seq,.bool x.e.gone,.slice va x.e.val.length vc] 60 (0,0))):=ae ⟨λe=>by have:=Vy.lt;have:=Hl.out.lt;have:=Fi.out;omega,arf⟩;clear hrun hrow arh adj Vy arf fS hgr eu mG eZ hown qZ ai dB fC z1 z2 z3 z4
     go_wp2_with (at_builtin;refine fP rfl rfl rfl rfl cU.out ?_)
     clear cU
     go_loopw [55] (λiv W=>CtI N nV g x.e rs iv W) (λiv _=>i-(intOf iv).toNat)
     case atStart=>exact IV.out
     case round=>
      clear IV;obtain⟨j,rfl,hj,jA,GM⟩:=hrel;obtain⟨lR,aIw⟩:∃W,W=wr:=⟨_,rfl⟩
      subst aIw;by_cases hlt:j<rs.length
      .obtain⟨xs,hx⟩:∃xs,rs[j]?=some xs:=⟨_,ek hlt⟩
       obtain⟨xa,xc,c0,hes⟩:=jA.get (i:=j) ((ard hlt).trans hx);have lg:=jA.lt;have eN:(j:Int)<(i:Int):=by omega
       have bU:(0:Int)<=(j:Int):=by omega
       have fT:IntKind.i64.wrap ((j:Int)+1)=((j+1:Nat):Int):=by rw[aQ _ (by omega)];omega
       have Da:Hid (CuI N lR x.e xs (.slice xa xs.length xc) lR):=ae ⟨xs,hes,rfl,aW _⟩;have ark:Hid (∀(W:World)(xs':List Ev)(u:Value),Es N lR u xs'->ny x.e xs'=ny x.e xs->ny x.e xs'=xs'->Grow lR W->CtI N nV g x.e rs (.int .i64 ((j+1:Nat):Int)) (W.setCell ⟨g,j,none⟩ u)):=ae (λW xs' u hu h1 h2 hW=>by refine⟨j+1,rfl,hlt,?_,(GM.trans (GX.of hW)).trans (Go.Gl.jB _ _ _ _)⟩;have h3:=(jA.grow hW).set (λhn=>(HN.out g hn).2 rfl) (i:=j) (by simp;omega) (hu.grow hW);rw[<-h2,h1,aIp hx]at h3;exact h3)
       have jq:Hid (∀W,Grow lR W->W.frozen? ⟨g,j,none⟩=false/\g<W.heap.size/\∃o,W.cell? ⟨g,j,none⟩=some o):=ae (λW hW=>⟨(jA.grow hW).frozen j,(jA.grow hW).lt,by obtain⟨a,c9,h,_⟩:=(jA.grow hW).get (i:=j) ((ard hlt).trans hx);exact⟨_,h⟩⟩)
       have aIx:Hid (lR.heap[eb]?=some (.cells #[.string x.e.key,.int .u64 x.e.seq,.bool x.e.gone,.slice va x.e.val.length vc] 60 (0,0))):=ae (GM.heap arj.out.2 arj.out.1);clear hes jA GM hx
       go_wp2_with fail
       clear c0 lg
       go_loopw [9] (λlv W=>CuI N lR x.e xs lv W) (λlv _=>Vu lv)
       case atStart=>exact Da.out
       case round=>
        clear Da;obtain⟨xs',hes,hcut,hgr⟩:=hrel;obtain⟨xa,xc,rfl⟩:=hes.slice;obtain⟨Vz,lX,ob,fS⟩:=jq.out _ (hgr.trans (ay wr));have aU:=Grow.cells (w:=wr);cases xs' with
        |nil=>
         have hrel:=ark.out wr.drew [] _ hes hcut rfl (hgr.trans (ay wr));have aR:=ae hrel;clear hrel hes
         go_upto_region 16 with fail
         refine cN (λV=>Below wr.heap.size wr V) [8] (by kernel_rfl) (bB λ_ _ _ _ _ h=>h) (by((repeat (first|exact bW _ _|assumption|refine cC ?_|refine cD ?_|refine cw ?_ ?_ _|refine cB ?_ ?_ _))<;>try (first|omega|(simp<;>omega)))) ?_;simp only[ct]
         repeat ((first|(apply az;rfl;rintro W hW;go_simp;with_reducible rfl)|(apply aA;rfl));simp only[ah,List.set])
         refine Ih (by rfl) (by((repeat (first|exact bW _ _|assumption|refine cC ?_|refine cD ?_|refine cw ?_ ?_ _|refine cB ?_ ?_ _))<;>try (first|omega|(simp<;>omega)))) ?_
         try simp only[ah,List.set,aC]
         repeat ((first|(apply az;rfl;rintro W hW;go_simp;with_reducible rfl)|(apply aA;rfl));simp only[ah,List.set])
         refine bg ?_;go_wp2;go_roundw
         case rel=>exact aR.out
         case measure=>simp[intOf];omega
        |cons y t'=>
         have KL:=hes.grow hgr;obtain⟨b1,o1,ua,uc,rfl,hb1,eZ,rZ,f0,f1,f2,f3⟩:=KL.head;have dy:=hgr.heap aIx.out;obtain⟨g0,g1,g2,g3⟩:=cX dy;have lbx:=af dy;have fR:0<(y::t').length:=by simp
         have adi:=ae (Ug y x eZ ZJ.out);obtain⟨a',ha'⟩:∃a':Option Addr,a'=some ⟨b1,o1,none⟩:=⟨_,rfl⟩
         have aIy:(y::t').length<=xc:=by obtain⟨⟨_,_,he,hc,_⟩,_⟩:=hes;cases he;exact hc
         have adk:=YD hes (i:=1) (j:=(y::t').length) (k:=xc) (by simp) (aw _) aIy (aw _);rw[List.take_of_length_le (by simp)]at adk;have AR:eB y.e x.e=0->ny x.e t'=ny x.e xs:=λh0=>by
          rw[<-hcut];show _=if eB y.e x.e=0 then ny x.e t' else y::t'
          rw[if_pos h0]
         have NH:eB y.e x.e≠0->ny x.e (y::t')=y::t':=λh0=>by show(if eB y.e x.e=0 then ny x.e t' else y::t')=_;rw[if_neg h0]
         have Hy1:=ae AR;have Hy2:=ae NH;have Dc:=ae hes;have EI:=ae hcut;have aIB:=ae adk;have gu:=ae hgr;have Hgf:=ae (ag Vz (ag lX fS));generalize eB y.e x.e=cc at*;generalize fL:(y::t').length=m' at*;clear KL eZ rZ AR NH hes hcut adk hgr Vz lX fS dy ha'
         go_upto_region 16 with fail
         refine cN (λV=>Below wr.heap.size wr V) [8] (by kernel_rfl) (bB λ_ _ _ _ _ h=>h) (by((repeat (first|exact bW _ _|assumption|refine cC ?_|refine cD ?_|refine cw ?_ ?_ _|refine cB ?_ ?_ _))<;>try (first|omega|(simp<;>omega)))) ?_;simp only[ct]
         repeat ((first|(apply az;rfl;rintro W hW;go_simp;with_reducible rfl)|(apply aA;rfl));simp only[ah,List.set])
         clear f0 f1 f2 f3 g0 g1 g2 g3;refine bw (by rfl) (by go_simp) (adi.out _) ?_;rintro e w2 ⟨rfl,hg2⟩;have hg3:=(ay wr).trans hg2;refine⟨_,rfl,hg3,?_⟩
         try simp only[ah,List.set,aC]
         have jo:=ae hg3;clear hg2 hg3;by_cases hcc:cc=0
         .subst hcc
          repeat ((first|(apply az;rfl;rintro W hW;go_simp;with_reducible rfl)|(apply aA;rfl));simp only[ah,List.set])
          refine bg ?_;have aPj:(1:Int)<=(m':Int):=by omega
          have alG:(m':Int)<=(xc:Int):=by omega
          go_wp2;go_roundw
          case rel=>exact⟨t',by have h:=aIB.out;simpa[Addr.add]using h,Hy1.out rfl,gu.out.trans jo.out⟩
          case measure=>simp[Vu];omega
         .have aPk:(cc==0)=false:=by simpa using hcc
          repeat ((first|(apply az;rfl;rintro W hW;go_simp;with_reducible rfl)|(apply aA;rfl));simp only[ah,List.set])
          refine bg ?_;obtain⟨Vz,lX,ob,fS⟩:=jq.out _ (gu.out.trans jo.out);have hrel:=ark.out w2 (y::t') _ Dc.out EI.out (Hy2.out hcc) (gu.out.trans jo.out);have aR:=ae hrel;clear hrel;go_wp2;go_roundw
          case rel=>exact aR.out
          case measure=>simp[intOf];omega
      .obtain rfl:j=i:=by omega
       have oP:(rs.take rs.length).map (ny x.e)++rs.drop rs.length=rs.map (ny x.e):=by simp
       rw[<-qG,oP]at jA;have hrow':cQ w.heap.size (λ_=>False) lR (.slice (some ⟨gb,0,none⟩) (ys.length+1) JR) (ys++[⟨x.e,.slice aa x.e.val.length ac⟩]):=pK.out.keep GM.size (λb hb=>hb.elim) (λb cur t f _ ht hc=>GM.heap hc (λe=>by
        obtain⟨cur',h1,_⟩:=aIv.out.box;rw[e,h1]at hc;have h9:=(cp (bh hc)).2.1;rcases ht with rfl|rfl
        .exact absurd h9 (by decide)
        .exact absurd h9 (by decide)))
       have fR:(rs.map (ny x.e)).map (List.map Ev.e)=(rs.map (List.map Ev.e)).map (nX x.e):=by rw[fh,fh];exact jf (λl _=>ara x.e l)
       have cM:∃r∈rs.map (List.map Ev.e),x.e∈r:=⟨_,aV.2 ⟨_,dm qK.out,rfl⟩,by simp⟩
       have zj:=Hs.out.mg.step Hf.out cM (λr hr z Vx hz=>by
        obtain⟨l,qO,rfl⟩:=aV.1 hr;obtain⟨k,hk⟩:=List.mem_iff_getElem?.1 qO;cases l with
        |nil=>cases hz
        |cons q l'=>cases hz;exact aIt.out k q l' (by have:=(dW.1 hk).1;omega) hk)
       have adl:=aIo (e:=x.e) (rs:=rs.map (List.map Ev.e)) ⟨t.map Ev.e,aV.2 ⟨_,dm qK.out,rfl⟩⟩;rw[<-fR]at adl zj;have lB:∀L:List (List Ev),(L.map (List.map Ev.e)).map List.length=L.map List.length:=λL=>by rw[fh];exact jf (λl _=>by simp)
       rw[lB,lB]at adl;have fQ:TgS N w g bV (ys++[⟨x.e,.slice aa x.e.val.length ac⟩]) (rs.map (ny x.e)) (.slice (some ⟨gb,0,none⟩) (ys.length+1) JR) lR:=⟨jA,by rw[bA];exact Hs.out.len,hrow',by rw[dS];exact zj,aIu.out.trans GM,λxs dC z hz=>by
        obtain⟨l,qO,rfl⟩:=aV.1 dC;exact Hs.out.sub l qO z (arb _ _ z hz),by
        have h1:=Hs.out.cV;rw[aM,List.length_singleton];omega⟩
       have kX:=ae fQ;clear fQ adl lB zj cM fR hrow' jA GM oP;go_wp2;go_roundw
       case rel=>exact⟨_,_,kX.out⟩
       case measure=>simp[Vu];have:=iy.out;omega
section
theorem Tryz.arl:(Tryz.prog.info? 57).map (λi=>(i.zero,i.size,i.bytes))=some (some (.slice none 0 0),1,24):=by kernel_rfl
section
variable{N:Nat→Prop}{W w:World}{g:Nat}{bV:List (List Ev)}
theorem il.ofRow{a:List Value}(j:Go.Gl.Row1 57 B W (.slice (some ⟨g,0,none⟩) a.length cap) a)(k:a.length=bV.length)(l:∀(i:Nat)(u:Value)(xs:List Ev),a[i]?=some u->bV[i]?=some xs->Es N W u xs):il N W g bV:=by
 rcases j with⟨c,_⟩|⟨o,p,b,c,_,m,q,r,_,n⟩
 .cases c
 .cases c
  have s:b.toList.length=b.size:=ia;refine⟨b,m,by omega,λi xs d=>?_⟩;have e:i<a.length:=by rw[k];exact(dW.1 d).1
  have f:(b.toList.take a.length)[i]?=a[i]?:=by rw[n]
  rw[List.getElem?_take,if_pos e,Array.getElem?_toList]at f;have h:=ek e;exact⟨_,f.trans h,l i _ xs h d⟩
theorem il.vals(d:il N W g bV):∃a:List Value,a.length=bV.length/\(∀(i:Nat) u,a[i]?=some u->W.cell? ⟨g,i,none⟩=some u)/\(∀(i:Nat)(u:Value)(xs:List Ev),a[i]?=some u->bV[i]?=some xs->Es N W u xs)/\∀u∈a,u.oneCell'=true:=by
 obtain⟨b,f,a,e⟩:=d.box;have a:b.toList.length=b.size:=ia;have d:∀i u,(b.toList.take bV.length)[i]?=some u->b[i]?=some u/\i<bV.length:=λi u a=>by
  rw[List.getElem?_take]at a
  split at a
  .rw[Array.getElem?_toList]at a;exact⟨a,by assumption⟩
  .cases a
 refine⟨b.toList.take bV.length,by rw[List.length_take];omega,λi u a=>?_,λi u xs a g=>?_,λu a=>?_⟩
 .simp[World.cell?,f,(d i u a).1]
 .obtain⟨v,hv,b⟩:=e i xs g;rw[(d i u a).1]at hv;cases hv;exact b
 .obtain⟨i,f⟩:=List.mem_iff_getElem?.1 a;obtain⟨a,g⟩:=d i u f;obtain⟨v,hv,b⟩:=e i _ (ek g);rw[a]at hv;cases hv;obtain⟨a,c,rfl⟩:=b.slice;rfl
theorem aIC(n:il N w g bV)(x:∀b,N b->b<w.heap.size)(a:bV.length<=1000000):
  Calls Tryz.prog 88 #[.slice (some ⟨g,0,none⟩) bV.length c] w λe w'=>∃a d,e=.returned (.slice (some ⟨a,0,none⟩) bV.length d)/\w.heap.size<=a/\il N w' a bV/\Grow w w':=by
 have f:Grow w (w.alloc (.cells #[] 57)):=ar _ _;obtain⟨h,j,o,p,q⟩:=(n.grow f).vals;have k:Go.Gl.Row1 57 w.heap.size (w.alloc (.cells #[] 57)) (.slice (some ⟨w.heap.size,0,none⟩) 0 0) []:=.inr ⟨w.heap.size,0,#[],rfl,aw _,ax _ _,aw _,aw _,aY _,rfl⟩;have r:Src Tryz.prog 1 116 (.slice (some ⟨g,0,none⟩) bV.length c) bV.length h (w.alloc (.cells #[] 57)):=
  Src.ofSlice _ Tryz.underlying116 ⟨g,0,none⟩ bV.length c h (by omega) (λc u g=>by rw[Addr.add_lit,Nat.zero_add];exact o c u g) q
 obtain⟨e,w',s,c,l,m⟩:=zx (ty:=116) Tryz.underlying116 Tryz.arl rfl k r (by simp) (by simp;unfold maxLen;omega) (by simp;omega);rw[iK]at c;have t:Grow w w':=Go.Gl.below_grown f (by simp) k l;have v:∃a d,e=.slice (some ⟨a,0,none⟩) bV.length d/\w.heap.size<=a/\il N w' a bV:=by
  have y:∀(i:Nat)(u:Value)(e:List Ev),h[i]?=some u->bV[i]?=some e->Es N w' u e:=λi u e g h=>by exact(p i u e g h).kp (Kp.grown l (λb h g=>by have e:=x b g;have g:w.heap.size=b:=bh h;omega))
  rcases id c with⟨b,_⟩|⟨a,d,h,rfl,i,_⟩
  .rw[b]at m;rcases m with h|h<;>cases h
  .rw[<-j];exact⟨a,d,rfl,i,il.ofRow c j y⟩
 have h:=ae s;have i:=ae v;have u:=ae t;have b:=@Lib.run_eql_slice_nil Tryz.prog;clear s c l t k f r o p q j v n m;go_enter Tryz.func88,Tryz.ntmps88
 go_wp2_with (at_builtin;refine fP rfl rfl rfl rfl h.out ?_)
 obtain⟨a,d,rfl,e,g⟩:=i.out;go_ret;exact⟨a,d,rfl,e,g,u.out⟩
end
theorem aID{N:Nat->Prop}{w:World}{g:Nat}{bV:List (List Ev)}(h:il N w g bV)(hN:∀b,N b->b<w.heap.size)(hlen:(bV.map List.length).sum<=1000000000)(hl2:bV.length<=1000000)(hval:∀xs∈bV,∀x∈xs,x.e.val.length<=1000000000000)(ho:∀xs∈bV,cx (xs.map Ev.e))(jE:∀xs∈bV,Ai (xs.map Ev.e))(hf:qQ (bV.map (List.map Ev.e)).flatten):
  Calls Tryz.prog 47 #[.slice (some ⟨g,0,none⟩) bV.length c] w λe w'=>∃v ys,e=.returned (.tuple #[v,.int .i64 0])/\SI (bV.map (List.map Ev.e)) (ys.map Ev.e)/\cQ w.heap.size (λ_=>False) w' v ys/\Grow w w':=by
 have gC:=ae (λW (hg:Grow w W)=>aIC (h.grow hg) (λb hb=>bF (hN b hb) hg.size) (c:=c) hl2);have Htg:=ae (λ(W:World)(g' c':Nat)(hs:w.heap.size<=g')(hW:Grow w W)(h':il N W g' bV)=>aIr (c:=c') h' (λb hb=>by have:=hN b hb;have:=hW.size;exact⟨by omega,by omega⟩) hlen (by omega) hval ho hf);have Hr:=ae (ag hlen (ag ho jE));have H:=ae h;obtain⟨n,hn⟩:∃n,n=bV.length:=⟨_,rfl⟩
 rw[<-hn]at gC Htg hl2 ⊢;have Hn:=ae hn;clear h hN hlen hval ho jE hf hn;go_enter Tryz.func47,Tryz.ntmps47
 go_wp2_with fail
 go_loopw [8] (λiv wr=>∃i:Nat,iv=.int .i64 (i:Int)/\i<=n/\Grow w wr) (λiv _=>n-(intOf iv).toNat)
 case atStart=>exact⟨0,rfl,aY _,aW _⟩
 case round=>
  obtain⟨i,rfl,hi,hg⟩:=hrel;by_cases hlt:i<n
  .obtain⟨xs,hx⟩:∃xs,bV[i]?=some xs:=⟨_,ek (by have:=Hn.out;omega)⟩
   have hm:=dm hx;have hl:=H.out.grow hg;obtain⟨xa,xc,c0,hes⟩:=hl.get hx;have lg:=hl.lt;have hri:=ZB hes (by have h1:xs.length<=(bV.map List.length).sum:=Vv (aV.2 ⟨_,hm,rfl⟩);have:=Hr.out.1;omega) (Hr.out.2.1 xs hm) (Hr.out.2.2 xs hm);have VA:=ae hri;have Hg:=ae hg;have eN:(i:Int)<(n:Int):=by omega
   have bU:(0:Int)<=(i:Int):=by omega
   have fT:IntKind.i64.wrap ((i:Int)+1)=((i+1:Nat):Int):=by rw[aQ _ (by omega)];omega
   clear hl hes hri hg hm hx
   go_wp2_with fail
   (with_reducible refine VA.out.mono ?_);rintro e w2 ⟨rfl,hg2⟩;have eG:=ae hg2;clear hg2 c0 lg;go_wp2;go_roundw
   case rel=>exact⟨i+1,rfl,hlt,Hg.out.trans eG.out⟩
   case measure=>simp[intOf];omega
  .obtain rfl:i=n:=by omega
   have arp:=ae (gC.out wr hg);have Hg:=ae hg;clear hg
   go_wp2_with fail
   (with_reducible refine arp.out.mono ?_);rintro e w2 ⟨g',c',rfl,fj,hes,hg2⟩;have eu:=Hg.out.trans hg2;have hB:w.heap.size<=g':=aJ Hg.out.size fj;have arq:=ae (Htg.out w2 g' c' hB eu hes);have Cr:=ae (ag eu hB);clear hes hg2 eu fj arp
   go_wp2_with fail
   (with_reducible refine arq.out.mono ?_);rintro e w3 ⟨v,ys,rfl,hm,hrow,hgx⟩;obtain⟨va,vc,rfl⟩:=hrow.slice;have fI:Grow w w3:=Cr.out.1.grown hgx Cr.out.1.size (λk e=>by cases e;exact Cr.out.2);have cP:=ae (ag hm (ag (hrow.mono Cr.out.1.size) fI));clear hm hrow hgx fI arq;go_wp2;refine bodyPost_ret (v:=.tuple #[.slice va ys.length vc,.int .i64 0]) ?_ rfl ?_
   .simp[results,Tryz.results47,go_sem]
   .exact⟨_,ys,rfl,cP.out⟩
end
end Go.Proofs.YtoolkdapflaeeaaGreatDoor
namespace Go.Proofs.YtoolkdapflaeeaaGreatDoor
open Go.RowKit Go.Gl Mn
theorem adm{a b:En}(c:fY a b):a.key.data.toList<=b.key.data.toList:=by
 rcases c with c|⟨c,_⟩
 .exact List.le_of_lt c
 .rw[c];exact List.le_refl _
def nY(ok:En->Bool):Option ByteArray->List En->List En
 |_,[]=>[]
 |lst,e::l=>if lst≠some e.key/\ok e=true then e::nY ok (some e.key) l else nY ok (some e.key) l
theorem adn(ok:En->Bool):∀(l:List En)(lst:Option ByteArray),(nY ok lst l).Sublist l
 | [],_=>List.Sublist.slnil
 |e::l,lst=>by
  unfold nY;split
  .exact(adn ok l _).cons_cons e
  .exact(adn ok l _).cons e
theorem ado{ok:En->Bool}:∀{M:List En}{lst:Option ByteArray},cx M->(∀k,lst=some k->∀e∈M,k.data.toList<=e.key.data.toList)->∀e,e∈nY ok lst M↔e∈M/\ok e=true/\lst≠some e.key/\∀x∈M,x.key=e.key->x.seq<=e.seq
 | [],_,_,_,e=>by simp[nY]
 |y::t,lst,ho,hl,e=>by
  have f:=uN.1 ho;have a:=ado (ok:=ok) (lst:=some y.key) f.2 (λk d x c=>by cases d;exact adm (f.1 x c)) e;have j:e∈nY ok (some y.key) t↔e∈t/\ok e=true/\lst≠some e.key/\∀x∈y::t,x.key=e.key->x.seq<=e.seq:=by
   rw[a];constructor
   .rintro⟨a,b,i,g⟩
    refine⟨a,b,λd=>?_,λx c h=>?_⟩
    .have k:=hl _ d y (ej ..);exact i (by rw[Cu (List.le_antisymm (adm (f.1 e a)) k)])
    .rcases bI.1 c with rfl|c
     .exact absurd (by rw[h]) i
     .exact g x c h
   .rintro⟨a,b,i,g⟩
    refine⟨a,b,λd=>?_,λx c=>g x (fE _ c)⟩;have i:y.key=e.key:=bh d;have k:=g y (ej ..) i;rcases f.1 e a with d|⟨_,d⟩
    .rw[i]at d;exact List.lt_irrefl _ d
    .omega
  have g:e=y->(∀x∈y::t,x.key=e.key->x.seq<=e.seq):=λe x c h=>by
   subst e;rcases bI.1 c with rfl|c
   .exact aw _
   .rcases f.1 x c with d|⟨_,d⟩
    .rw[h]at d;exact absurd d (List.lt_irrefl _)
    .omega
  unfold nY;by_cases c:lst≠some y.key/\ok y=true
  .rw[if_pos c,bI,j,bI]
   constructor
   .rintro(rfl|⟨a,b⟩)
    .exact⟨.inl rfl,c.2,c.1,g rfl⟩
    .exact⟨.inr a,b⟩
   .rintro⟨a|a,b⟩
    .exact .inl a
    .exact .inr ⟨a,b⟩
  .rw[if_neg c,j,bI]
   constructor
   .rintro⟨a,b⟩;exact⟨.inr a,b⟩
   .rintro⟨a|a,b⟩
    .subst a;exact absurd ⟨b.2.1,b.1⟩ c
    .exact⟨a,b⟩
theorem aIE{ok:En->Bool}{M:List En}(a:cx M):(nY ok none M).Pairwise aaz:=by
 have e:cx (nY ok none M):=List.Pairwise.sublist (adn ok M none) a;have c:=ado (ok:=ok) (lst:=none) a (λa a=>by cases a);refine List.Pairwise.imp_of_mem (λ{d b} f g a=>?_) e;rcases a with a|⟨a,h2⟩
 .exact a
 .have:=((c b).1 g).2.2.2 d ((c d).1 f).1 a;omega
theorem ars:∀{p x y:List UInt8},p<=x->x<=y->p.isPrefixOf y=true->p.isPrefixOf x=true
 | [],_,_,_,_,_=>by simp
 |c::p,[],_,h,_,_=>absurd h (by simp)
 |c::p,d::x,[],_,h,_=>absurd h (by simp)
 |c::p,d::x,e::y,b,a,f=>by
  rw[List.isPrefixOf_cons_cons,Bool.and_eq_true,beq_iff_eq]at f;obtain⟨rfl,f⟩:=f;rw[List.cons_le_cons_iff]at b a;rw[List.isPrefixOf_cons_cons,Bool.and_eq_true,beq_iff_eq];rcases b with b|⟨rfl,b⟩
  .rcases a with a|⟨rfl,a⟩
   .exact absurd (UInt8.lt_trans b a) (UInt8.lt_irrefl _)
   .exact absurd b (UInt8.lt_irrefl _)
  .rcases a with a|⟨_,a⟩
   .exact absurd a (UInt8.lt_irrefl _)
   .exact⟨rfl,ars b a f⟩
theorem art:∀{p x:List UInt8},p.isPrefixOf x=true->p<=x
 | [],_,_=>by simp
 |c::p,[],h=>by simp at h
 |c::p,d::x,h=>by rw[List.isPrefixOf_cons_cons,Bool.and_eq_true,beq_iff_eq]at h;rw[List.cons_le_cons_iff];exact .inr ⟨h.1,art h.2⟩
def Dv(p:ByteArray)(e:En):Bool:=Lib.hasPrefix e.key.data.toList p.data.toList|| !(decide (p.data.toList<e.key.data.toList))
def pG(p:ByteArray)(m:ByteArray)(l:List En):List En:=(eI (spot m 18446744073709551615) l).takeWhile (Dv p)
theorem VB(p m:ByteArray)(l:List En):(pG p m l).Sublist l:=(List.takeWhile_sublist _).trans (List.dropWhile_sublist _)
theorem aru{b:Type}{f:b->Bool}{x:b}:∀{l:List b},x∈l.takeWhile f->f x=true
 |a::l,h=>by
  rw[List.takeWhile_cons]at h
  split at h
  .rename_i a
   rcases bI.1 h with rfl|h
   .exact a
   .exact aru h
  .cases h
theorem arv{f:En->Bool}{x:En}:∀{l:List En},cx l->x∈l->(∀y∈l,y=x\/fY y x->f y=true)->x∈l.takeWhile f
 | [],_,h,_=>by cases h
 |a::l,ho,h,hf=>by
  have b:=uN.1 ho;have c:f a=true:=hf a (ej ..) (by
   rcases bI.1 h with rfl|h
   .exact .inl rfl
   .exact .inr (b.1 x h))
  rw[List.takeWhile_cons,if_pos c];rcases bI.1 h with rfl|h
  .exact ej ..
  .exact fE _ (arv b.2 h (λy a=>hf y (fE _ a)))
theorem arw{p m:ByteArray}(h:p.data.toList<=m.data.toList){l:List En}(b:cx l)(j:∀e∈l,e.seq<=18446744073709551615)(e:En):e∈pG p m l↔e∈l/\m.data.toList<=e.key.data.toList/\Lib.hasPrefix e.key.data.toList p.data.toList=true:=by
 have c:=uO (spot m 18446744073709551615) l;have k:=MR (x:=spot m 18446744073709551615) (l:=l);have d:=ES (x:=spot m 18446744073709551615) b;have n:=(Ss (x:=spot m 18446744073709551615) b).2.1;have o:e∈l↔e∈gM (spot m 18446744073709551615) l\/e∈eI (spot m 18446744073709551615) l:=by have b:=dn (a:=e) (s:=gM (spot m 18446744073709551615) l) (t:=eI (spot m 18446744073709551615) l);rwa[c]at b
 have c:∀x∈eI (spot m 18446744073709551615) l,x∈l:=λx a=>(List.dropWhile_sublist _).mem a
 have i:∀x∈eI (spot m 18446744073709551615) l,m.data.toList<=x.key.data.toList:=λx a=>by have b:=d x a;exact List.not_lt.1 (λa=>b (.inl a))
 unfold pG;constructor
 .intro f
  have b:=(List.takeWhile_sublist _).mem f;have a:=aru f;have g:=i e b;refine⟨c e b,g,?_⟩;unfold Dv at a;rw[Bool.or_eq_true]at a;rcases a with a|a
  .exact a
  .have c:¬p.data.toList<e.key.data.toList:=by simpa using a
   have d:=List.le_antisymm (List.le_trans h g) (List.not_lt.1 c);unfold Lib.hasPrefix;rw[<-d];exact List.isPrefixOf_iff_prefix.2 (List.prefix_refl _)
 .rintro⟨b,a,g⟩
  have p:e∈eI (spot m 18446744073709551615) l:=by
   rcases o.1 b with c|c
   .have d:=k e c
    rcases d with d|⟨_,d⟩
    .exact absurd d (List.not_lt.2 a)
    .have:=j e b;simp only at d;omega
   .exact c
  refine arv n p (λa b d=>?_);have c:a.key.data.toList<=e.key.data.toList:=by
   rcases d with rfl|f
   .exact List.le_refl _
   .exact adm f
  unfold Dv;rw[Bool.or_eq_true];exact .inl (ars (List.le_trans h (i a b)) c g)
structure GN(L:List En)(p a:ByteArray)(R:List En):Prop where
 keys:R.Pairwise aaz
 mem:∀e,e∈R↔eP e.key 18446744073709551615 L=some e/\e.gone=false/\a.data.toList<e.key.data.toList/\Lib.hasPrefix e.key.data.toList p.data.toList=true
def zk(p a:ByteArray)(e:En):Bool:=(!e.gone)&&decide (a.data.toList<e.key.data.toList)&&Lib.hasPrefix e.key.data.toList p.data.toList
theorem aIH{ls:List (List En)}{L M:List En}{p a m:ByteArray}(s:qQ L)(k:∀e,e∈L↔∃l∈ls,e∈l)(q:∀l∈ls,cx l)(i:∀e∈L,e.seq<=18446744073709551615)(r:p.data.toList<=m.data.toList)(b:a.data.toList<=m.data.toList)(t:m=p\/m=a)(n:SI (ls.map (pG p m)) M):GN L p a (nY (zk p a) none M):=by
 refine⟨aIE n.1,λe=>?_⟩;have j:∀b,b∈M↔b∈L/\m.data.toList<=b.key.data.toList/\Lib.hasPrefix b.key.data.toList p.data.toList=true:=λb=>by
  rw[n.2,k];constructor
  .rintro⟨c,f,c⟩;obtain⟨l,d,rfl⟩:=aV.1 f;have f:=(arw r (q l d) (λg o=>i g ((k g).2 ⟨l,d,o⟩)) b).1 c;exact⟨⟨l,d,f.1⟩,f.2⟩
  .rintro⟨⟨l,d,c⟩,h⟩;exact⟨_,aV.2 ⟨l,d,rfl⟩,(arw r (q l d) (λg o=>i g ((k g).2 ⟨l,d,o⟩)) b).2 ⟨c,h⟩⟩
 have d:zk p a e=true↔e.gone=false/\a.data.toList<e.key.data.toList/\Lib.hasPrefix e.key.data.toList p.data.toList=true:=by unfold zk;rw[Bool.and_eq_true,Bool.and_eq_true,decide_eq_true_eq];cases e.gone<;>simp
 rw[ado n.1 (λa a=>by cases a),j,d];constructor
 .rintro⟨⟨f,h,d⟩,a,_,k⟩
  refine⟨Jk s f ⟨rfl,i e f⟩ (λb c g=>?_),a⟩;refine k b ((j b).2 ⟨c,?_,?_⟩) g.1
  .rw[g.1];exact h
  .rw[g.1];exact d
 .rintro⟨f,h,d,a⟩
  obtain⟨g,k,k⟩:=Cx f;have f:m.data.toList<=e.key.data.toList:=by
   rcases t with rfl|rfl
   .exact art a
   .exact List.le_of_lt d
  exact⟨⟨g,f,a⟩,⟨h,d,a⟩,(λa=>by cases a),λb c a=>k b ((j b).1 c).1 ⟨a,i b ((j b).1 c).1⟩⟩
end Go.Proofs.YtoolkdapflaeeaaGreatDoor
namespace Go.Proofs.YtoolkdapflaeeaaGreatDoor
open Go.RowKit Go.Gl Go.aF Mn
def adp(N:Nat->Prop)(w:World)(l:List En)(e:Ending)(w':World)(gf:Nat):Prop:=
 ∃(a:Nat)(b:List Ev)(v:Value),e=.returned (.func (.func gf) #[] #[.pointer (some ⟨a,0,none⟩)])/\w.heap.size<=a/\w'.heap[a]?=some (.cells #[v] 57 (0,0))/\b.map Ev.e=l/\Es N w' v b/\Grow w w'
theorem aII{l:List En}(a:rp N w tb l)(key:ByteArray):
  Calls Tryz.prog 105 #[.pointer (some ⟨tb,0,none⟩),.string key] w λe w'=>adp N w (eI (spot key 18446744073709551615) l) e w' 155:=by
 have b:=λW (f:Grow w W)=>amQ (a.kp (.bO f)) key (up:=18446744073709551615)
 rw[amR];have c:=aaV (spot key 18446744073709551615) l;have q:∀W,Grow w W->Calls Tryz.prog 154 #[.pointer (some ⟨tb,0,none⟩),.string key,.int .u64 18446744073709551615] W λe w'=>e=.returned (.int .i64 ((gM (spot key 18446744073709551615) l).length:Nat))/\Grow W w':=b
 clear b;generalize (gM (spot key 18446744073709551615) l).length=i at*;obtain⟨v,b,b,b,n,o,h⟩:=a.cells;have s:b.length=l.length:=by rw[<-o,bA]
 obtain⟨d,c,rfl⟩:=h.slice;have r:b.length<=c:=by obtain⟨⟨_,_,g,m,_⟩,_⟩:=h;cases g;exact m
 have m:=YD h (i:=i) (j:=b.length) (k:=c) (by omega) (aw _) r (aw _);rw[List.take_of_length_le (by simp)]at m;obtain⟨g,j⟩:∃g,(if c=i then d else d.map (λk=>k.add (i*4)))=g:=⟨_,rfl⟩
 rw[j]at m;have j:w.cell? ⟨tb,0,none⟩=some (.slice d b.length c):=by simp[World.cell?,n]
 have d:=af n;have d:=Grow.cells (w:=w);have d:(0:Int)<=(i:Int):=by omega
 have d:(i:Int)<=(b.length:Int):=by omega
 have d:(b.length:Int)<=(c:Int):=by omega
 have u:=ae q;have j:∀(W W':World)(d:Nat),Grow w W->w.heap.size<=d->W.heap[d]?=some (.cells #[.slice g (b.length-i) (c-i)] 57 (0,0))->adp N w (l.drop i) (.returned (.func (.func 155) #[] #[.pointer (some ⟨d,0,none⟩)])) W 155:=λW _ d f k l=>
  ⟨d,b.drop i,_,rfl,k,l,by rw[List.map_drop,o],m.grow f,f⟩
 have v:=ae j;clear a n o h q m s j r;go_enter Tryz.func105,Tryz.ntmps105
 go_upto_region 1 with fail
 refine Zh (λd=>Below w.heap.size w d) [(0,false),(1,false),(2,false),(3,false),(4,false),(5,false)] 6 8 [(7,false),(8,true),(9,true)] [(6,true),(7,false),(9,true)] (by kernel_rfl) (by kernel_rfl) (bB λ_ _ _ _ _ a=>a) (by((repeat (first|exact bW _ _|assumption|refine cC ?_|refine cD ?_|refine cw ?_ ?_ _|refine cB ?_ ?_ _))<;>try (first|omega|(simp<;>omega)))) ?_;simp only[cm,nth]
 repeat ((first|(apply az;rfl;rintro W x;go_simp;with_reducible rfl)|(apply aA;rfl));simp only[ah,List.set])
 have q:=ay w;refine bg (Zi ?_ ?_)
 .simp only[cm,nth]
  refine bw (by rfl) (by go_simp) (u.out w.drew q) ?_;rintro e a ⟨rfl,m⟩;have h:=q.trans m;refine⟨_,rfl,h,?_⟩
  try simp only[ah,List.set,aC]
  repeat ((first|(apply az;rfl;rintro W x;go_simp;with_reducible rfl)|(apply aA;rfl));simp only[ah,List.set])
  have j:=ar a (.cells #[.slice none 0 0] 57);have d:=ax a (.cells #[.slice none 0 0] 57);refine fK (by rfl) (λK f=>?_);go_simp;refine f _ _ ⟨h.trans j,?_⟩;clear f K
  try simp only[ah,List.set,aC]
  have y:(a.alloc (.cells #[.slice none 0 0] 57)).frozen? ⟨a.heap.size,0,none⟩=false:=by unfold World.frozen?;rw[d];rfl
  have z:(a.alloc (.cells #[.slice none 0 0] 57)).cell? ⟨a.heap.size,0,none⟩=some (.slice none 0 0):=by unfold World.cell?;rw[d];rfl
  have A:=af d;obtain⟨n,k⟩:∃W,a.alloc (.cells #[.slice none 0 0] 57)=W:=⟨_,rfl⟩
  rw[k]at y z A d j ⊢;have r:=Go.Gl.aK d 0 (.slice g (b.length-i) (c-i));have s:w.heap.size<=a.heap.size:=h.size;have l:Below w.heap.size w (n.setCell ⟨a.heap.size,0,none⟩ (.slice g (b.length-i) (c-i))):=(h.trans j).setCell (p:=⟨a.heap.size,0,none⟩) s _;refine fK (by rfl) (λK f=>?_);go_simp;refine f _ _ ⟨l,?_⟩;clear f K
  try simp only[ah,List.set,aC]
  refine bg ?_;have t:=ae (v.out _ (n.setCell ⟨a.heap.size,0,none⟩ (.slice g (b.length-i) (c-i))) a.heap.size l s r);clear r l d j k h m q;go_wp2;go_ret;exact t.out
 .simp only[cm,nth]
  have j:=ar w.drew (.cells #[.slice none 0 0] 57);have d:=ax w.drew (.cells #[.slice none 0 0] 57);have o:=q.trans j;refine fK (by rfl) (λK f=>?_);go_simp;refine f _ _ ⟨o,?_⟩;clear f K
  try simp only[ah,List.set,aC]
  obtain⟨n,k⟩:∃W,(w.alloc (.cells #[.slice none 0 0] 57)).drew=W:=⟨_,rfl⟩
  replace d:n.heap[w.heap.size]?=some (.cells #[.slice none 0 0] 57 (0,0)):=by rw[<-k];exact d
  replace o:Grow w n:=by rw[<-k];exact o
  rw[k];refine bw (by rfl) (by go_simp) (u.out n o) ?_;rintro e a ⟨rfl,m⟩;have h:=o.trans m;refine⟨_,rfl,h,?_⟩
  try simp only[ah,List.set,aC]
  repeat ((first|(apply az;rfl;rintro W x;go_simp;with_reducible rfl)|(apply aA;rfl));simp only[ah,List.set])
  have e:=m.heap d;have y:a.frozen? ⟨w.heap.size,0,none⟩=false:=by unfold World.frozen?;rw[e];rfl
  have z:a.cell? ⟨w.heap.size,0,none⟩=some (.slice none 0 0):=by unfold World.cell?;rw[e];rfl
  have A:=af e;have r:=Go.Gl.aK e 0 (.slice g (b.length-i) (c-i));have s:w.heap.size<=w.heap.size:=aw _;have l:Below w.heap.size w (a.setCell ⟨w.heap.size,0,none⟩ (.slice g (b.length-i) (c-i))):=h.setCell (p:=⟨w.heap.size,0,none⟩) s _;refine fK (by rfl) (λK f=>?_);go_simp;refine f _ _ ⟨l,?_⟩;clear f K
  try simp only[ah,List.set,aC]
  refine bg ?_;have t:=ae (v.out _ (a.setCell ⟨w.heap.size,0,none⟩ (.slice g (b.length-i) (c-i))) w.heap.size l s r);clear r l d e j k h m q o;go_wp2;go_ret;exact t.out
theorem Tryz.aIJ(v:Value)(w:World):(method 492 89 v "From").run Tryz.prog w=.ok (124,v) w:=by kernel_rfl
theorem Tryz.aIK(v:Value)(w:World):(method 492 143 v "From").run Tryz.prog w=.ok (105,v) w:=by kernel_rfl
theorem Es.under{xs:List Ev}(a:Es M w v xs):Es (λb=>M b/\b<w.heap.size) w v xs:=by
 obtain⟨⟨d,c,rfl,e,f,g,h⟩,i⟩:=a;refine⟨⟨d,c,rfl,e,f,g,h.imp id ?_⟩,λf g=>?_⟩
 .rintro⟨b,d,e,a,c,h⟩;exact⟨b,d,e,⟨a,c⟩,c,h⟩
 .obtain⟨e,h⟩:=i f g
  refine⟨e,?_⟩;obtain⟨c,c,hv,_,_,_,c⟩:=e;rcases c with c|⟨b,d,rfl,a,_⟩
  .exact .inl c
  .refine h.imp id (λc d b=>⟨c d b,?_⟩);rw[hv]at b;cases b;exact a
def VC(N:Nat->Prop)(w:World)(l:List En)(e:Ending)(w':World):Prop:=
 ∃(a c:Nat)(M:Nat->Prop),e=.returned (.func (.func a) #[] #[.pointer (some ⟨c,0,none⟩)])/\(∀d w,(callFunc a d).run Tryz.prog w=.ok (.enter a d) w)/\CK Tryz.prog a #[.pointer (some ⟨c,0,none⟩)] (Ra w'.heap.size) M l w'/\(∀b,M b->b<w'.heap.size)/\(∀b,M b->N b\/w.heap.size<=b)/\Grow w w'
theorem aIL{l:List En}{e:Ending}(c:NJ N w l e w' 180)(d:l.length<=1000000000)(f:∀x∈l,x.val.length<=1000000000000):VC N w l e w':=by obtain⟨e,a,v,rfl,g,a,rfl,h,i⟩:=c;have c:=(h.es (M:=λb=>N b\/w.heap.size<=b) (λb a=>a)).under;exact⟨_,e,_,rfl,enters_of Tryz.func180 (by kernel_rfl) rfl,(ZA c (by rwa[bA]at d) (λc d=>f c.e (aV.2 ⟨c,d,rfl⟩)) a ⟨.inr g,af a⟩).1,λb a=>a.2,λb a=>a.1,i⟩
theorem aIM{l:List En}{e:Ending}(d:adp N w l e w' 155)(f:l.length<=1000000000)(g:∀x∈l,x.val.length<=1000000000000):VC N w l e w':=by obtain⟨e,a,v,rfl,h,a,rfl,c,i⟩:=d;have c:=(c.mono (M:=λb=>N b\/w.heap.size<=b) (λb a=>.inl a)).under;exact⟨_,e,_,rfl,enters_of Tryz.func155 (by kernel_rfl) rfl,(ZA c (by rwa[bA]at f) (λc d=>g c.e (aV.2 ⟨c,d,rfl⟩)) a ⟨.inr h,af a⟩).2,λb a=>a.2,λb a=>a.1,i⟩
def Qa(D:Nat):Deferred:={target:=.collected D,args:=#[]}
theorem ary{F:Fence}{n:Nat}{P:Program}{fn:Func}{a:Array Value}{R:Ending->World->Prop}{v:Value}(d:∀w:World,(results fn a).run P w=.ok v w):
  ∀(c:List Nat)(w:World),c.Nodup->(∀D∈c,w.heap[D]?=some (.deferred (some [])))->
   (∀w':World,w'.os=w.os->w'.tape=w.tape->w'.output=w.output->w.heap.size<=w'.heap.size->(∀b,b ∉ c->b<w.heap.size->w'.heap[b]?=w.heap[b]?)->R (.returned v) w')->LeavesInM F n P fn a R (c.map Qa) .returning w
 | [],w,_,_,hR=>⟨v,d w,hR w rfl rfl rfl (aw _) (λ_ _ _=>rfl)⟩
 |D::c,w,hn,hd,hR=>by
  have e:=List.nodup_cons.1 hn;have f:=hd D (ej ..);have a:=grownBy_putObj' w D (.deferred none);refine⟨by simp,.inl ⟨D,_,rfl,run_takeDeferred f,ary d c _ e.2 (λd f=>?_) (λw' g h i j k=>?_)⟩⟩
  .have l:d≠D:=λc=>e.1 (c ▸ f)
   have:=hd d (fE _ f);rw[a.block d (af this) (λc=>l (bh c))];exact this
  .refine hR w' (g.trans a.os) (h.trans a.tape) (i.trans a.output) (aJ a.size j) (λb d e=>?_)
   have f:b≠D:=λc=>d (by rw[c];exact ej ..)
   rw[k b (λg=>d (fE _ g)) (bF e a.size),a.block b e (λc=>f (bh c))]
theorem VD(x y:ByteArray):Op.bytesLess x.toList y.toList=true↔x.data.toList<y.data.toList:=by
 have a:=QS x y;rw[jz,jz]at a;rw[<-a,jz,jz];unfold kJ;rw[jz,jz];cases Op.bytesLess x.data.toList y.data.toList
 .simp
  split<;>omega
 .simp
theorem arz(k p:ByteArray):(!(Op.bytesLess k.toList p.toList||k.toList==p.toList))=decide (p.data.toList<k.data.toList):=by
 have d:=VD k p;have e:(k.toList==p.toList)=true↔k.data.toList=p.data.toList:=by rw[jz,jz];simp
 by_cases a:p.data.toList<k.data.toList
 .have c:Op.bytesLess k.toList p.toList=false:=by
   cases b:Op.bytesLess k.toList p.toList with
   |false=>rfl
   |true=>exact absurd (List.lt_trans a (d.1 b)) (List.lt_irrefl _)
  have f:(k.toList==p.toList)=false:=by
   cases b:(k.toList==p.toList)with
   |false=>rfl
   |true=>rw[e.1 b]at a;exact absurd a (List.lt_irrefl _)
  rw[c,f,decide_eq_true a];rfl
 .rw[decide_eq_false a]
  by_cases f:k.data.toList=p.data.toList
  .rw[e.2 f];simp
  .have c:Op.bytesLess k.toList p.toList=true:=d.2 (by
    by_cases b:k.data.toList<p.data.toList
    .exact b
    .exact absurd (List.le_antisymm (List.not_lt.1 a) (List.not_lt.1 b)) f)
   rw[c];rfl
theorem aIN(p a:ByteArray):∃m,(if Op.bytesLess p.toList a.toList then a else p)=m/\p.data.toList<=m.data.toList/\a.data.toList<=m.data.toList/\(m=p\/m=a):=by
 by_cases b:Op.bytesLess p.toList a.toList=true
 .exact⟨a,if_pos b,List.le_of_lt ((VD p a).1 b),List.le_refl _,.inr rfl⟩
 .exact⟨p,if_neg b,List.le_refl _,List.not_lt.1 (λc=>b ((VD p a).2 c)),.inl rfl⟩
theorem arA{a:Type}{P:Nat->a->Prop}:∀n,(∀j,j<n->∃y,P j y)->∃l:List a,l.length=n/\∀(j:Nat) y,l[j]?=some y->P j y
 |0,_=>⟨[],rfl,λj y a=>by simp at a⟩
 |n+1,a=>by
  obtain⟨l,b,d⟩:=arA n (λj c=>a j (by omega));obtain⟨y,e⟩:=a n (by omega);refine⟨l++[y],by simp[b],λj f a=>?_⟩;by_cases c:j<l.length
  .rw[vB c]at a;exact d j f a
  .have c:=(dW.1 a).1
   simp only[aM,List.length_singleton]at c;have c:j=l.length:=by omega
   rw[xx (by omega),c,Nat.sub_self,List.getElem?_cons_zero]at a;cases a;rw[c,b];exact e
theorem adq(p m:ByteArray):∀ls:List (List En),((ls.map (pG p m)).map List.length).sum<=ls.flatten.length
 | []=>aw _
 |l::ls=>by have a:=adq p m ls;have a:=(VB p m l).length_le;simp only[cr,List.sum_cons,List.flatten_cons,aM];omega
theorem adr{p m:ByteArray}{ls:List (List En)}{e:En}(a:e∈(ls.map (pG p m)).flatten):e∈ls.flatten:=by obtain⟨c,b,c⟩:=List.mem_flatten.1 a;obtain⟨a,d,rfl⟩:=aV.1 b;exact List.mem_flatten.2 ⟨a,d,(VB p m a).mem c⟩
end Go.Proofs.YtoolkdapflaeeaaGreatDoor
