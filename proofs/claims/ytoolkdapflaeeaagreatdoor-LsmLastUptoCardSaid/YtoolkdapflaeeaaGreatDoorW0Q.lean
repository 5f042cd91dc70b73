/- Helpers. -/
import Derived.Test.YtoolkdapflaeeaaGreatDoorW0P
import Derived.Deep.CutRange
import Derived.Deep.DeepCutAuto
import Derived.Test.YtoolkdapflaeeaaGreatDoorW0O
set_option maxRecDepth 100000
set_option maxHeartbeats 16000000
namespace Go.Proofs.YtoolkdapflaeeaaGreatDoor
open Go.RowKit Go.Gl Go.aH Mn
def kW (y:Wr):Wr:=if y.gone then ⟨y.key,y.gone,[]⟩ else y
def kV (y:Wv):Wv:=if y.x.gone then ⟨⟨y.x.key,y.x.gone,[]⟩,.slice none 0 0⟩ else y
theorem akq (y:Wv):(kV y).x=kW y.x:=by unfold kV kW;split<;>rfl
theorem aBl (ys:List Wv):(ys.map kV).map (·.x)=(ys.map (·.x)).map kW:=by
 rw [List.map_map,List.map_map];exact List.map_congr_left fun y _=>akq y
def mf (ws:List Wr):Prop:=16777216<bD ws∨∃ y∈ws,65535<y.key.size
instance (ws:List Wr):Decidable (mf ws):=by unfold mf;infer_instance
theorem aBm (ws:List Wr) (y:Wr):mf (ws++ [y])↔mf ws∨65535<y.key.size∨16777216<y.val.length∨16777216<bD (ws++ [y]):=by
 have h1:=KA ws [y];have h2:bD [y]=y.key.size+y.val.length:=by simp [bD]
 unfold mf;constructor
 ·rintro (h|⟨z,hz,h⟩)
  ·exact .inr (.inr (.inr h))
  ·rcases List.mem_append.1 hz with hz|hz
   ·exact .inl (.inr ⟨z,hz,h⟩)
   ·rw [cY.1 hz] at h;exact .inr (.inl h)
 ·rintro ((h|⟨z,hz,h⟩)|h|h|h)
  ·exact .inl (by omega)
  ·exact .inr ⟨z,List.mem_append_left _ hz,h⟩
  ·exact .inr ⟨y,mg _ (List.mem_singleton_self y),h⟩
  ·exact .inl (by omega)
  ·exact .inl h
theorem aBn {ws:List Wr} (h:¬ mf ws):bD ws≤16777216∧∀ y∈ws,y.key.size≤65535:=by
 unfold mf at h;refine ⟨by omega,fun y hy=> ?_⟩;have h2:¬ 65535<y.key.size:=fun h3=>h (.inr ⟨y,hy,h3⟩)
 omega
variable {Z B Nn A C i:Nat} {w w':World} {t t':Tr} {f f':Lk} {T K T' K':Nat} {s:dP}
def LG (s:dP) (eW:List (List (Nat×List Wr))) (bs:List (Nat×List Wr)) (b:Nat×List Wr):dP:={s with LL:=eW++ [bs++ [b]]}
theorem akr {eW:List (List (Nat×List Wr))} {bs:List (Nat×List Wr)} (mM:s.LL=eW++ [bs]) {q:Nat} {ws:List Wr} (hq:∀ e∈dE s,e.seq<q) (ho:cQ (aS s.LL)) (x:En):
  x∈dE (LG s eW bs (q,ws))↔(∃ y,fV x.key ws=some y∧x=ia q y)∨x∈dE s:=by
 unfold dE LG;dsimp only;rw [Qs,←mM,List.mem_append,List.mem_append,afc ho];constructor
 ·rintro ((h|⟨h,_⟩)|h)
  ·exact .inl h
  ·exact .inr (.inl h)
  ·exact .inr (.inr h)
 ·rintro (h|h|h)
  ·exact .inl (.inl h)
  ·exact .inl (.inr ⟨h,fun e=>by have:=hq x (List.mem_append_left _ h);omega⟩)
  ·exact .inr h
theorem dI.applied (h:dI Z B Nn A C i w t f T K s) {eW:List (List (Nat×List Wr))} {bs:List (Nat×List Wr)} (mM:s.LL=eW++ [bs]) (hm:t.m=s.V.aj.toNat+eW.length) {ws:List Wr} (hb:Lp (t.seq+1,ws))
  (ht:cz Z B Nn w' t' f' T' K') (hV:t'.V=t.V) (ho:t'.o=t.o) (iT:t'.ns.map (fun n=>n.x.e)=gw (t.seq+1) ws (aS s.LL)) (jB:t'.m=t.m) (jz:t'.ld=t.ld) (dh:t'.seq=t.seq+1)
  (hf:f'=f.set (bp bU t.m) (bP aq (bs.map jx++ [jx (t.seq+1,ws)]),(bP aq (bs.map jx++ [jx (t.seq+1,ws)])).length)) (hK:K'≤K+10):
  dI Z B Nn (A+ws.length) (C+16*ws.length+bD ws) (i+1) w' t' f' T' K' (LG s eW bs (t.seq+1,ws)):=by
 have hl:=h.lim;have tV:=h.Gm.ord;have hall:=akr mM (q:=t.seq+1) (ws:=ws) (fun e he=>by have:=h.top e he;omega) tV;have lH:aS (eW++ [bs++ [(t.seq+1,ws)]])=gw (t.seq+1) ws (aS s.LL):=by rw [Qs,←mM]
 obtain ⟨c1,c2⟩:=PA (t.seq+1) (aS s.LL) ws;have fu:(eW++ [bs++ [(t.seq+1,ws)]]).flatten=s.LL.flatten++ [(t.seq+1,ws)]:=by rw [mM];simp
 have hlen:(eW++ [bs++ [(t.seq+1,ws)]]).length=s.LL.length:=by rw [mM];simp
 refine ⟨ht,by rw [hV];exact h.V,?_,?_,by rw [hf];exact qd.set h.sync _ _,?_,by rw [iT];exact lH.symm,by rw [jB];show _=s.V.aj+((eW++ [bs++ [(t.seq+1,ws)]]).length:Int);rw [hlen];exact h.m,by simp [LG],by rw [jz];exact h.ld,by rw [ho];exact h.opt,?_,by rw [dh];have:=h.uw;omega,?_,?_,by have:=h.K;omega⟩
 ·rw [ho,hf]
  have h2:=h.gy.Xz (f':=f.set (bp bU t.m) (bP aq (bs.map jx++ [jx (t.seq+1,ws)]),(bP aq (bs.map jx++ [jx (t.seq+1,ws)])).length)) (fun n hn=>fZ _ (rf hn _) _);exact ⟨h2.cur,h2.Gh,h2.tmp,h2.one,h2.all,h2.good,h2.Gi,h2.tabs,h2.only,h2.az,h2.files⟩
 ·have h3:=h.log
  rw [mM] at h3;have h4:fG f s.V.aj.toNat (fB (ib eW++ [bs.map jx])):=by simpa using h3
  have h5:=azI h4 (jx (t.seq+1,ws));rw [List.length_map,←hm,←hf] at h5;show fG f' s.V.aj.toNat (fB (ib (eW++ [bs++ [(t.seq+1,ws)]])));simpa using h5
 ·refine ⟨?_,?_,hl.vY,?_,hl.Dv,by have:=hl.next;show s.V.next≤_;omega,by have:=hl.el;show s.es.length≤_;omega,by have:=hl.adds;show (s.es.map fun e=>e.add.length).sum≤_;omega,fun b EP=> ?_,?_,?_,?_⟩
  ·show (aS (eW++ [bs++ [(t.seq+1,ws)]])).length+(s.V.tabs.map fun x=>(s.az x.file).length).sum≤_
   rw [lH];have:=hl.pV;omega
  ·show costs (aS (eW++ [bs++ [(t.seq+1,ws)]]))+(s.V.tabs.map fun x=>costs (s.az x.file)).sum≤_
   rw [lH];have:=hl.cost;omega
  ·show s.V.aj+((eW++ [bs++ [(t.seq+1,ws)]]).length:Int)≤_
   rw [hlen];have:=hl.aj;omega
  ·have h6:b∈s.LL.flatten++ [(t.seq+1,ws)]:=by rw [←fu];exact EP
   rcases List.mem_append.1 h6 with h7|h7
   ·exact hl.Dw b h7
   ·rw [cY.1 h7];exact hb
  ·show (eW++ [bs++ [(t.seq+1,ws)]]).flatten.length≤_
   rw [fu,List.length_append];have:=hl.Gk;simp only [List.length_cons,List.length_nil];omega
  ·show ((eW++ [bs++ [(t.seq+1,ws)]]).flatten.map fun b=>b.2.length).sum≤_
   rw [fu,List.map_append,List.sum_append];have:=hl.Ls;simp only [List.map_cons,List.map_nil,List.sum_cons,List.sum_nil];omega
  ·show ((eW++ [bs++ [(t.seq+1,ws)]]).flatten.map fun b=>bD b.2).sum≤_
   rw [fu,List.map_append,List.sum_append];have:=hl.Lt;simp only [List.map_cons,List.map_nil,List.sum_cons,List.sum_nil];omega
 ·rw [dh]
  have h7:=h.seq;show t.seq+1=((eW++ [bs++ [(t.seq+1,ws)]]).flatten.map (·.1)).foldl max s.V.seq.toNat;rw [fu,List.map_append,List.foldl_append];unfold mL at h7;rw [←h7];simp only [List.map_cons,List.map_nil,List.foldl_cons,List.foldl_nil];omega
 ·intro x hx y hy hs
  rcases (hall x).1 hx with ⟨u,h1,h2⟩|h1<;>rcases (hall y).1 hy with ⟨v,h3,h4⟩|h3
  ·rw [←hs.1,h1] at h3
   cases h3;rw [h2,h4]
  ·have h5:=h.top y h3
   have h6:x.seq=t.seq+1:=by rw [h2];rfl
   have:=hs.2;omega
  ·have h5:=h.top x h1
   have h6:y.seq=t.seq+1:=by rw [h4];rfl
   have:=hs.2;omega
  ·exact h.vZ x h1 y h3 hs
 ·intro e he
  rw [dh];rcases (hall e).1 he with ⟨u,_,h2⟩|h1
  ·rw [h2];exact ay _
  ·have:=h.top e h1;omega
end Go.Proofs.YtoolkdapflaeeaaGreatDoor
namespace Go.Proofs.YtoolkdapflaeeaaGreatDoor
open Go.RowKit Go.Gl Go.aH Mn
def XP (Z B Nn A C i:Nat) (w:World) (t:Tr) (T:Nat) (s:dP) (ws:List Wr) (e:Ending) (w':World):Prop:=
 ∃ (c n:Nat) (t':Tr) (f':Lk) (T' K':Nat) (s':dP),e= .returned (.tuple #[.int .u64 (n:Int),.int .i64 (c:Int)])∧eC w t w' t'∧dI Z B Nn (A+ws.length) (C+16*ws.length+bD ws) (i+2) w' t' f' T' K' s'∧t'.hh=t.hh∧t'.hn=t.hn∧s'.V.tabs.length≤s.V.tabs.length+1∧
  ((((ws= []∧c=0∧n=t.seq)∨(ws≠ []∧mf ws∧c=3∧n=0)∨(c=5∧n=0∧Z<T+(bw aq (lF (t.seq+1) ws)).length))∧t'.seq=t.seq∧(∀ x,x∈dE s'↔x∈dE s)∧T'=T)∨
   (ws≠ []∧¬ mf ws∧c=0∧n=t.seq+1∧t'.seq=t.seq+1∧(∀ x,x∈dE s'↔(∃ y,fV x.key ws=some y∧x=ia (t.seq+1) y)∨x∈dE s)∧T'≤T+(bw aq (lF (t.seq+1) ws)).length+(fX t.o.block.toNat (gw (t.seq+1) ws (aS s.LL))).length+300000∧((costs (gw (t.seq+1) ws (aS s.LL)):Int)≤t.o.mem→s'.V=s.V∧aS s'.LL=gw (t.seq+1) ws (aS s.LL)∧T'=T+(bw aq (lF (t.seq+1) ws)).length)))
def XQ (w:World) (Na:Nat→Prop) (ys:List Wv) (ws:List Wr) (sv gv lv iv:Value) (wr:World):Prop:=
 ∃ i:Nat,iv= .int .i64 (i:Int)∧i≤ys.length∧sv= .int .i64 ((bD (ws.take i):Nat):Int)∧gv= .bool (decide (mf (ws.take i)))∧oN w.heap.size Na wr lv ((ys.map kV).take i)∧Grow w wr
theorem Ws.lt {M:Nat→Prop} {w:World} {v:Value} {xs:List Wv} (h:Ws M w v xs):Ws (fun b=>M b∧b<w.heap.size) w v xs:=by
 obtain ⟨⟨a,c,h1,h2,h3,h4,h5⟩,h6⟩:=h;refine ⟨⟨a,c,h1,h2,h3,h4,?_⟩,fun x hx=>Bw.lt (h6 x hx)⟩;rcases h5 with h5|⟨b,o,q1,q2,q3,q4⟩
 ·exact .inl h5
 ·exact .inr ⟨b,o,q1,⟨q2,q3⟩,q3,q4⟩
theorem aBo {N:Nat→Prop} {w:World} {y:Wv} (h:oL N w y):oL N w (kV y):=by
 unfold kV;split
 ·exact UC _ _
 ·exact h
theorem aBp {N:Nat→Prop} {A:Nat} {W:World} {y:Wv} (h:oL N W y):KF N A W y:=⟨h.1,h.2.imp id (fun h2 b hb=> .inl (h2 b hb))⟩
theorem aks:∀ ws:List Wr,bD (ws.map kW)≤bD ws
 | []=>ay _
 |y::ws=>by
  have h:=aks ws;have h2:(kW y).key.size+(kW y).val.length≤y.key.size+y.val.length:=by
   unfold kW;split
   ·simp
   ·exact ay _
  simp only [bD,List.map_cons,List.sum_cons] at h ⊢;omega
variable {Z B Nn A C i:Nat} {w:World} {t:Tr} {f:Lk} {T K:Nat} {s:dP}
theorem dI.wide (h:dI Z B Nn A C i w t f T K s) {A' C' i':Nat} (hA:A≤A') (hC:C≤C') (hi:i≤i'):dI Z B Nn A' C' i' w t f T K s:={h.more hi with lim:=h.lim.more hA hC hi}
theorem XR (h:dI Z B Nn A C i w t f T K s) {Na:Nat→Prop} (FP:∀ b,Na b→b<w.heap.size∧¬ FT t b) {v:Value} {ys:List Wv} (hW:Ws Na w v ys) {ws:List Wr} (nM:ws=(ys.map (·.x)).map kW)
  (dX:ys.length≤60000) (sG:bD ws≤50000000) (hA:A+ws.length≤100000) (hC:C+16*ws.length+bD ws≤1000000) (hi:i+4≤Nn) (AJ:i≤800000) (iz:s.V.tabs.length≤4999):
  Calls Tryz.prog 14 #[.pointer (some ⟨t.db,0,none⟩),v] w (XP Z B Nn A C i w t T s ws):=by
 have kD:ws.length=ys.length:=by rw [nM];simp
 have Fm:(ys.map kV).map (·.x)=ws:=by rw [aBl,nM]
 obtain ⟨_,_,_,_,_,c10,_,bA⟩:=h.tree.cell.cells;have LH:t.seq+1<18446744073709551616:=by have:=h.uw;omega
 have AK:Hid (XQ w Na ys ws (.int .i64 0) (.bool false) (.slice none 0 0) (.int .i64 0) w):=ae ⟨0,rfl,bk _,by simp [bD],by simp [mf,bD],ahf _ _ _,Grow.refl w⟩;have H0:=ae h;have XS:=ae FP;have HW:=ae hW;have yj:=ae nM;have QE:=ae Fm;have LI:=ae kD;have Hb:=ae (ah dX (ah sG (ah hA (ah hC (ah hi (ah AJ (ah iz LH)))))));obtain ⟨va,vc,rfl⟩:=hW.slice;clear h FP hW nM Fm sG hA hC hi AJ iz kD LH;go_enter Tryz.func14,Tryz.ntmps14;by_cases mK:ys.length=0
 ·have e0:((ys.length:Int)==0)=true:=by simp [mK]
  have Hy0:=ae mK;clear mK dX;go_wp2;go_ret2;have hw0:ws= []:=jb (by rw [LI.out,Hy0.out]);refine ⟨0,t.seq,t,f,T,K,s,rfl,eC.refl _ _,?_,rfl,rfl,Nat.le_succ _,.inl ⟨.inl ⟨hw0,rfl,rfl⟩,rfl,fun x=>Iff.rfl,rfl⟩⟩;exact H0.out.wide (by omega) (by omega) (by omega)
 have e0:((ys.length:Int)==0)=false:=beq_eq_false_iff_ne.2 (by omega);have AO:ws≠ []:=fun e=>by have h1:=LI.out;rw [e] at h1;exact mK h1.symm
 have XT:=ae AO;clear mK AO
 go_wp2_with fail
 clear e0 c10 bA
 go_loopw [6,7,8,22] (fun sv gv lv iv wr=>XQ w Na ys ws sv gv lv iv wr) (fun _ _ _ iv _=>ys.length-(intOf iv).toNat)
 case atStart=>exact AK.out
 case round=>
  clear AK;obtain ⟨i,rfl,hi,rfl,rfl,hrow,hgr⟩:=hrel;by_cases hlt:i<ys.length
  ·obtain ⟨y,hy⟩:∃ y,ys[i]?=some y:=⟨ys[i],by simp [hlt]⟩
   have DC:=HW.out.grow hgr;obtain ⟨b,o',c,jN,hNb,hbl,aY⟩:=DC.addr hy;cases jN;have gu:oL Na wr y:=DC.get hy;have PO:ws[i]?=some (kW y.x):=by rw [yj.out,List.getElem?_map,List.getElem?_map,hy];rfl
   have Ag:(ys.map kV)[i]?=some (kV y):=by rw [List.getElem?_map,hy];rfl
   have df:ws.take (i+1)=ws.take i++ [kW y.x]:=take_one PO;have ju:(ys.map kV).take (i+1)=(ys.map kV).take i++ [kV y]:=take_one Ag;have hS1:bD (ws.take (i+1))=bD (ws.take i)+((kW y.x).key.size+(kW y.x).val.length):=by rw [df,KA];simp [bD]
   have nu:=Pj ws (i+1);have kK:=aBm (ws.take i) (kW y.x);rw [←df] at kK;obtain ⟨a0,a1,a2⟩:=FD aY hy;have QF:=aBo gu;have sT:=akq y;obtain ⟨S,hS⟩:∃ S,S=bD (ws.take i):=⟨_,rfl⟩
   obtain ⟨S',Lu⟩:∃ S',S'=bD (ws.take (i+1)):=⟨_,rfl⟩
   obtain ⟨lg,Gt⟩:∃ lg,lg=decide (mf (ws.take i)):=⟨_,rfl⟩
   rw [←hS,←Gt];obtain ⟨kv,tF⟩:∃ kv,kv=kV y:=⟨_,rfl⟩
   rw [←tF] at QF sT ju;rw [←sT] at df hS1 kK;have oU:kv.x.key=y.x.key:=by rw [sT];unfold kW;split<;>rfl
   have hkg:kv.x.gone=y.x.gone:=by rw [sT];unfold kW;split<;>rfl
   have EF:y.x.gone=true→kv.v= .slice none 0 0:=fun hg=>by rw [tF];unfold kV;rw [if_pos hg]
   have FK:y.x.gone=false→kv.v=y.v:=fun hg=>by rw [tF];unfold kV;rw [if_neg (by rw [hg];decide)]
   obtain ⟨⟨yk,yg,yd⟩,yv⟩:=y;obtain ⟨⟨kk,kg,kd⟩,kw⟩:=kv;dsimp only at a0 a1 a2 oU hkg EF FK hS1 kK;subst oU;subst hkg;have aku:Bv wr yv yd:=gu.1;have CQ:Bv wr kw kd:=QF.1;obtain ⟨xa,xc,rfl⟩:=aku.slice;obtain ⟨za,zc,rfl⟩:=CQ.slice;clear aku CQ;have lb:b<wr.heap.size:=hbl;have dJ:(i:Int)<(ys.length:Int):=by omega
   have bK:(0:Int)≤(i:Int):=by omega
   have eE:IntKind.i64.wrap ((i:Int)+1)=(i:Int)+1:=aR _ (by omega);obtain ⟨la,lc,rfl⟩:=hrow.slice;have hb:=Hb.out;have hsz:S'≤50000000:=by omega
   have bS:IntKind.i64.wrap ((kk.size:Int)+(kd.length:Int))=(kk.size:Int)+(kd.length:Int):=aR _ (by omega);have hw2:IntKind.i64.wrap ((S:Int)+((kk.size:Int)+(kd.length:Int)))=(S':Int):=(aR _ (by omega)).trans (by omega);have pL:=ae hrow;have dU:=ae hgr;have aBr:=ae QF;have lQ:=ae df;have XU:=ae ju;have Hlg:=ae (show mf (ws.take (i+1))↔mf (ws.take i)∨65535<kk.size∨16777216<kd.length∨16777216<S' by rw [kK,←Lu]);have akw:=ae Gt;have HS':=ae Lu;have nS:=ae hlt;have eP:((ys.map kV).take i).length=i:=by simp;omega
   have XV:=ae eP;rw [eP];clear hrow hgr QF df ju kK Gt Lu hS sT tF PO Ag hS1 nu gu DC aY hNb hbl hy hb hlt eP
   go_upto_if 27 with fail
   have ai:=Grow.alloc wr (.cells #[.string kk,.bool kg,.slice xa yd.length xc] 51);have dw:=aw wr (.cells #[.string kk,.bool kg,.slice xa yd.length xc] 51);generalize wr.alloc (.cells #[.string kk,.bool kg,.slice xa yd.length xc] 51)=w5 at*;obtain ⟨tb,dp⟩:∃ tb,tb=wr.heap.size:=⟨_,rfl⟩
   rw [←dp] at dw ⊢;have fw:=ae dp;have bT:=ae ai;have gS:=ae dw;have im:=af dw;have ff:∀ j,w5.frozen? ⟨tb,j,none⟩=false:=fun j=>by simp [World.frozen?,dw]
   clear ai dw dp a0 a1 a2 lb
   go_cut [] from 28 to 28 (fun wx=>wx.heap[tb]?=some (.cells #[.string kk,.bool kg,.slice za kd.length zc] 51 (0,0))∧Grow wr wx)
   case first=>
    cases kg with
    |true=>
     have cE:=Go.Gl.aI gS.out 2 (.slice none 0 0);have hz:=EF rfl;obtain ⟨q0,q1,q2⟩:=vP gS.out;have aO:Grow wr (w5.setCell ⟨tb,2,none⟩ (.slice none 0 0)):=bT.out.setCell (Nat.le_of_eq fw.out.symm) _;have bG:=ae (ah cE aO);rw [Value.slice.injEq] at hz;obtain ⟨hz1,hz2,hz3⟩:=hz;have Hz:=ae (ah hz1 (ah hz2 hz3));clear cE aO EF FK hz1 hz2 hz3;go_wp2;go_meet;rw [Hz.out.1,Hz.out.2.1,Hz.out.2.2];exact bG.out
    |false=>
     have hz:=FK rfl;rw [Value.slice.injEq] at hz;obtain ⟨hz1,hz2,hz3⟩:=hz;have Hz:=ae (ah hz1 (ah hz2 hz3));clear EF FK hz1 hz2 hz3;go_wp2;go_meet;rw [Hz.out.1,Hz.out.2.1,Hz.out.2.2];exact ⟨gS.out,bT.out⟩
   case rest=>
    obtain ⟨XW,cM⟩:=hcut;obtain ⟨t0,t1,t2⟩:=vP XW;have Wq:=af XW;have AQ:=ae cM;clear im ff cM XW
    go_upto_region 12 with fail
    obtain ⟨uA,XX⟩:∃ uA,uA=decide (mf (ws.take (i+1))):=⟨_,rfl⟩
    have aBt:=ae XX;have akx:uA=true↔lg=true∨65535<kk.size∨16777216<kd.length∨16777216<S':=by rw [XX,akw.out,decide_eq_true_eq,decide_eq_true_eq];exact Hlg.out
    have Gu:=ae akx;clear XX akx
    go_cut [7] from 38 to 54 (fun gv wx=>gv= .bool uA∧wx=wc)
    case first=>
     cases lg with
     |true=>
      have hr:Hid (uA=true):=ae (Gu.out.2 (.inl rfl));go_wp2;go_meet;exact ⟨by rw [hr.out],rfl⟩
     |false=>
      by_cases h1:65535<kk.size
      ·have d1:(65535:Int)<(kk.size:Int):=by omega
       have hr:Hid (uA=true):=ae (Gu.out.2 (.inr (.inl h1)));clear h1;go_wp2;go_meet;exact ⟨by rw [hr.out],rfl⟩
      ·have d1:¬ (65535:Int)<(kk.size:Int):=by omega
       have d1':(kk.size:Int)≤65535:=by omega
       by_cases h2:16777216<kd.length
       ·have d2:(16777216:Int)<(kd.length:Int):=by omega
        have hr:Hid (uA=true):=ae (Gu.out.2 (.inr (.inr (.inl h2))));clear h1 h2;go_wp2;go_meet;exact ⟨by rw [hr.out],rfl⟩
       ·have d2:¬ (16777216:Int)<(kd.length:Int):=by omega
        have d2':(kd.length:Int)≤16777216:=by omega
        by_cases h3:16777216<S'
        ·have d3:(16777216:Int)<(S':Int):=by omega
         have hr:Hid (uA=true):=ae (Gu.out.2 (.inr (.inr (.inr h3))));clear h1 h2 h3;go_wp2;go_meet;exact ⟨by rw [hr.out],rfl⟩
        ·have d3:¬ (16777216:Int)<(S':Int):=by omega
         have d3':(S':Int)≤16777216:=by omega
         have hr:Hid (uA=false):=ae (by
          cases hl:uA with
          |false=>rfl
          |true=>
           rcases Gu.out.1 hl with h|h|h|h
           ·cases h
           ·exact absurd h h1
           ·exact absurd h h2
           ·exact absurd h h3)
         clear h1 h2 h3;go_wp2;go_meet;exact ⟨by rw [hr.out],rfl⟩
    case rest=>
     obtain ⟨rfl,hwc⟩:=hcut;have hwc':=hwc.symm;subst hwc';clear hwc Gu Hlg akw bS hw2;have XY:oN w.heap.size Na wc (.slice la i lc) ((ys.map kV).take i):=by
      have h6:=pL.out.keep AQ.out.size (fun b hb=>AQ.out.block b (by have:=(XS.out b hb).1;have:=dU.out.size;omega)) (fun b cur t f _ _ hc=>AQ.out.heap hc);rw [XV.out] at h6;exact h6
     have aky:oL Na wc ⟨⟨kk,kg,kd⟩,.slice za kd.length zc⟩:=aBr.out.kp (.bF AQ.out);have rk:=dU.out.trans AQ.out;obtain ⟨gb,Wl,W3,hrun,hrow3,hg3⟩:=ahb XY (aBp aky) (fun b hb=>(XS.out b hb).1) rk.size (by rw [XV.out];omega);rw [XV.out] at hrun hrow3;rw [←XU.out] at hrow3;have qm:Grow w W3:=rk.grown hg3 rk.size (fun k e=>(KG XY e).1);have bq:Hid (XQ w Na ys ws (.int .i64 (S':Int)) (.bool uA) (.slice (some ⟨gb,0,none⟩) (i+1) Wl) (.int .i64 ((i:Int)+1)) W3):=ae ⟨i+1,by simp,nS.out,by rw [←HS'.out],by rw [←aBt.out],hrow3,qm⟩;have dC:=ae hrun;clear XY aky rk hrun hrow3 hg3 qm
     go_wp2_with (at_builtin;refine fC rfl rfl rfl rfl dC.out ?_)
     go_roundw
     case rel=>exact bq.out
     case measure=>simp [intOf];have:=nS.out;omega
  ·obtain rfl:i=ys.length:=by omega
   have et:(ys.map kV).take ys.length=ys.map kV:=List.take_of_length_le (by simp);have ew:ws.take ys.length=ws:=List.take_of_length_le (by rw [LI.out];exact ay _);rw [et] at hrow;rw [ew];obtain ⟨la,lc,rfl⟩:=hrow.slice;have eP:(ys.map kV).length=ys.length:=by simp
   rw [eP] at hrow ⊢;have dU:=ae hgr;have pL:=ae hrow;clear et ew eP hgr hrow hi;by_cases hL:mf ws
   ·rw [decide_eq_true hL]
    have HL:=ae hL;clear hL;go_wp2;go_ret2;exact ⟨3,0,t,f,T,K,s,rfl,eC.bF t dU.out,(H0.out.grow dU.out).wide (by omega) (by omega) (by omega),rfl,rfl,Nat.le_succ _,.inl ⟨.inr (.inl ⟨XT.out,HL.out,rfl,rfl⟩),rfl,fun x=>Iff.rfl,rfl⟩⟩
   rw [decide_eq_false hL];obtain ⟨gQ,km⟩:=aBn hL;have HL:=ae hL;have Hn:=ae (ah gQ km);clear hL gQ km;obtain ⟨eW,bs,mM,hm,mh,_⟩:=H0.out.last;have Dy:=ae (ah mM (ah hm mh));clear mM hm mh;have Lg:=ae (H0.out.tree.grow dU.out);obtain ⟨sq,dh⟩:∃ sq,sq=t.seq+1:=⟨_,rfl⟩
   have aHL:IntKind.u64.wrap ((t.seq:Int)+1)=(sq:Int):=by
    have h1:=Hb.out.2.2.2.2.2.2.2;rw [IntWalk.u64_in _ (by omega)];omega
   have LH:sq<18446744073709551616:=by have h1:=Hb.out.2.2.2.2.2.2.2;omega
   have wj:=ae dh;clear dh
   go_upto_region 17 with fail
   have hgd:=Grow.drew wr;have S17:∀ W,Grow wr W→W.cell? ⟨t.db,7,none⟩=some (.pointer (some ⟨t.lb,0,none⟩))∧W.cell? ⟨t.db,10,none⟩=some (.int .u64 (t.seq:Int))∧t.db<W.heap.size:=fun W hg=>by
    obtain ⟨_,_,c7,_,_,c10,_,bA⟩:=(Lg.out.grow hg).cell.cells;exact ⟨c7,c10,bA⟩
   have XZ:=ae S17;clear S17;refine bX (fun W=>W.cell? ⟨t.db,7,none⟩=some (.pointer (some ⟨t.lb,0,none⟩))∧W.cell? ⟨t.db,10,none⟩=some (.int .u64 (t.seq:Int))∧t.db<W.heap.size) [(0,false),(1,false),(2,false),(3,false),(4,false),(5,false),(6,false),(7,false),(8,false),(9,false),(10,true),(11,true),(12,true),(13,false)] (by kernel_rfl) (by kernel_rfl) (fun c a d v w h=>by cases d<;>exact h) (XZ.out _ hgd) ?_;simp only [aP,nth]
   repeat (first|(refine aB (v:= ?_) (by rfl) ?_ ?_;rotate_left;(rintro W ⟨hW0,hW1,hW2⟩;go_simp;with_reducible rfl);simp only [ag,List.set])|(refine aC (by rfl) ?_;simp only [ag,List.set]))
   have Ya:Ws (fun b=>(Na b∨w.heap.size≤b)∧b<wr.heap.size) wr (.slice la ys.length lc) (ys.map kV):=(pL.out.ws (M:=fun b=>Na b∨w.heap.size≤b) (fun b hb=>hb)).lt;have akA:=ae Ya;have hb:=Hb.out;have oH:=axA (Ya.grow hgd) (seq:=sq) LH (by rw [List.length_map];omega) (by rw [QE.out];omega);rw [QE.out] at oH;obtain ⟨P,hP⟩:∃ P,P=lF sq ws:=⟨_,rfl⟩
   rw [←hP] at oH;have hPl:P.length≤60000000:=by
    have h1:=VX sq ws;have h2:=LI.out;rw [hP];omega
   have HP:=ae (ah hP hPl);clear Ya hP hb;refine bj (by rfl) (by go_simp) oH ?_;rintro e w1 ⟨pv,rfl,mY,hg1⟩;have hg2:=hgd.trans hg1;refine ⟨_,rfl,XZ.out _ hg2,?_⟩;have bg:=cy mY;obtain ⟨pa,pc,rfl⟩:=mY.slice;clear oH mY
   try first|simp only [ag,List.set]|simp only [aD]
   have ai:=Grow.alloc w1 (.cells #[.slice pa P.length pc] 49);have hg3:=hg2.trans ai;refine ry (by rfl) (ru (v:= .slice pa P.length pc) rfl Tryz.underlying131 Tryz.wE rfl rfl rfl) (XZ.out _ hg3) ?_
   try first|simp only [ag,List.set]|simp only [aD]
   have uB:=Lg.out.grow hg3;have dA:(bP aq [P]).length≤1000000000000:=by
    have h1:=kT aq P;have h2:=cf P.length;simp only [bP,List.flatMap_cons,List.flatMap_nil,List.append_nil];omega
   have Lx:t.m+1≤i:=by have h1:=H0.out.m;have h2:=H0.out.lim.aj;omega
   have akB:=aul EM uB.gV uB.aW uB.log (by have:=Hb.out;omega) (by have:=Hb.out;omega) (aeI (aw _ _) (bg.grow ai)) (fun p hp=>by rw [cY.1 hp];omega) dA (by simp);refine bj (by rfl) (by go_simp) akB ?_;rintro e w4 ⟨c4,f4,T4,rfl,rC,F4,jh,hl4,ji⟩;obtain ⟨wh,Yb⟩:=uB.Ds jh ji;have Yc:dT w4 t.db t.sb t.o t.drv (.pointer (some ⟨t.lb,0,none⟩)) t.mb t.tm t.seq t.hm:=wh.cell;obtain ⟨_,_,d7,_,_,d10,_,bA⟩:=Yc.cells;refine ⟨_,rfl,⟨d7,d10,bA⟩,?_⟩;have uz:=ae wh;have Kc:=ae ((eC.bF t hg3).trans Yb);have Yd:=ae ((eC.bF t (dU.out.trans hg3)).trans Yb);have LA:=ae Lx;have HC4:=ae Yc;clear wh Yb jh hl4 ji akB dA uB hg3 ai bg hg2 hg1 hgd Yc Lx
   try first|simp only [ag,List.set]|simp only [aD]
   repeat (first|(refine aB (v:= ?_) (by rfl) ?_ ?_;rotate_left;(rintro W ⟨hW0,hW1,hW2⟩;go_simp;with_reducible rfl);simp only [ag,List.set])|(refine aC (by rfl) ?_;simp only [ag,List.set]))
   refine bm ?_;have akC:bP aq [P]=bw aq P:=by simp [bP]
   rw [akC] at rC;clear akC;rcases rC with ⟨rfl,hroom,rfl,rfl⟩|⟨rfl,pj,rfl,rfl⟩
   rotate_left
   ·have KW:=ae pj
    clear pj d7 d10 bA;go_wp2;go_ret2;refine ⟨5,0,_,f4,T4,K+1,s,rfl,Yd.out,((H0.out.put uz.out rfl rfl rfl rfl rfl rfl rfl (by omega)).wide (by omega) (by omega) (by omega)),rfl,rfl,Nat.le_succ _,.inl ⟨.inr (.inr ⟨rfl,rfl,by rw [←wj.out,←HP.out.1];exact KW.out⟩),rfl,fun x=>Iff.rfl,rfl⟩⟩
   have JD:=ae hroom;obtain ⟨q,hq⟩:∃ q,q=bP aq (bs.map jx):=⟨_,rfl⟩
   have nP:=Dy.out.2.2;rw [←hq] at nP;have lC:f.add (bp bU t.m) (bw aq P)=f.set (bp bU t.m) (q++bw aq P,q.length):=by unfold Lk.add;rw [nP]
   rw [lC] at uz;have su:=Hb.out;have aBy:=LA.out;have akD:di w4 t.lb t.p bU (t.m:Int):=uz.out.log;have QG:=adF EM uz.out.gV uz.out.aW akD (by omega) (by omega) (qw f (bp bU t.m) (q++bw aq P,q.length));rw [ML] at QG;have NU:q++bw aq P=bP aq (bs.map jx++ [jx (t.seq+1,ws)]):=by rw [hq,HP.out.1,wj.out];simp [bP]
   rw [NU] at QG;have akE:=ae QG;clear hroom hq nP lC su aBy QG NU akD
   go_wp2_with fail
   (with_reducible refine akE.out.mono ?_);rintro e w5 ⟨rfl,F5,gM,hl5,hs5⟩;obtain ⟨ri,yi⟩:=uz.out.Ds gM hs5;have LK:=Kc.out.trans yi;clear akE d7 d10 bA;have iB:∀ b,((Na b∨w.heap.size≤b)∧b<wr.heap.size)→¬ FT t b:=fun b hb hf=>by
    rcases hb.1 with h1|h1
    ·exact (XS.out b h1).2 hf
    ·have:=H0.out.tree.lt hf;omega
   have akF:Kp (fun b=>(Na b∨w.heap.size≤b)∧b<wr.heap.size) wr w5:=⟨LK.sep.size,fun b hb _=>LK.sep.out b hb.2 (iB b hb)⟩
   have LM:=akA.out.kp akF;obtain ⟨aHM,JB⟩:∃ aM,cX t.N w5 t.mb t.ha t.ns aM t.dv t.ds:=ri.mem
   have Ax:dT w5 t.db t.sb t.o t.drv (.pointer (some ⟨t.lb,0,none⟩)) t.mb t.tm t.seq t.hm:=ri.cell;have QH:∀ b,((Na b∨w.heap.size≤b)∧b<wr.heap.size)→b<w5.heap.size∧¬ FT {{t with F:=F4} with F:=F5} b:=fun b hb=>⟨cj hb.2 LK.sep.size,fun hf=>by
    rcases LK.sep.foot b hf with h1|h1
    ·exact iB b hb h1
    ·omega⟩
   have cZ:=Hb.out;have aBz:t.ns.length≤A:=by
    have h1:=congrArg List.length H0.out.mem;rw [List.length_map] at h1;have:=H0.out.lim.pV;omega
   have aBA:costs (t.ns.map (fun n=>n.x.e))≤C:=by rw [H0.out.mem];have:=H0.out.lim.cost;omega
   have vS:=aho Ax JB (fun hf=>(H0.out.tree.ne.fm _ hf).2.1 rfl) (fun b hb=>⟨(ri.apart b hb).1,fun hf=>(ri.apart b hb).2 (.inr (.inl hf)),fun e=>(ri.apart b hb).2 (.inr (.inr (.inl e)))⟩) (fun b hb=>⟨(QH b hb).1,fun hf=>(QH b hb).2 (.inr (.inl hf)),fun e=>(QH b hb).2 (.inr (.inr (.inl e)))⟩) LM (s:=sq) LH (by rw [List.length_map];omega) (by rw [QE.out];omega) (by omega) (by omega);rw [QE.out] at vS;obtain ⟨_,_,d7,_,_,d10,_,bA⟩:=Ax.cells;have Am:=ae vS;have QA:=ae ri;have XE:=ae (Yd.out.trans yi);clear vS yi gM hl5 hs5 LK iB akF LM JB Ax QH cZ aBz aBA ri
   go_wp2_with fail
   (with_reducible refine Am.out.mono ?_);rintro e w6 ⟨rfl,N',bE,AR⟩;obtain ⟨rj,ox⟩:=QA.out.laid AR;have oV:=AR.pV;rw [wj.out] at oV;rw [H0.out.mem] at oV;have kY:max t.seq sq=t.seq+1:=by have:=wj.out;omega
   dsimp only at rj ox;rw [kY] at rj ox;have vR:dT w6 t.db t.sb t.o t.drv (.pointer (some ⟨t.lb,0,none⟩)) t.mb t.tm sq t.hm:=by rw [wj.out];exact rj.cell
   have LN:Lp (t.seq+1,ws):=by
    have hb:=Hb.out;have hn:=Hn.out;exact ⟨hb.2.2.2.2.2.2.2,by dsimp only;have:=LI.out;omega,hb.2.1,fun y hy=>⟨hn.2 y hy,by have h1:=Pk hy;have h2:=hn.1;dsimp only at h1 ⊢;omega⟩⟩
   have rp:=H0.out.applied Dy.out.1 Dy.out.2.1 LN rj rfl rfl oV rfl rfl rfl rfl (by omega);have hall:=akr Dy.out.1 (q:=t.seq+1) (ws:=ws) (fun e he=>by have:=H0.out.top e he;omega) H0.out.Gm.ord;have AU:=ae rp;have eX:=ae hall;have LB:=ae (XE.out.trans ox);have Di:=ae vR;have aBB:=ae oV;clear AR oV kY rj ox LN rp hall Am d7 d10 bA uz QA Kc Yd HC4 akA;obtain ⟨_,d1,d7,d8,_,d10,_,bA⟩:=vR.cells;clear vR
   go_upto_region 23 with fail
   have hgd:=Grow.drew w6;have Ye:∀ W,Grow w6 W→W.cell? ⟨t.db,1,none⟩=some (.int .i64 t.o.mem)∧W.cell? ⟨t.db,8,none⟩=some (.pointer (some ⟨t.mb,0,none⟩))∧t.db<W.heap.size:=fun W hg=>by
    obtain ⟨_,c1,_,c8,_,_,_,bA⟩:=(Di.out.grow hg).cells;exact ⟨c1,c8,bA⟩
   obtain ⟨aHN,Cr⟩:=AU.out.tree.mem;have LO:=azs (Cr.grow hgd);dsimp only at LO;rw [aBB.out] at LO;obtain ⟨cs,hcs⟩:∃ cs,cs=costs (gw (t.seq+1) ws (aS s.LL)):=⟨_,rfl⟩
   rw [←hcs] at LO;have Wo:=ae hcs;clear Cr hcs;refine bX (fun W=>W.cell? ⟨t.db,1,none⟩=some (.int .i64 t.o.mem)∧W.cell? ⟨t.db,8,none⟩=some (.pointer (some ⟨t.mb,0,none⟩))∧t.db<W.heap.size) [(0,false),(1,false),(2,false),(3,false),(5,false),(6,false),(7,false),(8,false),(9,false),(4,true),(10,false)] (by kernel_rfl) (by kernel_rfl) (fun c a d v w h=>by cases d<;>exact h) (Ye _ hgd) ?_;simp only [aP,nth];have aBC:=ae Ye;clear Ye d1 d7 d8 d10 bA
   repeat (first|(refine aB (v:= ?_) (by rfl) ?_ ?_;rotate_left;(rintro W ⟨hW0,hW1,hW2⟩;go_simp;with_reducible rfl);simp only [ag,List.set])|(refine aC (by rfl) ?_;simp only [ag,List.set]))
   refine bj (by rfl) (by go_simp) LO ?_;rintro e w7 ⟨rfl,rfl⟩;refine ⟨_,rfl,aBC.out _ hgd,?_⟩;clear LO
   try first|simp only [ag,List.set]|simp only [aD]
   repeat (first|(refine aB (v:= ?_) (by rfl) ?_ ?_;rotate_left;(rintro W ⟨hW0,hW1,hW2⟩;go_simp;with_reducible rfl);simp only [ag,List.set])|(refine aC (by rfl) ?_;simp only [ag,List.set]))
   refine bm ?_;by_cases tU:t.o.mem<(cs:Int)
   ·have dA:=ajI (AU.out.grow hgd) (by have:=Hb.out;omega) (by have:=Hb.out;omega) (by have:=Hb.out;omega) (by have:=Hb.out;omega) (by have:=Hb.out;show s.V.tabs.length≤4999;omega)
    have pM:=ae dA;have uC:=ae hgd;clear dA hgd
    go_wp2_with fail
    (with_reducible refine pM.out.mono ?_);rintro e w8 ⟨c8,t8,f8,T8,K8,s8,rfl,ve,QI,Ab,BX,QJ,jL,qH,_,QK⟩;have bG:=ae (ah ve (ah QI (ah Ab (ah BX (ah QJ (ah jL (ah qH QK)))))));clear pM ve QI Ab BX QJ jL qH QK;go_wp2;go_ret2;obtain ⟨ve,QI,Ab,BX,QJ,jL,qH,QK⟩:=bG.out;have dh:=wj.out;subst dh;refine ⟨0,t.seq+1,t8,f8,T8,K8,s8,rfl,(LB.out.grow uC.out).trans ve,QI,QJ,jL,qH,.inr ⟨XT.out,HL.out,rfl,rfl,BX,fun x=>(Ab x).trans (eX.out x),?_,fun hle=>by rw [←Wo.out] at hle;omega⟩⟩;have lH:aS (LG s eW bs (t.seq+1,ws)).LL=gw (t.seq+1) ws (aS s.LL):=by
     show aS (eW++ [bs++ [(t.seq+1,ws)]])=_;rw [Qs,←Dy.out.1]
    rw [lH] at QK;rw [←HP.out.1];omega
   ·have uC:=ae hgd
    have dw:¬ (t.o.mem<(cs:Int)):=tU;have KS:(cs:Int)≤t.o.mem:=by omega
    clear hgd tU;go_wp2;go_ret2;have dh:=wj.out;subst dh;refine ⟨0,t.seq+1,_,_,_,_,_,rfl,LB.out.grow uC.out,(AU.out.grow uC.out).more (by omega),rfl,rfl,Nat.le_succ _,.inr ⟨XT.out,HL.out,rfl,rfl,rfl,eX.out,?_,fun _=>⟨rfl,?_,?_⟩⟩⟩
    ·rw [←HP.out.1]
     omega
    ·show aS (eW++ [bs++ [(t.seq+1,ws)]])=_
     rw [Qs,←Dy.out.1]
    ·rw [←HP.out.1]
end Go.Proofs.YtoolkdapflaeeaaGreatDoor
namespace Go.Proofs.YtoolkdapflaeeaaGreatDoor
open Go.RowKit Go.Gl Go.aH Mn
structure Told (size A C i:Nat) (f:Lk) (K:Nat) (s:dP):Prop where
 gy:vX size f s
 log:fG f s.V.aj.toNat (fB (ib s.LL))
 sync:qd f
 lim:uu A C i s
 uw:mL s≤i
 vZ:Cy (dE s)
 top:∀ e∈dE s,e.seq≤mL s
 K:K≤10*i
variable {Z B Nn A C i:Nat} {w w':World} {t:Tr} {f:Lk} {T K:Nat} {s:dP}
theorem dI.told (h:dI Z B Nn A C i w t f T K s):Told t.o.block.toNat A C i f K s:=
 ⟨h.gy,h.log,h.sync,h.lim,by rw [←h.seq];exact h.uw,h.vZ,fun e he=>by rw [←h.seq];exact h.top e he,h.K⟩
abbrev AV:dP:=⟨cd,[],fun _=> [],[]⟩
abbrev Gv:Lk:=ND 0 [] (fun _=>none)
theorem AW (k:ByteArray):Gv k=if k=rR then some (jJ 0,(jJ 0).length) else if k=cD 0 then some ([],0) else none:=rfl
theorem akG:Qp Gv 0:=by
 refine ⟨by rw [AW,if_neg (SE 0),if_pos rfl];simp,fun k hk hn=> ?_⟩;rw [AW] at hn
 split at hn
 ·rename_i h
  rw [h] at hk;exact absurd hk (by decide)
 ·split at hn
  ·assumption
  ·exact absurd rfl hn
theorem aBD (size:Nat) {K:Nat} (hK:K≤10):Told size 0 0 1 Gv K AV:=by
 refine ⟨⟨by rw [AW,if_pos rfl],by rw [AW,if_neg (SE 0),if_pos rfl];rfl,by rw [AW,if_neg (by decide),if_neg (Ne.symm (MJ 0))],akG,rfl,arN,(fun _ h=>by cases h),(fun x hx=>by cases hx),fun k hk hn=> ?_,fun x hx=>(by cases hx),fun x hx=>(by cases hx)⟩,⟨fun j q h=>by simp at h,fun n hn hs=> ?_⟩,fun m q hq=> ?_,?_,bk _,fun a ha=>(by cases ha),fun e he=>(by cases he),by omega⟩
 ·exfalso
  rw [AW] at hn
  split at hn
  ·rename_i h;rw [h] at hk;exact absurd hk (by decide)
  ·split at hn
   ·rename_i h
    rw [h] at hk;have h5:=Gj (b:=116) (q:= [45]) (a:=109) (p:= [97,110,105,102,101,115,116,45]) (Qq 0) (by decide);exact absurd (h5.symm.trans hk) (by decide)
   ·exact hn rfl
 ·exfalso
  have h1:Gv n=none:=by
   rw [AW];split
   ·rename_i h;rw [h] at hn;exact absurd (hn.symm.trans Xx) (by decide)
   ·split
    ·rename_i h;rw [h] at hn;exact absurd (hn.symm.trans (Az 0)) (by decide)
    ·rfl
  rw [h1] at hs;cases hs
 ·rw [AW] at hq
  split at hq
  ·cases hq;rfl
  ·split at hq
   ·cases hq;rfl
   ·cases hq
 ·exact ⟨ay _,ay _,by decide,by decide,by decide,by decide,by decide,by decide,(fun b hb=>by cases hb),by decide,by decide,by decide⟩
def Yf (Z B size A C i:Nat) (w:World) (p r:Nat) (s:dP) (Tb:Nat) (e:Ending) (w':World):Prop:=
 ∃ sb,e= .returned (.tuple #[.pointer (some ⟨sb,0,none⟩),.nilIface])∧B≤sb∧∃ tv f' T' K' F',dy w' sb p tv s.V ((0:Nat):Int)∧Mn.Own 0 w' tv s.V.tabs∧Dl Z B w' p r f' T' K' F'∧Rl B r w w'∧Told size A C i f' K' s∧T'≤Tb
theorem akH {p r:Nat} {F:Nat→Prop} (size:Nat) (h:Dl Z B w p r (fun _=>none) T K F) (hN:cI Nn B w) (hn:0<Nn) (hK:K≤5) (hroom:T+6≤Z):Calls Tryz.prog 48 #[.pointer (some ⟨p,0,none⟩)] w (Yf Z B size 0 0 1 w p r AV (T+6)):=by
 refine (ajp h hN (Q:=fun V n f' T' K'=>V=cd∧n=0∧f'=Gv∧T'≤T+6∧K'≤10) (fun V n f' T' K' hq=>by obtain ⟨_,rfl,_,_,h5⟩:=hq;omega) (fun w1 sb hg Gc hS=> ?_)).mono ?_
 ·have hB:B≤sb:=aN h.base Gc
  refine (aAn hS (h.grow hg) hB (hN.grow hg h.base) hn rfl rfl hroom).mono ?_;rintro e w2 ⟨rfl,nu,⟨T',F',Yg,hd⟩,hr⟩;exact ⟨rfl,_,cd,0,Gv,T',K+3,F',nu,⟨rfl,.inl ⟨rfl,rfl⟩⟩,hd,hr,akG,rfl,rfl,rfl,Yg,by omega⟩
 ·rintro e w2 ⟨sb,rfl,hB,tv,V,n,f',T',K',F',hS,ho,hd,hr,rfl,rfl,rfl,Yg,hK'⟩
  exact ⟨sb,rfl,hB,tv,_,T',K',F',hS,ho,hd,hr,aBD size hK',Yg⟩
theorem aBE {p r:Nat} {F:Nat→Prop} {size:Nat} (ht:Told size A C i f K s) (h:Dl Z B w p r f T K F) (hN:cI Nn B w) (hn:0<Nn) (hi:i≤5000):Calls Tryz.prog 48 #[.pointer (some ⟨p,0,none⟩)] w (Yf Z B size A C i w p r s T):=by
 have hl:=ht.lim;have hK:=ht.K;refine (ajp h hN (Q:=fun V n f' T' K'=>V=s.V∧n=0∧f'=f∧T'=T∧K'=K) (fun V n f' T' K' hq=>by obtain ⟨_,rfl,_,_,rfl⟩:=hq;omega) (fun w1 sb hg Gc hS=> ?_)).mono ?_
 ·have hB:B≤sb:=aN h.base Gc
  refine (aAs hS (h.grow hg) hB (hN.grow hg h.base) hn (by omega) ht.gy.cur ht.gy.Gh ht.gy.Gi (by have:=hl.adds;omega) (by have:=hl.el;omega) ht.gy.all).mono ?_;rintro e w2 ⟨rfl,⟨tv,nu,ho⟩,⟨F',hd⟩,hr⟩;exact ⟨rfl,tv,s.V,0,f,T,K,F',nu,ho,hd,hr,ht.gy.one,rfl,rfl,rfl,rfl,rfl⟩
 ·rintro e w2 ⟨sb,rfl,hB,tv,V,n,f',T',K',F',hS,ho,hd,hr,rfl,rfl,rfl,rfl,rfl⟩
  exact ⟨sb,rfl,hB,tv,f',T',K',F',hS,ho,hd,hr,ht,ay _⟩
end Go.Proofs.YtoolkdapflaeeaaGreatDoor
namespace Go.Proofs.YtoolkdapflaeeaaGreatDoor
open Go.RowKit Go.Gl Go.aH Mn
structure DD (w3 W:World) (ds:List Int) (mb ha tm hm:Nat) (dv:Value):Prop where
 mem:∃ N:Nat→Prop,cX N W mb ha [] 0 dv ds
 row:Go.Gl.Row1 3 w3.heap.size W dv (ds.map (fun x=> .int .i64 x))
 QL:w3.heap.size≤mb
 QM:w3.heap.size≤ha
 tab:fA W tm encI (fun _=>none) 0
 Gw:w3.heap.size≤tm
 held:fA W hm KT (fun _=>none) 0
 Gx:w3.heap.size≤hm
 ne:tm≠hm
theorem DD.grow {w3 W W':World} {ds:List Int} {mb ha tm hm:Nat} {dv:Value} (h:DD w3 W ds mb ha tm hm dv) (hg:Grow W W'):DD w3 W' ds mb ha tm hm dv:=by
 obtain ⟨N,h2⟩:=h.mem;exact ⟨⟨N,h2.grow hg⟩,h.row.grow hg,h.QL,h.QM,h.tab.grow hg,h.Gw,h.held.grow hg,h.Gx,h.ne⟩
def S8 (w3:World) (sb xb:Nat) (o:Od) (cv:Value) (ds:List Int) (j:Nat) (v:Value) (W:World):Prop:=
 match j with
 |0=>v= .pointer (some ⟨sb,0,none⟩)
 |1=>v=sN o cv
 |2=>v= .pointer (some ⟨xb,5,none⟩)
 |3=>v=cv
 |4=>∃ mb ha dv,v= .pointer (some ⟨mb,0,none⟩)∧(∃ N:Nat→Prop,cX N W mb ha [] 0 dv ds)∧Go.Gl.Row1 3 w3.heap.size W dv (ds.map (fun x=> .int .i64 x))∧w3.heap.size≤mb∧w3.heap.size≤ha
 |5=>∃ tm,v= .map (some tm)∧fA W tm encI (fun _=>none) 0∧w3.heap.size≤tm
 |6=>∃ hm,v= .map (some hm)∧fA W hm KT (fun _=>none) 0∧w3.heap.size≤hm
 |7=>∃ mb ha tm hm dv,v= .agg (oO sb o cv (.pointer none) mb tm 0 hm)∧DD w3 W ds mb ha tm hm dv
 |8=>∃ db mb ha tm hm dv,v= .pointer (some ⟨db,0,none⟩)∧w3.heap.size≤db∧dT W db sb o cv (.pointer none) mb tm 0 hm∧DD w3 W ds mb ha tm hm dv
 |9=>∃ db mb ha tm hm dv,v= .pointer (some ⟨db,0,none⟩)∧w3.heap.size≤db∧dT W db sb o cv (.pointer none) mb tm 0 hm∧DD w3 W ds mb ha tm hm dv
 |_=>True
theorem S8.keep {w3:World} {sb xb:Nat} {o:Od} {cv:Value} {ds:List Int}:∀ (j:Nat) (v:Value) (W W':World),Grow W W'→S8 w3 sb xb o cv ds j v W→S8 w3 sb xb o cv ds j v W':=by
 intro j v W W' hg h
 match j,h with
 |0,h=>exact h
 |1,h=>exact h
 |2,h=>exact h
 |3,h=>exact h
 |4,⟨mb,ha,dv,h1,⟨N,h3⟩,h6,h4,h5⟩=>exact ⟨mb,ha,dv,h1,⟨N,h3.grow hg⟩,h6.grow hg,h4,h5⟩
 |5,⟨tm,h1,h2,h3⟩=>exact ⟨tm,h1,h2.grow hg,h3⟩
 |6,⟨tm,h1,h2,h3⟩=>exact ⟨tm,h1,h2.grow hg,h3⟩
 |7,⟨mb,ha,tm,hm,dv,h1,h2⟩=>exact ⟨mb,ha,tm,hm,dv,h1,h2.grow hg⟩
 |8,⟨db,mb,ha,tm,hm,dv,h1,h2,h3,h4⟩=>exact ⟨db,mb,ha,tm,hm,dv,h1,h2,h3.grow hg,h4.grow hg⟩
 |9,⟨db,mb,ha,tm,hm,dv,h1,h2,h3,h4⟩=>exact ⟨db,mb,ha,tm,hm,dv,h1,h2,h3.grow hg,h4.grow hg⟩
 |_+10,_=>exact True.intro
def T8 (w3:World) (l:Array Bool) (a:Act) (W:World):Prop:=
 Grow w3 W∧(l.getD 5 false=true→l.getD 6 false=true→∃ tm hm,a.tmps[44]?=some (.map (some tm))∧a.tmps[45]?=some (.map (some hm))∧tm≠hm)
theorem T8.next {w3:World} {l:Array Bool} {a:Act} {W W':World} {i d:Nat} {v:Value} (h:T8 w3 l a W) (hi:i≠5∧i≠6) (hd:d≠44∧d≠45) (hg:Grow W W'):T8 w3 (l.setIfInBounds i true) (a.put (some d) v) W':=
 ⟨h.1.trans hg,fun h5 h6=>by
  rw [getD_set_ne false hi.1] at h5;rw [getD_set_ne false hi.2] at h6;obtain ⟨tm,hm,h1,h2,h3⟩:=h.2 h5 h6;exact ⟨tm,hm,ix hd.1 h1,ix hd.2 h2,h3⟩⟩
structure Bl (Z B Nn:Nat) (W:World) (db sb p r mb ha tm hm sq:Nat) (o:Od) (cv dv tv:Value) (ds:List Int) (V:bu) (f:Lk) (T K:Nat) (F:Nat→Prop):Prop where
 cell:dT W db sb o cv (.pointer none) mb tm sq hm
 set:dy W sb p tv V ((0:Nat):Int)
 own:Mn.Own 0 W tv V.tabs
 mem:cX (fun b=>dv.ownBlock=some b) W mb ha [] 0 dv ds
 LP:Go.Gl.Row1 3 0 W dv (ds.map (fun x=> .int .i64 x))
 QN:Go.Gl.Row1 3 0 W cv (ds.map (fun x=> .int .i64 x))
 held:fA W hm KT (fun _=>none) 0
 aW:Dl Z B W p r f T K F
 gV:cI Nn B W
def aBF (W W':World):Prop:=W.heap.size≤W'.heap.size∧∀ (b:Nat) (arr:Array Value) (ty:TypeId) (fz:Nat×Nat),W.heap[b]?=some (.cells arr ty fz)→(ty=93∨ty=154∨ty=101∨ty=181∨ty=176∨ty=287∨ty=3∨ty=85)→W'.heap[b]?=W.heap[b]?
theorem Bl.keep {Z B Nn:Nat} {W W':World} {db sb p r mb ha tm hm sq:Nat} {o:Od} {cv dv tv:Value} {ds:List Int} {V:bu} {f f':Lk} {T K T' K':Nat} {F F':Nat→Prop} (h:Bl Z B Nn W db sb p r mb ha tm hm sq o cv dv tv ds V f T K F)
  (hk:aBF W W') (hh:W'.heap[hm]?=W.heap[hm]?) (hd:Dl Z B W' p r f' T' K' F') (hb:∀ b,b<B→W'.heap[b]?=W.heap[b]?):Bl Z B Nn W' db sb p r mb ha tm hm sq o cv dv tv ds V f' T' K' F':=by
 have hC:W.heap[db]?=some (.cells (oO sb o cv (.pointer none) mb tm sq hm) 93 (0,0)):=h.cell;have hS:W.heap[sb]?=some (.cells (setCells p tv V ((0:Nat):Int)) 154 (0,0)):=h.set;have kd:∀ {v:Value},Go.Gl.Row1 3 0 W v (ds.map (fun x=> .int .i64 x))→∀ b,v.ownBlock=some b→W'.heap[b]?=W.heap[b]?:=fun hr b hb=>by
  obtain ⟨cur,hc⟩:=hr.block hb;exact hk.2 b _ _ _ hc (.inr (.inr (.inr (.inr (.inr (.inr (.inl rfl)))))))
 refine ⟨h.cell.keep (hk.2 _ _ _ _ hC (.inl rfl)),h.set.same (hk.2 _ _ _ _ hS (.inr (.inl rfl))),AB h.own (fun b cur hc=>hk.2 _ _ _ _ hc (.inr (.inr (.inl rfl)))),h.mem.keep (fun b hb=> ?_) ⟨hk.1,fun b hb _=>kd h.LP b hb⟩,h.LP.keep (kd h.LP),h.QN.keep (kd h.QN),h.held.keep hh,hd,h.gV.keep hb⟩;obtain ⟨arr,ty,h1,h2⟩:=h.mem.kind hb;exact hk.2 _ _ _ _ h1 (by rcases h2 with rfl|rfl|rfl<;>simp)
theorem Bl.gx {Z B Nn:Nat} {W W':World} {db sb p r mb ha tm hm sq:Nat} {o:Od} {cv dv tv:Value} {ds:List Int} {V:bu} {f:Lk} {T K:Nat} {F:Nat→Prop} (h:Bl Z B Nn W db sb p r mb ha tm hm sq o cv dv tv ds V f T K F)
  {g:Int→Option Value} {m:Nat} (ht:fA W tm encI g m) (hg:GX tm W W') (hne:tm≠hm) (hF:¬ F tm) (hB:B≤tm):Bl Z B Nn W' db sb p r mb ha tm hm sq o cv dv tv ds V f T K F:=by
 have hs:=Sep.Lf hg;refine h.keep ⟨hs.size,fun b arr ty fz hb _=>hs.out b (af hb) (fun e=>ht.map (by rw [←e];exact hb))⟩ (hs.out hm h.held.lt (fun e=>hne e.symm)) ?_ (fun b hb=> ?_)
 ·obtain ⟨V',d1,d2⟩:=h.aW
  exact ⟨V',d1.keep hs.size (fun b hb=>hs.out b (h.aW.foot hb).2 (fun e=>hF (by rw [←e];exact hb))),d2⟩
 ·exact hs.out b (by have:=h.aW.base;omega) (fun e=>by omega)
theorem Bl.sep {Z B Nn:Nat} {W W':World} {db sb p r mb ha tm hm sq:Nat} {o:Od} {cv dv tv:Value} {ds:List Int} {V:bu} {f f':Lk} {T K T' K':Nat} {F F':Nat→Prop} (h:Bl Z B Nn W db sb p r mb ha tm hm sq o cv dv tv ds V f T K F)
  (hd:Dl Z B W' p r f' T' K' F') (hs:Sep F W W' F') (hh:¬ F hm):Bl Z B Nn W' db sb p r mb ha tm hm sq o cv dv tv ds V f' T' K' F':=by
 refine h.keep ⟨hs.size,fun b arr ty fz hb ht=>hs.out b (af hb) (h.aW.apart hb ?_ ?_ ?_)⟩ (hs.out hm h.held.lt hh) hd (fun b hb=>hs.out b (by have:=h.aW.base;omega) (fun hf=>by have:=(h.aW.foot hf).1;omega))
 all_goals rcases ht with rfl|rfl|rfl|rfl|rfl|rfl|rfl|rfl<;>decide
def Yh (w9:World) (tm:Nat) (tabs:List Tb) (az:Int→List En) (iv:Value) (wr:World):Prop:=
 ∃ (i:Nat) (ld:Int→Option (Nat×List En)) (g:Int→Option Value) (gm:Nat),iv= .int .i64 (i:Int)∧i≤tabs.length∧GX tm w9 wr∧fA wr tm encI g gm∧
  (∀ k b l,ld k=some (b,l)→g k=some (.pointer (some ⟨b,0,none⟩))∧sI w9.heap.size wr b l∧∃ x∈tabs,l=az x.file)∧
  (∀ x∈tabs.take i,∃ b,ld x.file=some (b,az x.file))
theorem sI.mono {A A':Nat} {W:World} {tb:Nat} {l:List En} (h:sI A W tb l) (hA:A'≤A):sI A' W tb l:=by
 obtain ⟨v,fv,nb,ys,h1,h2,h3,h4⟩:=h;refine ⟨v,fv,nb,ys,h1,aN hA h2,h3,⟨h4.1.1,?_⟩,fun y hy=> ?_⟩
 ·rcases h4.1.2 with h5|⟨g',cap,cur,h5,hB,jO⟩
  ·exact .inl h5
  ·exact .inr ⟨g',cap,cur,h5,aN hA hB,jO⟩
 ·obtain ⟨q1,q2⟩:=h4.2 y hy
  exact ⟨q1,q2.imp id (fun q3 b hb=>(q3 b hb).imp id (fun q4=>⟨aN hA q4.1,q4.2⟩))⟩
theorem Told.table {size A C i:Nat} {f:Lk} {K:Nat} {s:dP} (h:Told size A C i f K s) {x:Tb} (hx:x∈s.V.tabs):(s.az x.file).length≤A∧costs (s.az x.file)≤C:=by
 have h1:(s.az x.file).length≤(s.V.tabs.map fun x=>(s.az x.file).length).sum:=Qh (List.mem_map.2 ⟨x,hx,rfl⟩);have h2:costs (s.az x.file)≤(s.V.tabs.map fun x=>costs (s.az x.file)).sum:=Qh (List.mem_map.2 ⟨x,hx,rfl⟩);have h3:=h.lim.pV;have h4:=h.lim.cost;omega
def akI (db sb p r lb mb tm hm ha:Nat) (o:Od) (cv:Value) (ds:List Int) (tv dv:Value) (V:bu) (sq m:Nat) (NT F:Nat→Prop) (g:Int→Option Value) (gm:Nat) (ld:Int→Option (Nat×List En)):Tr:=
 ⟨db,sb,p,r,lb,mb,tm,hm,ha,o,cv,ds,tv,dv,V,sq,m,fun b=>NT b∨cv.ownBlock=some b∨dv.ownBlock=some b,F,[],g,gm,ld,fun _=>none,0⟩
theorem Bl.tree {Z B Nn:Nat} {W:World} {db sb p r mb ha tm hm sq:Nat} {o:Od} {cv dv tv:Value} {ds:List Int} {V:bu} {f:Lk} {T K:Nat} {F:Nat→Prop} (h:Bl Z B Nn W db sb p r mb ha tm hm sq o cv dv tv ds V f T K F)
  {lb m:Nat} (hl:di W lb p bU (m:Int)) {g:Int→Option Value} {gm:Nat} (ht:fA W tm encI g gm) {ld:Int→Option (Nat×List En)} {NT:Nat→Prop} (jz:∀ k b l,ld k=some (b,l)→g k=some (.pointer (some ⟨b,0,none⟩))∧pX NT W b l)
  (LQ:∀ b,NT b→b<W.heap.size∧¬ F b∧¬ FM mb ha [] b∧b≠db∧b≠sb∧b≠lb∧b≠tm∧b≠hm) (hb:B≤db∧B≤sb∧B≤lb∧B≤mb∧B≤ha∧B≤tm∧B≤hm) (h1:¬ F tm) (h2:¬ F hm) (h3:tm≠hm) (fS:ds.length≤1000000000):
  cz Z B Nn (W.setCell ⟨db,7,none⟩ (.pointer (some ⟨lb,0,none⟩))) (akI db sb p r lb mb tm hm ha o cv ds tv dv V sq m NT F g gm ld) f T K:=by
 have hC:W.heap[db]?=some (.cells (oO sb o cv (.pointer none) mb tm sq hm) 93 (0,0)):=h.cell;have hS:W.heap[sb]?=some (.cells (setCells p tv V ((0:Nat):Int)) 154 (0,0)):=h.set;have st:∀ b,b≠db→(W.setCell ⟨db,7,none⟩ (.pointer (some ⟨lb,0,none⟩))).heap[b]?=W.heap[b]?:=fun b hn=>aK _ _ _ _ hn
 have ty:∀ {b:Nat} {arr:Array Value} {ty:TypeId} {fz:Nat×Nat},W.heap[b]?=some (.cells arr ty fz)→ty≠93→b≠db:=fun hb sA e=>by
  rw [e,hC] at hb;exact sA (cA (bB hb)).2.1.symm
 have fmd:∀ b,FM mb ha [] b→b≠db:=fun b hb=>by
  obtain ⟨arr,t',e1,e2⟩:=h.mem.kind hb;refine ty e1 ?_;rcases e2 with rfl|rfl|rfl<;>decide
 have tmd:tm≠db:=fun e=>ht.map (by rw [e];exact hC)
 have hmd:hm≠db:=fun e=>h.held.map (by rw [e];exact hC)
 have row:∀ {v:Value},Go.Gl.Row1 3 0 W v (ds.map (fun x=> .int .i64 x))→∀ b,v.ownBlock=some b→b<W.heap.size∧b≠db∧b≠sb∧b≠lb∧b≠tm∧b≠hm∧¬ FM mb ha [] b∧¬ F b:=fun hr b hb=>by
  obtain ⟨cur,hc⟩:=hr.block hb;have inj:∀ {a2:Array Value} {t2:TypeId} {f2:Nat×Nat},W.heap[b]?=some (.cells a2 t2 f2)→(3:TypeId)=t2:=fun h2=>(cA (bB (hc.symm.trans h2))).2.1
  refine ⟨(hr.lt hb).2,ty hc (by decide),fun e=> ?_,fun e=> ?_,fun e=>ht.map (by rw [←e];exact hc),fun e=>h.held.map (by rw [←e];exact hc),fun hf=> ?_,h.aW.apart hc (by decide) (by decide) (by decide)⟩
  ·have:=inj (by rw [e];exact hS);revert this;decide
  ·have:=inj (by rw [e];exact hl.self);revert this;decide
  ·obtain ⟨arr,t',e1,e2⟩:=h.mem.kind hf
   have:=inj e1;rcases e2 with rfl|rfl|rfl<;>revert this<;>decide
 have CX:∀ {v:Value},Go.Gl.Row1 3 0 W v (ds.map (fun x=> .int .i64 x))→Go.Gl.Row1 3 0 (W.setCell ⟨db,7,none⟩ (.pointer (some ⟨lb,0,none⟩))) v (ds.map (fun x=> .int .i64 x)):=fun hr=>hr.keep (fun b hb=>st b (row hr b hb).2.1)
 have vH:=h.aW.apart hC (by decide) (by decide) (by decide);have kN:Kp NT W (W.setCell ⟨db,7,none⟩ (.pointer (some ⟨lb,0,none⟩))):=⟨by simp,fun b hb _=>st b (LQ b hb).2.2.2.1⟩
 refine ⟨Go.Gl.aI hC 7 _,h.set.same (st _ (ty hS (by decide))),AB h.own (fun b cur hc=>st b (ty hc (by decide))),hl.same (st _ (ty hl.self (by decide))),⟨0,(h.mem.keep (fun b hb=>st b (fmd b hb)) ⟨by simp,fun b hb _=>st b (row h.LP b hb).2.1⟩).mono (fun b hb=> .inr (.inr hb))⟩,
  ht.keep (st _ tmd),fun k b l hk=>⟨(jz k b l hk).1,((jz k b l hk).2.kp kN).mono (fun b hb=> .inl hb)⟩,h.held.keep (st _ hmd),JR (CX h.QN) fS (fun g hg=> .inr (.inl hg)),?_,h.gV.keep (fun b hb'=>st b (by omega)),fun b hb'=> ?_,fun b hb'=> ?_,h1,h2,h3⟩
 ·obtain ⟨V',d1,d2⟩:=h.aW
  exact ⟨V',d1.keep (by simp) (fun b hb'=>st b (fun e=>vH (by rw [←e];exact hb'))),d2⟩
 ·have key:b<W.heap.size∧b≠db∧b≠sb∧b≠lb∧b≠tm∧b≠hm∧¬ FM mb ha [] b∧¬ F b:=by
   rcases hb' with hb'|hb'|hb'
   ·have:=LQ b hb';exact ⟨this.1,this.2.2.2.1,this.2.2.2.2.1,this.2.2.2.2.2.1,this.2.2.2.2.2.2.1,this.2.2.2.2.2.2.2,this.2.2.1,this.2.1⟩
   ·exact row h.QN b hb'
   ·exact row h.LP b hb'
  obtain ⟨k1,k2,k3,k4,k5,k6,k7,k8⟩:=key;refine ⟨by simpa using k1,?_⟩;rintro (q|q|q|q|q|q|q)
  ·exact k8 q
  ·exact k7 q
  ·exact k2 q
  ·exact k3 q
  ·exact k4 q
  ·exact k5 q
  ·exact k6 q
 ·rcases hb' with q|q|q|q|q|q|q
  ·exact (h.aW.foot q).1
  ·rcases q with q|q|⟨_,q,_⟩
   ·rw [q];exact hb.2.2.2.1
   ·rw [q];exact hb.2.2.2.2.1
   ·cases q
  ·rw [q];exact hb.1
  ·rw [q];exact hb.2.1
  ·rw [q];exact hb.2.2.1
  ·rw [q];exact hb.2.2.2.2.2.1
  ·rw [q];exact hb.2.2.2.2.2.2
def akJ (Z B Nn A C i:Nat) (w:World) (p r:Nat) (o:Od) (ds:List Int) (s:dP) (Tb:Nat) (e:Ending) (w':World):Prop:=
 ∃ (t':Tr) (f':Lk) (T' K':Nat) (s':dP),e= .returned (.tuple #[.pointer (some ⟨t'.db,0,none⟩),.nilIface])∧dI Z B Nn A C (i+1) w' t' f' T' K' s'∧t'.p=p∧t'.r=r∧t'.o=o∧t'.ds=ds∧
  s'.V=s.V∧(∀ x,x∈dE s'↔x∈dE s)∧t'.seq=mL s∧t'.hh=(fun _=>none)∧t'.hn=0∧w.heap.size≤t'.tm∧w.heap.size≤t'.hm∧(∀ b,t'.N b→w.heap.size≤b)∧Rl B r w w'∧T'≤Tb
theorem Rl.akK {B r:Nat} {w W W':World} (h:Rl B r w W) {G G':Nat→Prop} (hs:Sep G W W' G') (hG:∀ b,G b→w.heap.size≤b) (hB:B≤w.heap.size):Rl B r w W':=by
 refine ⟨⟨hs.os.trans h.hold.os,hs.tape.trans h.hold.tape,hs.output.trans h.hold.output,aN h.hold.size hs.size,fun b arr ty fz hb ht=> ?_,fun b ob hb hc hn=> ?_⟩,⟨hs.os.trans h.below.os,hs.tape.trans h.below.tape,hs.output.trans h.below.output,aN h.below.size hs.size,fun b hb=> ?_⟩⟩
 ·have h1:=h.hold.keep b arr ty fz hb ht
  exact (hs.out b (af h1) (fun hg=>by have:=hG b hg;have:=af hb;omega)).trans h1
 ·have h1:=h.hold.maps b ob hb hc hn
  exact (hs.out b (af h1) (fun hg=>by have:=hG b hg;have:=af hb;omega)).trans h1
 ·have h1:=h.below.block b hb
  have h2:=h.hold.size;exact (hs.out b (by omega) (fun hg=>by have:=hG b hg;omega)).trans h1
theorem Rl.stp {Z B Nn:Nat} {w W W':World} {t t':Tr} {f:Lk} {T K:Nat} (h:Rl B t.r w W) (ht:cz Z B Nn W t f T K) (hs:eC W t W' t') (hn:t.ns= []) (h1:w.heap.size≤t.db) (h2:w.heap.size≤t.mb) (h3:w.heap.size≤t.ha) (h4:w.heap.size≤t.lb) (h5:w.heap.size≤t.tm) (h6:w.heap.size≤t.hm) (hB:B≤w.heap.size):Rl B t.r w W':=by
 have hs':=hs.sep;have hS:W.heap[t.sb]?=some (.cells (setCells t.p t.tv t.V ((0:Nat):Int)) 154 (0,0)):=ht.set;have jD:∀ b,FM t.mb t.ha t.ns b→w.heap.size≤b:=fun b hb=>by
  rcases hb with q|q|⟨n,q,_⟩
  ·omega
  ·omega
  ·rw [hn] at q;cases q
 refine ⟨⟨hs'.os.trans h.hold.os,hs'.tape.trans h.hold.tape,hs'.output.trans h.hold.output,aN h.hold.size hs'.size,fun b arr ty fz hb sA=> ?_,fun b ob hb hc Oq=> ?_⟩,⟨hs'.os.trans h.below.os,hs'.tape.trans h.below.tape,hs'.output.trans h.below.output,aN h.below.size hs'.size,fun b hb=> ?_⟩⟩
 ·have g1:=h.hold.keep b arr ty fz hb sA
  have lb:=af hb;refine (hs'.out b (af g1) ?_).trans g1;rintro (q|q|q|q|q|q|q)
  ·exact ht.aW.apart g1 (fun e=>sA (.inl e)) (fun e=>sA (.inr (.inl e))) (fun e=>sA (.inr (.inr (.inl e)))) q
  ·have:=jD b q;omega
  ·omega
  ·rw [q,hS] at g1
   exact sA (.inr (.inr (.inr (cA (bB g1)).2.1.symm)))
  ·omega
  ·omega
  ·omega
 ·have g1:=h.hold.maps b ob hb hc Oq
  have lb:=af hb;refine (hs'.out b (af g1) ?_).trans g1;rintro (q|q|q|q|q|q|q)
  ·exact ht.aW.Tv g1 hc Oq q
  ·have:=jD b q;omega
  ·omega
  ·rw [q,hS] at g1
   exact hc _ _ _ (bB g1).symm
  ·omega
  ·omega
  ·omega
 ·exact (hs'.out b (by have:=h.hold.size;omega) (fun hf=>by have:=ht.base b hf;omega)).trans (h.below.block b hb)
def iu (LL:List (List (Nat×List Wr))):List (List (Nat×List Wr)):=if LL= [] then [[]] else LL
theorem akL (LL:List (List (Nat×List Wr))):(iu LL).flatten=LL.flatten:=by
 unfold iu;by_cases h:LL= []
 ·rw [if_pos h,h];rfl
 ·rw [if_neg h]
theorem akM (LL:List (List (Nat×List Wr))):iu LL≠ []:=by
 unfold iu;by_cases h:LL= []
 ·rw [if_pos h];exact List.cons_ne_nil _ _
 ·rw [if_neg h];exact h
theorem akN (LL:List (List (Nat×List Wr))):(iu LL).length≤LL.length+1∧0<(iu LL).length:=by
 refine ⟨?_,List.length_pos_iff.2 (akM LL)⟩;unfold iu;by_cases h:LL= []
 ·rw [if_pos h];simp
 ·rw [if_neg h];omega
theorem Yi (LL:List (List (Nat×List Wr))):mD (fB (ib LL))=fB (ib (iu LL)):=by
 unfold mD iu;by_cases h:LL= []
 ·rw [if_pos h,h];simp [bP]
 ·rw [if_neg h,if_neg (fun e=>h (by simpa using e))]
theorem Told.opened {Z B Nn A C i:Nat} {w:World} {t:Tr} {f:Lk} {T K K' a:Nat} {s:dP} (h:Told t.o.block.toNat A C i f K s) (ha:s.V.aj=(a:Int)) (ht:cz Z B Nn w t (oB bU a f (fB (ib s.LL))) T K') (hV:t.V=s.V) (iT:t.ns.map (fun n=>n.x.e)=s.LL.flatten.foldl (fun l b=>gw b.1 b.2 l) [])
  (hm:t.m=a+((iu s.LL).length-1)) (jz:∀ x∈s.V.tabs,∃ b,t.ld x.file=some (b,s.az x.file)) (rh:pY t.o) (dh:t.seq=(s.LL.flatten.map (·.1)).foldl max s.V.seq.toNat) (hK:K'≤K+10):dI Z B Nn A C (i+1) w t (oB bU a f (fB (ib s.LL))) T K' {s with LL:=iu s.LL}:=by
 have hl:=h.lim;have hf:=akL s.LL;obtain ⟨yI,hl2⟩:=akN s.LL;have hat:s.V.aj.toNat=a:=by omega
 have lH:aS (iu s.LL)=aS s.LL:=by unfold aS;rw [hf]
 have np:dE {s with LL:=iu s.LL}=dE s:=by unfold dE;dsimp only;rw [lH]
 have htp:mL {s with LL:=iu s.LL}=mL s:=by unfold mL;dsimp only;rw [hf]
 have vq:=h.log;rw [hat] at vq;refine ⟨ht,hV,?_,?_,?_,?_,by rw [iT,lH];rfl,by rw [hm];dsimp only;rw [ha];omega,akM _,jz,rh,by rw [dh,htp];rfl,by rw [dh];have:=h.uw;unfold mL at this;omega,by rw [np];exact h.vZ,fun e he=> ?_,by have:=h.K;omega⟩
 ·have h2:=h.gy.Xz (f':=oB bU a f (fB (ib s.LL))) (fun n hn=>by
   unfold oB;split
   ·exact fZ _ (rf hn _) _
   ·rfl)
  exact ⟨h2.cur,h2.Gh,h2.tmp,h2.one,h2.all,h2.good,h2.Gi,h2.tabs,h2.only,h2.az,h2.files⟩
 ·dsimp only
  rw [hat,←Yi];exact Um vq
 ·unfold oB
  split
  ·exact qd.set h.sync _ []
  ·exact h.sync
 ·exact ⟨by dsimp only;rw [lH];exact hl.pV,by dsimp only;rw [lH];exact hl.cost,hl.vY,by have:=hl.aj;dsimp only;omega,hl.Dv,by have:=hl.next;dsimp only;omega,by have:=hl.el;dsimp only;omega,by have:=hl.adds;dsimp only;omega,fun b hb=>hl.Dw b (by rw [←hf];exact hb),by have:=hl.Gk;dsimp only;rw [hf];omega,by dsimp only;rw [hf];exact hl.Ls,by dsimp only;rw [hf];exact hl.Lt⟩
 ·rw [np] at he
  rw [dh];exact h.top e he
end Go.Proofs.YtoolkdapflaeeaaGreatDoor
