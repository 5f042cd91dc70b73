/- Helpers. -/
import Derived.Deep.CutRange
import Derived.Deep.DeepCutAuto
import Derived.Test.YtoolkdapflaeeaaGreatDoorW0A
import Derived.Laws.OwnMore
import Derived.Test.YtoolkdapflaeeaaGreatDoorW09
set_option maxRecDepth 100000
set_option maxHeartbeats 16000000
set_option linter.unusedSimpArgs false
open Go
variable {B b c d g ha aU i j k n q rb seq tb xb : Nat} {L l l' val x : List UInt8} {M N : Nat → Prop} {W W' w w0 : World} {bv dv lv u v v0 : Value} {cs : Array Value} {ds : List Int} {f : Nat × Nat} {t : TypeId} {xs : List Value}
namespace Go.Proofs.YtoolkdapflaeeaaGreatDoor
open Go.RowKit Go.Gl Go.aF Mn
def Er (B tb:Nat) (bv:Value) (L:List UInt8) (g:Nat) (f:ByteArray) (vv:Value) (val:List UInt8) (j:Nat) (v:Value) (W:World):Prop:=
 match j with
 |0=>v=bv
 |1=>v= .int .u64 (g:Int)
 |2=>aI B W v (L++aD g)
 |3=>v= .pointer (some ⟨tb,0,none⟩)
 |4=>v= .string f
 |5=>Bv W v f.data.toList
 |6=>∃ (q:Nat) (pv:Value),v= .slice (some ⟨q,0,none⟩) 1 1∧W.heap[q]?=some (.cells #[pv] 49 (0,0))∧Bv W pv f.data.toList
 |7=>aI B W v (L++aD g++aW f.data.toList)
 |8=>v= .pointer (some ⟨tb,2,none⟩)
 |9=>v=vv
 |10=>∃ (q:Nat),v= .slice (some ⟨q,0,none⟩) 1 1∧W.heap[q]?=some (.cells #[vv] 49 (0,0))
 |11=>aI B W v (L++aD g++aW f.data.toList++aW val)
 |12=>aI B W v (L++aD g++aW f.data.toList++aW val)
 |_=>True
theorem Er.keep {f:ByteArray} {vv:Value}:∀ (j:Nat) (v:Value) (W W':World),Grow W W'→Er B tb bv L g f vv val j v W→Er B tb bv L g f vv val j v W':=by
 intro j v W W' hR h;unfold Er at h
 split at h<;>first
  |exact h
  |exact Bv.grow h hR
  |exact Row1.grow h hR
  |(obtain ⟨q,pv,h1,h2,h3⟩:=h;exact ⟨q,pv,h1,hR.heap h2,h3.grow hR⟩)
  |(obtain ⟨q,h1,h2⟩:=h;exact ⟨q,h1,hR.heap h2⟩)
  |(unfold Er;split<;>first|trivial|(exfalso;simp_all))
def pA (w5:World) (bv:Value) (l:Array Bool) (a:Act) (W:World):Prop:=Grow w5 W∧(l.getD 12 false=false→a.tmps[5]?=some bv)
theorem pA.next {w5:World} {l:Array Bool} {a:Act} (h:pA w5 bv l a W) (hi:i≠12) (hd:d≠5) (hg:Grow W W'):pA w5 bv (l.setIfInBounds i true) (a.put (some d) v) W':=
 ⟨h.1.trans hg,fun hl=>gi hd (h.2 (by rw [getD_set_ne false hi] at hl;exact hl))⟩
def XR (w:World) (ys:List Wv) (pre:List UInt8) (bv iv:Value) (wr:World):Prop:=
 ∃ i:Nat,iv= .int .i64 i∧i≤ys.length∧aI w.heap.size wr bv (pre++((ys.take i).map (·.x)).flatMap kL)∧Grow w wr
theorem take_one {α:Type} {l:List α} {x:α} (h:l[i]?=some x):l.take (i+1)=l.take i++ [x]:=by
 rw [List.take_add_one,h];rfl
theorem xu {v1 v2:Value} (h:W.heap[b]?=some (.cells #[v0,v1,v2] t f)):W.cell? ⟨b,0,none⟩=some v0∧W.cell? ⟨b,1,none⟩=some v1∧W.cell? ⟨b,2,none⟩=some v2:=by
 refine ⟨?_,?_,?_⟩<;>simp [World.cell?,h]
theorem aAI {v:Value} {ys:List Wv} (h:Ws N w v ys) {seq:Nat} (hs:seq<18446744073709551616) (dW:ys.length≤1000000000) (sD:bA (ys.map (·.x))≤1000000000):
  Calls Tryz.prog 41 #[.int .u64 (seq:Int),v] w fun e w'=>∃ v,e= .returned v∧aI w.heap.size w' v (kM seq (ys.map (·.x)))∧Grow w w':=by
 have jf:=oI (w:=w) (bv:= .slice none 0 0) (l:= []) ⟨none,0,rfl,aw _,aY _,fun _=>rfl,.inl rfl⟩ (by simp) (n:=seq) hs;have wu:=uW (n:=ys.length) (by omega);obtain ⟨ya,yc,rfl⟩:=h.slice;have mZ:=ae jf;have H:=ae h;have XS:=ae sD;clear h jf sD;go_enter Tryz.func41,Tryz.ntmps41
 go_wp2_with fail
 (with_reducible refine mZ.out.mono ?_);rintro e w2 ⟨nv,rfl,fY,hg2⟩;have aiR:=oI (cI fY) (by have:=cB seq;simp;omega) (n:=ys.length) (by omega);obtain ⟨na,nL,nc,rfl⟩:∃ a L c,nv= .slice a L c:=by obtain ⟨a,c,h⟩:=fY.slice;exact ⟨_,_,_,h⟩
 have aiS:=ae aiR;have fA:=ae hg2;clear aiR fY hg2 mZ
 go_wp2_with fail
 (with_reducible refine aiS.out.mono ?_);rintro e w3 ⟨nv,rfl,mz,hg3⟩;obtain ⟨pre,iP⟩:∃ x,x=aD seq++aD ys.length:=⟨_,rfl⟩
 rw [iq,←iP] at mz;have aKv:pre.length≤20:=by rw [iP];have:=cB seq;have:=cB ys.length;simp only [aJ];omega
 have aAJ:=ae iP;clear iP;have bJ:Hid (XR w ys pre nv (.int .i64 0) w3):=ae ⟨0,rfl,aY _,by simpa using mz.mono fA.out.size,fA.out.trans hg3⟩;obtain ⟨na,nL,nc,rfl⟩:∃ a L c,nv= .slice a L c:=by obtain ⟨a,c,h⟩:=mz.slice;exact ⟨_,_,_,h⟩
 clear mz hg3 aiS fA
 go_wp2_with fail
 go_loopw [5,17] (fun bv iv wr=>XR w ys pre bv iv wr) (fun _ iv _=>ys.length-(intOf iv).toNat)
 case atStart=>exact bJ.out
 case round=>
  clear bJ;obtain ⟨i,rfl,hi,hown,hg⟩:=hrel;by_cases hlt:i<ys.length
  ·obtain ⟨y,hy⟩:∃ y,ys[i]?=some y:=⟨ys[i],by simp [hlt]⟩
   have hW:=H.out.grow hg;obtain ⟨b,o,c,lA,hNb,hbl,bm⟩:=hW.addr hy;cases lA;have eU:pz N wr y:=hW.get hy;have pw:y.x∈ys.map (·.x):=aZ.2 ⟨y,dB hy,rfl⟩;have Et:=QO pw;have dS:(ys.take (i+1)).map (·.x)=(ys.take i).map (·.x)++ [y.x]:=by rw [take_one hy];simp
   have hpl:(((ys.take i).map (·.x)).flatMap kL).length≤30*i+bA (ys.map (·.x)):=by
    have h1:=QM ((ys.take i).map (·.x));have h2:=QN (ys.map (·.x)) i;rw [←List.map_take] at h2;rw [bF,List.length_take] at h1;omega
   have aAK:=XS.out;obtain ⟨a0,a1,a2⟩:=QL bm hy;obtain ⟨⟨yk,yg,yd⟩,yv⟩:=y;dsimp only at a0 a1 a2 eU Et dS;have Ia:Bv wr yv yd:=eU.1;obtain ⟨xa,xc,rfl⟩:=Ia.slice;have m2:yk.size≤1000000000:=by omega
   have m2':yk.data.toList.length≤1000000000:=by rw [gO];exact m2
   have m3:yd.length≤1000000000:=by omega
   have k2:=nz yk.data.toList;have k3:=nz yd;have nA:=ae dS;have lb:b<wr.heap.size:=hbl;have eB:(i:Int)<(ys.length:Int):=by omega
   have bO:(0:Int)≤(i:Int):=by omega
   have fE:IntKind.i64.wrap ((i:Int)+1)=(i:Int)+1:=aS _ (by omega);have dY:(wr.alloc (.cells #[.string yk,.bool yg,.slice xa yd.length xc] 51)).heap[wr.heap.size]?=some (.cells #[.string yk,.bool yg,.slice xa yd.length xc] 51 (0,0)):=ax _ _;have aU:Grow wr (wr.alloc (.cells #[.string yk,.bool yg,.slice xa yd.length xc] 51)):=ar _ _;obtain ⟨L,hL⟩:∃ x,x=pre++((ys.take i).map (·.x)).flatMap kL:=⟨_,rfl⟩
   rw [←hL] at hown;have GI:L.length≤40000000000:=by rw [hL];simp only [aJ];omega
   obtain ⟨va,vc,rfl⟩:=hown.slice;have HL:=ae hL;have fX:=ae (hown.grow aU);have Hyb:=ae (Ia.grow aU);have HG:=ae (hg.trans aU);clear hown hg hW bm dS Et hpl eU hy hL Ia pw aAK
   go_upto_region 5 with fail
   clear a0 a1 a2 lb aU;generalize wr.alloc (.cells #[.string yk,.bool yg,.slice xa yd.length xc] 51)=w5 at*;generalize wr.heap.size=tb at*;have kX:=ae dY;obtain ⟨t0,t1,t2⟩:=xu dY;have lR:=af dY;clear dY;have CB:Hid (pre++((ys.take (i+1)).map (·.x)).flatMap kL=L++aD (tW yg)++aW yk.data.toList++aW yd):=ae (by
    rw [nA.out,HL.out];simp [kL,ju])
   clear nA HL;have jh:tW yg<18446744073709551616:=by unfold tW;split<;>omega
   obtain ⟨gn,QP⟩:∃ gn,gn=tW yg:=⟨_,rfl⟩
   rw [←QP] at CB jh
   go_upto_if 22 with fail
   go_cut [8] from 8 to 8 (fun gv wx=>gv= .int .u64 ((gn:Nat):Int)∧wx=w5)
   case first=>
    cases yg with
    |false=>
     subst QP;go_wp2;go_meet;exact ⟨rfl,rfl⟩
    |true=>
     subst QP;go_wp2;go_meet;exact ⟨rfl,rfl⟩
   case rest=>
    obtain ⟨rfl,hwc⟩:=hcut;have hwc':=hwc.symm;subst hwc';clear hwc QP
    go_upto_region 8 with fail
    refine uB (fun a0 ha0=> ?_);have F5:a0.tmps[5]?=some (.slice va L.length vc):=by rw [ha0];rfl
    have F7:a0.tmps[7]?=some (.pointer (some ⟨tb,0,none⟩)):=by rw [ha0];rfl
    have F8:a0.tmps[8]?=some (.int .u64 ((gn:Nat):Int)):=by rw [ha0];rfl
    have hsz:a0.tmps.size=37:=by rw [ha0];rfl
    have lS:=ae ha0;clear ha0 t0 t1 t2 lR;refine uD (Er w.heap.size tb (.slice va L.length vc) L gn yk (.slice xa yd.length xc) yd) (pA w5 (.slice va L.length vc)) Grow [5,23,24,25,26,27,28,29,30,31,32,33,34] (by kernel_rfl) (by kernel_rfl) (by rw [hsz];rfl) Er.keep ⟨az _,fun _=>F5⟩ ?_ (fun a1 W1 hf=> ?_);rotate_left
    ·obtain ⟨v,hv,hq⟩:=hf.slot 12 5 (by rfl) (by rfl)
     have hG:Grow w5 W1:=hf.world.1;have hq':aI w.heap.size W1 v (L++aD gn++aW yk.data.toList++aW yd):=hq;have e:=hf.alike.fill;rw [lS.out] at e;simp only [List.foldl_cons,List.foldl_nil,Act.put,mf,List.set_cons_zero,kz] at e;have h5:a1.tmps.getD 5 undef=v:=by rw [eQ,hv];rfl
     obtain ⟨u23,Le⟩:∃ u,a1.tmps.getD 23 undef=u:=⟨_,rfl⟩
     obtain ⟨u24,xi⟩:∃ u,a1.tmps.getD 24 undef=u:=⟨_,rfl⟩
     obtain ⟨QQ,h25⟩:∃ u,a1.tmps.getD 25 undef=u:=⟨_,rfl⟩
     obtain ⟨u26,h26⟩:∃ u,a1.tmps.getD 26 undef=u:=⟨_,rfl⟩
     obtain ⟨QR,LU⟩:∃ u,a1.tmps.getD 27 undef=u:=⟨_,rfl⟩
     obtain ⟨u28,LV⟩:∃ u,a1.tmps.getD 28 undef=u:=⟨_,rfl⟩
     obtain ⟨Kq,AH⟩:∃ u,a1.tmps.getD 29 undef=u:=⟨_,rfl⟩
     obtain ⟨Kr,AJ⟩:∃ u,a1.tmps.getD 30 undef=u:=⟨_,rfl⟩
     obtain ⟨Ks,AK⟩:∃ u,a1.tmps.getD 31 undef=u:=⟨_,rfl⟩
     obtain ⟨u32,AL⟩:∃ u,a1.tmps.getD 32 undef=u:=⟨_,rfl⟩
     obtain ⟨u33,AO⟩:∃ u,a1.tmps.getD 33 undef=u:=⟨_,rfl⟩
     obtain ⟨Pe,Kt⟩:∃ u,a1.tmps.getD 34 undef=u:=⟨_,rfl⟩
     rw [h5,Le,xi,h25,h26,LU,LV,AH,AJ,AK,AL,AO,Kt] at e;clear h5 hv hq hf Le xi h25 h26 LU LV AH AJ AK AL AO Kt;rw [e];clear e lS F5 F7 F8 hsz;obtain ⟨DR,xL,DT,rfl⟩:∃ a L c,v= .slice a L c:=by obtain ⟨a,c,h⟩:=hq'.slice;exact ⟨_,_,_,h⟩
     have aX:Hid (XR w ys pre (.slice DR xL DT) (.int .i64 ((i:Int)+1)) W1):=ae ⟨i+1,by simp,hlt,by rw [CB.out];exact hq',HG.out.trans hG⟩;clear hq' hG;go_wp2;go_roundw
     case rel=>exact aX.out
     case measure=>simp [intOf];omega
    refine ⟨?_,?_,?_,?_,?_,?_,?_,?_,?_,?_,?_,?_,?_,True.intro⟩
    ·intro listed a W hf ak aj
     have hs1:=hf.sz hsz;have hT:=hf.world;have hG:Grow w5 W:=hT.1;have ahU:=dI hf.closed (n:=8) (e:=12) (i:=0) (by kernel_rfl) ak;have G5:a.tmps[5]'(by rw [hs1];decide)= .slice va L.length vc:=aO (hT.2 ahU) _;refine aR rfl (by rfl) (fun K' hK'=> ?_);go_simp;exact hK' _ _ ⟨_,rfl,(fun _ _=>rfl),aV _,pA.next hT (by decide) (by decide) (aV _)⟩
    ·intro listed a W hf ak aj
     have hs1:=hf.sz hsz;have hT:=hf.world;have hG:Grow w5 W:=hT.1;have G8:=hf.got (by decide) F8 (by rw [hs1];decide);refine aR rfl (by rfl) (fun K' hK'=> ?_);go_simp;exact hK' _ _ ⟨_,rfl,(fun _ _=>rfl),aV _,pA.next hT (by decide) (by decide) (aV _)⟩
    ·intro listed a W hf ak aj
     have hs1:=hf.sz hsz;have hT:=hf.world;have hG:Grow w5 W:=hT.1;have G23:=aO (hf.sv 0 23 rfl (aH aj 0 (by kernel_rfl)) fun _ _ h=>h) (by rw [hs1];decide);have G24:=aO (hf.sv 1 24 rfl (aH aj 1 (by kernel_rfl)) fun _ _ h=>h) (by rw [hs1];decide);refine jE rfl (by rfl) (by go_simp) (oI (cI (fX.out.grow hG)) (by omega) (n:=gn) (by omega)) ?_;rintro e W2 ⟨v,rfl,ho,hg2⟩;exact ⟨_,rfl,_,rfl,(fun _ _=>ho.mono (aM HG.out.size hG.size)),hg2,pA.next hT (by decide) (by decide) hg2⟩
    ·intro listed a W hf ak aj
     have hs1:=hf.sz hsz;have hT:=hf.world;have hG:Grow w5 W:=hT.1;have G7:=hf.got (by decide) F7 (by rw [hs1];decide);refine aR rfl (by rfl) (fun K' hK'=> ?_);go_simp;exact hK' _ _ ⟨_,rfl,(fun _ _=>rfl),aV _,pA.next hT (by decide) (by decide) (aV _)⟩
    ·intro listed a W hf ak aj
     have hs1:=hf.sz hsz;have hT:=hf.world;have hG:Grow w5 W:=hT.1;have G26:=aO (hf.sv 3 26 rfl (aH aj 3 (by kernel_rfl)) fun _ _ h=>h) (by rw [hs1];decide);have hb:=hG.heap kX.out;obtain ⟨Dh,Di,Dj⟩:=xu hb;have lb:=af hb;refine aR rfl (by rfl) (fun K' hK'=> ?_);go_simp;exact hK' _ _ ⟨_,rfl,(fun _ _=>rfl),aV _,pA.next hT (by decide) (by decide) (aV _)⟩
    ·intro listed a W hf ak aj
     have hs1:=hf.sz hsz;have hT:=hf.world;have hG:Grow w5 W:=hT.1;have G27:=aO (hf.sv 4 27 rfl (aH aj 4 (by kernel_rfl)) fun _ _ h=>h) (by rw [hs1];decide);obtain ⟨cap,W2,Ax,bC,hg2⟩:=Aj yk (by omega) W;refine aR rfl (by rfl) (fun K' hK'=> ?_);go_simp;exact hK' _ _ ⟨_,rfl,(fun _ _=>bC),hg2,pA.next hT (by decide) (by decide) hg2⟩
    ·intro listed a W hf ak aj
     have hs1:=hf.sz hsz;have hT:=hf.world;have hG:Grow w5 W:=hT.1;obtain ⟨v5,s5,q5⟩:=hf.slot 5 28 rfl (aH aj 5 (by kernel_rfl));have G28:=aO s5 (by rw [hs1];decide);have qU:Bv W v5 yk.data.toList:=q5;obtain ⟨ka,kc,rfl⟩:=qU.slice;have hg2:Grow W (W.alloc (.cells #[.slice ka yk.data.toList.length kc] 49)):=ar _ _;refine xZ rfl (by rfl) (sQ (v:= .slice ka yk.data.toList.length kc) rfl Tryz.underlying131 Tryz.ye rfl (by show a.tmps.getD 28 undef=_;rw [eQ,s5];rfl) rfl) ?_;exact ⟨_,rfl,(fun _ _=>⟨W.heap.size,_,rfl,ax _ _,qU.grow hg2⟩),hg2,pA.next hT (by decide) (by decide) hg2⟩
    ·intro listed a W hf ak aj
     have hs1:=hf.sz hsz;have hT:=hf.world;have hG:Grow w5 W:=hT.1;obtain ⟨v2,s2,q2⟩:=hf.slot 2 25 rfl (aH aj 2 (by kernel_rfl));have iV:aI w.heap.size W v2 (L++aD gn):=q2;have G25:=aO s2 (by rw [hs1];decide);obtain ⟨v6,s6,qb,pv,q6,nX,oD⟩:=hf.slot 6 29 rfl (aH aj 6 (by kernel_rfl));subst q6;have G29:=aO s6 (by rw [hs1];decide);refine jE rfl (by rfl) (by go_simp) (CN (cI iV) (by have:=cB gn;simp only [aJ];omega) nX oD (by omega)) ?_;rintro e W2 ⟨v,rfl,ho,hg2⟩;exact ⟨_,rfl,_,rfl,(fun _ _=>ho.mono (aM HG.out.size hG.size)),hg2,pA.next hT (by decide) (by decide) hg2⟩
    ·intro listed a W hf ak aj
     have hs1:=hf.sz hsz;have hT:=hf.world;have hG:Grow w5 W:=hT.1;have G7:=hf.got (by decide) F7 (by rw [hs1];decide);refine aR rfl (by rfl) (fun K' hK'=> ?_);go_simp;exact hK' _ _ ⟨_,rfl,(fun _ _=>rfl),aV _,pA.next hT (by decide) (by decide) (aV _)⟩
    ·intro listed a W hf ak aj
     have hs1:=hf.sz hsz;have hT:=hf.world;have hG:Grow w5 W:=hT.1;have G31:=aO (hf.sv 8 31 rfl (aH aj 8 (by kernel_rfl)) fun _ _ h=>h) (by rw [hs1];decide);have hb:=hG.heap kX.out;obtain ⟨Dh,Di,Dj⟩:=xu hb;have lb:=af hb;refine aR rfl (by rfl) (fun K' hK'=> ?_);go_simp;exact hK' _ _ ⟨_,rfl,(fun _ _=>rfl),aV _,pA.next hT (by decide) (by decide) (aV _)⟩
    ·intro listed a W hf ak aj
     have hs1:=hf.sz hsz;have hT:=hf.world;have hG:Grow w5 W:=hT.1;obtain ⟨v9,s9,q9⟩:=hf.slot 9 32 rfl (aH aj 9 (by kernel_rfl));have q9':v9=_:=q9;subst q9';have G32:=aO s9 (by rw [hs1];decide);have hg2:Grow W (W.alloc (.cells #[.slice xa yd.length xc] 49)):=ar _ _;refine xZ rfl (by rfl) (sQ (v:= .slice xa yd.length xc) rfl Tryz.underlying131 Tryz.ye rfl (by show a.tmps.getD 32 undef=_;rw [eQ,s9];rfl) rfl) ?_;exact ⟨_,rfl,(fun _ _=>⟨W.heap.size,rfl,ax _ _⟩),hg2,pA.next hT (by decide) (by decide) hg2⟩
    ·intro listed a W hf ak aj
     have hs1:=hf.sz hsz;have hT:=hf.world;have hG:Grow w5 W:=hT.1;obtain ⟨v7,s7,q7⟩:=hf.slot 7 30 rfl (aH aj 7 (by kernel_rfl));have hq7:aI w.heap.size W v7 (L++aD gn++aW yk.data.toList):=q7;have G30:=aO s7 (by rw [hs1];decide);obtain ⟨v10,yE,qb,yF,nX⟩:=hf.slot 10 33 rfl (aH aj 10 (by kernel_rfl));subst yF;have G33:=aO yE (by rw [hs1];decide);refine jE rfl (by rfl) (by go_simp) (CN (cI hq7) (by have:=cB gn;simp only [aJ];omega) nX (Hyb.out.grow hG) (by omega)) ?_;rintro e W2 ⟨v,rfl,ho,hg2⟩;exact ⟨_,rfl,_,rfl,(fun _ _=>ho.mono (aM HG.out.size hG.size)),hg2,pA.next hT (by decide) (by decide) hg2⟩
    ·intro listed a W hf ak aj
     have hs1:=hf.sz hsz;have hT:=hf.world;have hG:Grow w5 W:=hT.1;obtain ⟨v11,CD,FB⟩:=hf.slot 11 34 rfl (aH aj 11 (by kernel_rfl));have aAQ:aI w.heap.size W v11 (L++aD gn++aW yk.data.toList++aW yd):=FB;have G34:=aO CD (by rw [hs1];decide);refine aR rfl (by rfl) (fun K' hK'=> ?_);go_simp;exact hK' _ _ ⟨_,rfl,(fun _ _=>aAQ),aV _,hG,(fun hl=>by rw [jQ (by rw [hf.size];decide)] at hl;cases hl)⟩
  ·have PD:i=ys.length:=by omega
   subst PD;rw [ij] at hown;have bm:kM seq (ys.map (·.x))=pre++(ys.map (·.x)).flatMap kL:=by
    unfold kM;rw [bF,←aAJ.out]
   rw [←bm] at hown;obtain ⟨RR,XT⟩:∃ x,x=kM seq (ys.map (·.x)):=⟨_,rfl⟩
   rw [←XT] at hown;have Hr:=ae hown;have HRR:=ae XT;obtain ⟨va,vc,rfl⟩:=hown.slice;have HG:=ae hg;clear bm hg hown XT;go_wp2;go_ret;refine ⟨_,rfl,?_,HG.out⟩;rw [←HRR.out];exact Hr.out
theorem QS {a:Option Addr} (h:Bv w (.slice a l.length c) l) (pG:i≤j) (hj:j≤l.length) (hk:j≤k) (KV:k≤c):Bv w (.slice (if k=i then a else a.map (fun x=>x.add i)) (j-i) (k-i)) ((l.drop i).take (j-i)):=by
 obtain ⟨a',c',he,hlc,hm,hn,h⟩:=h;cases he;have hlen:((l.drop i).take (j-i)).length=j-i:=by simp;omega
 refine ⟨_,k-i,by rw [hlen],by rw [hlen];omega,by omega,?_,?_⟩
 ·intro h0
  split at h0
  ·omega
  ·cases a with
   |none=>have:=hn rfl;omega
   |some x=>cases h0
 ·rcases h with h|⟨b,o,rfl,hb,hc⟩
  ·left;rw [h];simp
  ·by_cases xY:k=i
   ·left;rw [show j-i=0 by omega];simp
   ·right
    rw [if_neg xY];refine ⟨b,o+i,by simp [Addr.add],hb,fun m u hu=> ?_⟩;simp only [List.getElem?_take] at hu
    split at hu
    ·rw [List.getElem?_drop] at hu
     have:=hc (i+m) u hu;rw [show o+i+m=o+(i+m) by omega];exact this
    ·cases hu
structure ja (w0 W:World) (rb:Nat) (l:List UInt8):Prop where
 cell:∃ bv,W.heap[rb]?=some (.cells #[bv,.bool false] 308 (0,0))∧Bv w0 bv l
 grow:Grow w0 W
 new:w0.heap.size≤rb
theorem ja.nu (h:ja w0 W rb l) (hg:Grow W W'):ja w0 W' rb l:=by
 obtain ⟨bv,h1,h2⟩:=h.cell;exact ⟨⟨bv,hg.heap h1,h2⟩,h.grow.trans hg,h.new⟩
theorem XU (h:ja w0 W rb l) (hn:n≤l.length) (_hl:l.length≤1000000000000):
  Calls Tryz.prog 224 #[.pointer (some ⟨rb,0,none⟩),.int .i64 n,.int .i64 0] W fun e w'=>e= .returned (.tuple #[])∧ja w0 w' rb (l.drop n)∧GX rb W w':=by
 obtain ⟨bv,h1,h2⟩:=h.cell;obtain ⟨ba,bc,rfl⟩:=h2.slice;have hle:l.length≤bc:=by obtain ⟨a',c',e',hc',_⟩:=h2;cases e';omega
 have hb':=QS h2 (i:=n) (j:=l.length) (k:=l.length) hn (aw _) (aw _) hle;rw [List.take_of_length_le (by simp)] at hb';obtain ⟨ad,had⟩:∃ ad,(if l.length=n then ba else ba.map (fun x=>x.add n))=ad:=⟨_,rfl⟩
 rw [had] at hb';have XV:=ae h1;have Hb':=ae hb';have fW:=ae h.grow;have Hnw:=ae h.new;have c0:W.cell? ⟨rb,0,none⟩=some (.slice ba l.length bc):=by simp [World.cell?,h1]
 have c1:W.cell? ⟨rb,1,none⟩=some (.bool false):=by simp [World.cell?,h1]
 have f0:=bG h1;have lr:=af h1;have eW:=eO (v:= .bool false) (i:=1) h1 rfl;clear h h1 h2 hb';go_enter Tryz.func224,Tryz.ntmps224
 go_upto_region 2 with fail
 clear eW;have iO:(n:Int)≤(l.length:Int):=by omega
 have iy:(0:Int)≤(n:Int):=by omega
 have hlc:(l.length:Int)≤(bc:Int):=by omega
 refine uz (fun V=>V.cell? ⟨rb,0,none⟩=some (.slice ba l.length bc)∧rb<V.heap.size∧V.frozen? ⟨rb,0,none⟩=false) [(0,false),(1,false),(2,false),(3,false),(4,false),(5,false),(6,false),(7,false),(8,false),(9,false),(10,false),(11,false),(12,false),(13,false),(14,false),(15,false),(16,false),(17,false),(18,false)] 19 (by kernel_rfl) (by kernel_rfl) (bK fun _ _ _ _ _ h=>h) ⟨c0,lr,f0 0⟩ ?_;clear c0 c1 f0 lr;simp only [cm,nth]
 repeat ((first|(refine aA (v:= ?_) (by rfl) ?_ ?_;rotate_left;rintro W ⟨hW0,hW1,hW2⟩;go_simp;with_reducible rfl)|refine aB (by rfl) ?_);simp only [ai,List.set])
 refine bj (uA (by rfl) (fun K hK=> ?_));have h1:=(az W).heap XV.out;have e0:W.drew.cell? ⟨rb,0,none⟩=some (.slice ba l.length bc):=by simp [World.cell?,h1]
 have ff:W.drew.frozen? ⟨rb,0,none⟩=false:=by simp [World.frozen?,h1]
 have le:=af h1;go_simp;refine hK _ _ ?_;clear hK K
 try simp only [ai,List.set,aC]
 have cM:=Go.Gl.aK h1 0 (.slice ad (l.length-n) (l.length-n));have Hp:Hid (ja w0 (W.drew.setCell ⟨rb,0,none⟩ (.slice ad (l.length-n) (l.length-n))) rb (l.drop n)∧GX rb W (W.drew.setCell ⟨rb,0,none⟩ (.slice ad (l.length-n) (l.length-n)))):=
  ae ⟨⟨⟨_,cM,Hb'.out⟩,cj (fW.out.trans (az W)) (p:=⟨rb,0,none⟩) Hnw.out _,Hnw.out⟩,(GX.of (az W)).trans (Go.Gl.je _ _ _ _)⟩
 clear cM h1 e0 ff le;go_wp2;exact ⟨rfl,.tuple #[],by simp [results,Tryz.results224,go_sem],rfl,Hp.out⟩
theorem aAT {r:List UInt8} (h:ja w0 W rb (aD n++r)) (hn:n<18446744073709551616) (hr:r.length≤900000000000):
  Calls Tryz.prog 223 #[.pointer (some ⟨rb,0,none⟩)] W fun e w'=>e= .returned (.int .u64 n)∧ja w0 w' rb r∧GX rb W w':=by
 obtain ⟨bv,h1,h2⟩:=h.cell;have fV:=Jt (h2.grow h.grow);rw [OP hn r] at fV;have hk:=cB n;have ht:=XU h (n:=(aD n).length) (by simp) (by simp;omega);rw [List.drop_left] at ht;have c0:W.cell? ⟨rb,0,none⟩=some bv:=by simp [World.cell?,h1]
 have lr:=af h1;obtain ⟨ba,bc,rfl⟩:=h2.slice;have iz:=ae fV;have Ht:=ae ht;clear h h1 h2 fV ht;generalize (aD n++r).length=L at*;generalize (aD n).length=k at*;go_enter Tryz.func223,Tryz.ntmps223
 go_wp2_with fail
 (with_reducible refine iz.out.mono ?_);rintro e w1 ⟨rfl,cp⟩;have hw2:=cp.symm;subst hw2;clear cp iz
 go_wp2_with fail
 (with_reducible refine Ht.out.mono ?_);rintro e w2 ⟨rfl,hR,hG⟩;go_wp2;go_ret;exact ⟨rfl,hR,hG⟩
theorem aiW {r:List UInt8} (h:ja w0 W rb (aW x++r)) {m:Nat} (hx:x.length≤m) (hm:m≤67108864) (hr:r.length≤900000000000):
  Calls Tryz.prog 222 #[.pointer (some ⟨rb,0,none⟩),.int .i64 m] W fun e w'=>∃ v,e= .returned v∧aI W.heap.size w' v x∧ja w0 w' rb r∧GX rb W w':=by
 obtain ⟨bv,h1,h2⟩:=h.cell;have fV:=Vl (h2.grow h.grow) (by omega) (by omega) hx (by omega);have hk:=cB x.length;have hlen:(aW x++r).length=(aD x.length).length+x.length+r.length:=by simp [aW];omega
 have hd:(aW x++r).drop ((aD x.length).length+x.length)=r:=by
  have:(aW x).length=(aD x.length).length+x.length:=by simp [aW]
  rw [←this,List.drop_left]
 have Ht:=ae (fun (w':World) (hg:Grow W w')=>XU (h.nu hg) (n:=(aD x.length).length+x.length) (by omega) (by omega));rw [hd] at Ht;have c0:W.cell? ⟨rb,0,none⟩=some bv:=by simp [World.cell?,h1]
 have lr:=af h1;obtain ⟨ba,bc,rfl⟩:=h2.slice;have iz:=ae fV;clear h h1 h2 fV hd hlen;generalize (aW x++r).length=L at*;generalize (aD x.length).length+x.length=k at*;go_enter Tryz.func222,Tryz.ntmps222
 go_wp2_with fail
 (with_reducible refine iz.out.mono ?_);rintro e w1 ⟨v,rfl,hb,hg⟩;have ht:=Ht.out w1 hg;have Hb:=ae hb;have Hg:=ae hg;have hne:∀ g,v.ownBlock=some g→g≠rb∧g<w1.heap.size:=fun g hv=>⟨by have:=(hb.lt hv).1;omega,(hb.lt hv).2⟩
 have qQ:=ae hne;clear hne;have Kh:=ae ht;obtain ⟨va,vc,rfl⟩:=hb.slice;clear hb hg iz Ht ht
 go_wp2_with fail
 (with_reducible refine Kh.out.mono ?_);rintro e w2 ⟨rfl,hR,hG⟩;have hb2:=Hb.out.keep (w':=w2) (fun g hv=>by
  obtain ⟨_,_,_,_,hk⟩:=hG;exact hk g (qQ.out g hv).2 (fun e=>(qQ.out g hv).1 (by cases e;rfl)))
 have HR:=ae (ag hb2 (ag hR ((GX.of Hg.out).trans hG)));clear hR hG hb2 Hb Hg qQ Kh;go_wp2;go_ret;exact ⟨_,rfl,HR.out⟩
theorem aAU {r:List UInt8} (h:ja w0 W rb (aW x++r)) (hx:x.length≤65535) (hr:r.length≤900000000000):
 Calls Tryz.prog 222 #[.pointer (some ⟨rb,0,none⟩),.int .i64 65535] W fun e w'=>∃ v,e= .returned v∧aI W.heap.size w' v x∧ja w0 w' rb r∧GX rb W w':=aiW h (m:=65535) hx (by decide) hr
theorem aAV {r:List UInt8} (h:ja w0 W rb (aW x++r)) (hx:x.length≤33554432) (hr:r.length≤900000000000):
 Calls Tryz.prog 222 #[.pointer (some ⟨rb,0,none⟩),.int .i64 33554432] W fun e w'=>∃ v,e= .returned v∧aI W.heap.size w' v x∧ja w0 w' rb r∧GX rb W w':=aiW h (m:=33554432) hx (by decide) hr
def SRe (rb:Nat) (key:List UInt8) (seq:Nat) (j:Nat) (v:Value) (_W:World):Prop:=
 match j with
 |0=>v= .pointer (some ⟨rb,0,none⟩)
 |2=>v= .string ⟨key.toArray⟩
 |3=>v= .pointer (some ⟨rb,0,none⟩)
 |4=>v= .int .u64 seq
 |5=>v= .agg #[.string ⟨key.toArray⟩,.int .u64 seq,.bool false,.slice none 0 0]
 |_=>True
structure BK (w0 W1:World) (rb:Nat) (key:List UInt8) (seq:Nat) (r:List UInt8) (l:Array Bool) (a:Act) (W:World):Prop where
 gx:GX rb W1 W
 zi:l.getD 1 false=false→ja w0 W rb (aW key++(aD seq++r))
 zj:l.getD 1 false=true→l.getD 4 false=false→ja w0 W rb (aD seq++r)
 zk:l.getD 4 false=true→ja w0 W rb r
 Bq:l.getD 1 false=true→∃ v,a.tmps[5]?=some v∧aI W1.heap.size W v key∧v.ownBlock≠some rb
 al:l.getD 6 false=true→∃ q,a.tmps[3]?=some (.pointer (some ⟨q,0,none⟩))∧W1.heap.size≤q∧q≠rb∧W.heap[q]?=some (.cells (if l.getD 7 false then #[.string ⟨key.toArray⟩,.int .u64 seq,.bool false,.slice none 0 0] else #[.string ⟨#[]⟩,.int .u64 0,.bool false,.slice none 0 0]) 60 (0,0))
theorem BK.next {W1:World} {key:List UInt8} {r:List UInt8} {l:Array Bool} {a:Act} (h:BK w0 W1 rb key seq r l a W) (hi:i≠1∧i≠4∧i≠6∧i≠7) (hd:d≠5∧d≠3) (hg:Grow W W'):BK w0 W1 rb key seq r (l.setIfInBounds i true) (a.put (some d) v) W':=
 ⟨h.gx.trans (GX.of hg),fun h1=>(h.zi (by rw [getD_set_ne false hi.1] at h1;exact h1)).nu hg,fun h1 h2=>(h.zj (by rw [getD_set_ne false hi.1] at h1;exact h1) (by rw [getD_set_ne false hi.2.1] at h2;exact h2)).nu hg,
  fun h1=>(h.zk (by rw [getD_set_ne false hi.2.1] at h1;exact h1)).nu hg,
  fun h1=>by
   obtain ⟨u,g1,g2,g3⟩:=h.Bq (by rw [getD_set_ne false hi.1] at h1;exact h1);exact ⟨u,gi hd.1 g1,g2.grow hg,g3⟩,
  fun h1=>by
   obtain ⟨q,g1,g2,g3,g4⟩:=h.al (by rw [getD_set_ne false hi.2.2.1] at h1;exact h1);rw [getD_set_ne false hi.2.2.2];exact ⟨q,gi hd.2 g1,g2,g3,hg.heap g4⟩⟩
theorem aAX {x:En} {r:List UInt8} (h:ja w0 W rb (oZ x++r)) (hk:x.key.size≤65535) (hs:x.seq<18446744073709551616) (hv:x.val.length≤33554432) (hr:r.length≤800000000000):
  Calls Tryz.prog 199 #[.pointer (some ⟨rb,0,none⟩)] W fun e w'=>∃ sv,e= .returned (.agg (bW ⟨x,sv⟩))∧aI W.heap.size w' sv x.val∧ja w0 w' rb r∧GX rb W w':=by
 obtain ⟨xk,xs,xg,xd⟩:=x;simp only at hk hs hv;have ed:xk.data.toList.length=xk.size:=by rw [gO];rfl
 have hka:(⟨xk.data.toList.toArray⟩:ByteArray)=xk:=by simp
 obtain ⟨gb,hgb⟩:∃ gb:UInt8,gb=if xg then 1 else 0:=⟨_,rfl⟩
 have kR:oZ ⟨xk,xs,xg,xd⟩++r=aW xk.data.toList++(aD xs++(gb::(aW xd++r))):=by rw [hgb];simp [oZ]
 rw [kR] at h;clear kR;obtain ⟨R,hR⟩:∃ R,R=gb::(aW xd++r):=⟨_,rfl⟩
 rw [←hR] at h;have hRl:R.length≤850000000000:=by rw [hR];have:=nz xd;simp only [dH,aJ];omega
 have HR:=ae hR;have XW:=ae hgb;clear hR hgb;have ah:=ar W (.cells #[.string ⟨#[]⟩,.int .u64 0,.bool false,.slice none 0 0] 60);have ql:=ax W (.cells #[.string ⟨#[]⟩,.int .u64 0,.bool false,.slice none 0 0] 60);have h1:=h.nu ah;have cQ:=ae ah;have rp:=ae ql;have H1:=ae h1;have Hka:=ae hka;have aKz:w0.heap.size≤W.heap.size:=h.grow.size;clear h ah ql h1 hka;go_enter Tryz.func199,Tryz.ntmps199
 go_upto_region 1 with fail
 generalize hW1:W.alloc (.cells #[.string ⟨#[]⟩,.int .u64 0,.bool false,.slice none 0 0] 60)=W1 at*;clear hW1;obtain ⟨eb,np⟩:∃ eb,eb=W.heap.size:=⟨_,rfl⟩
 rw [←np] at rp ⊢;have DV:=ae np;clear np;refine uB (fun a0 ha0=> ?_);have F0:a0.tmps[0]?=some (.pointer (some ⟨rb,0,none⟩)):=by rw [ha0];rfl
 have hsz:a0.tmps.size=53:=by rw [ha0];rfl
 have lS:=ae ha0;clear ha0;have hgd:=az W1;refine uD (SRe rb xk.data.toList xs) (BK w0 W1 rb xk.data.toList xs R) (fun _ _=>True) [3,4,5,6,7,8,9] (by kernel_rfl) (by kernel_rfl) (by rw [hsz];rfl) (fun j v W W' _ h=>h) ⟨GX.of hgd,fun _=>H1.out.nu hgd,(fun h=>by cases h),(fun h=>by cases h),(fun h=>by cases h),(fun h=>by cases h)⟩ ?_ (fun a1 W2 hf=> ?_);rotate_left
 ·obtain ⟨q,hv3,jX,iV,zl⟩:=hf.world.al rfl
  replace zl:W2.heap[q]?=some (.cells #[.string ⟨xk.data.toList.toArray⟩,.int .u64 xs,.bool false,.slice none 0 0] 60 (0,0)):=zl;have bm:=hf.world.zk rfl;have hgx:=hf.world.gx;have e:=hf.alike.fill;rw [lS.out] at e;simp only [List.foldl_cons,List.foldl_nil,Act.put,mf,List.set_cons_zero,kz] at e;have h3:a1.tmps.getD 3 undef= .pointer (some ⟨q,0,none⟩):=by rw [eQ,hv3];rfl
  obtain ⟨u4,h4⟩:∃ u,a1.tmps.getD 4 undef=u:=⟨_,rfl⟩
  obtain ⟨u5,h5⟩:∃ u,a1.tmps.getD 5 undef=u:=⟨_,rfl⟩
  obtain ⟨u6,h6⟩:∃ u,a1.tmps.getD 6 undef=u:=⟨_,rfl⟩
  obtain ⟨u7,h7⟩:∃ u,a1.tmps.getD 7 undef=u:=⟨_,rfl⟩
  obtain ⟨u8,h8⟩:∃ u,a1.tmps.getD 8 undef=u:=⟨_,rfl⟩
  obtain ⟨u9,h9⟩:∃ u,a1.tmps.getD 9 undef=u:=⟨_,rfl⟩
  rw [h3,h4,h5,h6,h7,h8,h9] at e;clear h3 hv3 hf h4 h5 h6 h7 h8 h9;rw [e];clear e lS F0 hsz;rw [Hka.out] at zl;have aiX:W2.heap[eb]?=some (.cells #[.string ⟨#[]⟩,.int .u64 0,.bool false,.slice none 0 0] 60 (0,0)):=hgx.heap rp.out (by
   have:=DV.out;have hn:=H1.out.new;intro e;obtain ⟨bv,h2,_⟩:=H1.out.cell;rw [←e,rp.out] at h2;exact absurd (cE (bk h2)).2.1 (by decide))
  obtain ⟨bv,hc0,bC⟩:=bm.cell;rw [HR.out] at bC;have Ed:=bC.grow bm.grow;obtain ⟨ba,bc,rfl,hbl,Gt,XX,dK⟩:=Ed;obtain ⟨bb,bo,rfl,dX,aiY⟩:∃ b o,ba=some ⟨b,o,none⟩∧b<W2.heap.size∧∀ (j:Nat) (k:UInt8),(gb::(aW xd++r))[j]?=some k→W2.cell? ⟨b,o+j,none⟩=some (.int .u8 k.toNat):=by
   rcases dK with h|h
   ·cases h
   ·exact h
  have ck:=aiY 0 gb rfl;rw [Nat.add_zero] at ck;obtain ⟨RL,hRL⟩:∃ RL,RL=(aW xd++r).length:=⟨_,rfl⟩
  have aja:(gb::(aW xd++r)).length=RL+1:=by rw [hRL];rfl
  rw [aja] at hc0;have c0:W2.cell? ⟨rb,0,none⟩=some (.slice (some ⟨bb,bo,none⟩) (RL+1) bc):=by simp [World.cell?,hc0]
  have c1:W2.cell? ⟨rb,1,none⟩=some (.bool false):=by simp [World.cell?,hc0]
  have f0:=bG hc0;have lr:=af hc0;obtain ⟨e0,e1,e2,e3⟩:=cS zl;have lq:=af zl;have fq:=bG zl;have eW:=eO (v:= .bool false) (i:=1) hc0 rfl;have yj:=eO (v:= .bool false) (i:=2) zl rfl;have aKA:W.heap.size≤q:=aM cQ.out.size jX;have oL:=ae bm;have LW:=ae hgx;have ajb:=ae aiX;have Hq3:=ae zl;have aKB:decide ((RL:Int)+1=0)=false:=by simp;omega
  have aKC:((RL:Int)+1==0)=false:=by simp only [beq_eq_false_iff_ne,ne_eq];omega
  have aKD:(0:Int)<(RL:Int)+1:=by omega
  clear bm hgx aiX zl hc0 bC dK aiY hbl Gt XX dX hRL aja;have hg1:decide ((1:Int)<(gb.toNat:Int))=false:=by rw [XW.out];cases xg<;>rfl
  go_upto_region 5 with fail
  go_cut [] from 39 to 46 (fun wx=>ja w0 wx rb (gb::(aW xd++r))∧wx.heap[q]?=some (.cells #[.string xk,.int .u64 xs,.bool xg,.slice none 0 0] 60 (0,0))∧GX rb W1 wx∧wx.heap[eb]?=some (.cells #[.string ⟨#[]⟩,.int .u64 0,.bool false,.slice none 0 0] 60 (0,0)))
  case first=>
   cases xg with
   |false=>
    clear hg1;have hg0:gb=0:=by rw [XW.out];rfl
    subst hg0;go_wp2;go_meet;exact ⟨by rw [←HR.out];exact oL.out,Hq3.out,LW.out,ajb.out⟩
   |true=>
    clear hg1;have hg0:gb=1:=by rw [XW.out];rfl
    subst hg0;go_wp2;go_meet;have cM:=Go.Gl.aK Hq3.out 2 (.bool true);have jx:∀ k,q≠k→(W2.setCell ⟨q,2,none⟩ (.bool true)).heap[k]?=W2.heap[k]?:=fun k hk=>aP _ _ _ _ (Ne.symm hk)
    have hw0:w0.heap.size≤q:=aM H1.out.grow.size jX;refine ⟨?_,cM,?_,?_⟩
    ·obtain ⟨bv,h1,h2⟩:=oL.out.cell
     rw [←HR.out];exact ⟨⟨bv,(jx rb iV).trans h1,h2⟩,oL.out.grow.setCell (p:=⟨q,2,none⟩) hw0 _,oL.out.new⟩
    ·obtain ⟨z1,z2,z3,z4,z5⟩:=LW.out
     exact ⟨z1,z2,z3,by simpa using z4,fun b hb hne=>(jx b (fun e=>by omega)).trans (z5 b hb hne)⟩
    ·exact (jx eb (fun e=>by have:=DV.out;have:=af rp.out;omega)).trans ajb.out
  case rest=>
   obtain ⟨hr3,GP,ajd,aje⟩:=hcut;generalize wc=W3 at*;have eG:=XU hr3 (n:=1) (by simp) (by simp only [dH,aJ];have:=nz xd;omega);have ajf:Calls Tryz.prog 224 #[.pointer (some ⟨rb,0,none⟩),.int .i64 1,.int .i64 0] W3 fun e w'=>e= .returned (.tuple #[])∧ja w0 w' rb (aW xd++r)∧GX rb W3 w':=eG
   have nV:=ae ajf;have gj:=ae (ag GP (ag ajd aje));clear eG ajf hr3 GP ajd aje c0 c1 f0 e0 e1 e2 e3 fq eW yj ck
   go_wp2_with fail
   (with_reducible refine nV.out.mono ?_);rintro e W4 ⟨rfl,hr4,ajg⟩;have hby:=aAV hr4 hv (by omega);have Hby:=ae hby;have Ib:=ae ajg;clear hby hr4 ajg nV
   go_wp2_with fail
   (with_reducible refine Hby.out.mono ?_);rintro e W5 ⟨sv,rfl,ho,tX,Eu⟩;have pd:W5.heap[q]?=some (.cells #[.string xk,.int .u64 xs,.bool xg,.slice none 0 0] 60 (0,0)):=Eu.heap (Ib.out.heap gj.out.1 iV) iV;have QT:eb≠rb:=by
    intro e;obtain ⟨bv,h2,_⟩:=H1.out.cell;rw [←e,rp.out] at h2;exact absurd (cE (bk h2)).2.1 (by decide)
   have tP:=Eu.heap (Ib.out.heap gj.out.2.2 QT) QT;obtain ⟨rq,rr,rfl⟩:=ho.slice;have aji:GX rb W1 W5:=gj.out.2.1.trans (Ib.out.trans Eu);have hle:w0.heap.size≤q:=aM H1.out.grow.size jX;have hWe:W.heap.size≤eb:=by rw [DV.out];exact aw _
   have aKF:eb<q:=cf (af rp.out) jX;obtain ⟨e0,e1,e2,e3⟩:=cS pd;have lq5:=af pd;have fq:=bG pd;have cM:=Go.Gl.aK pd 3 (.slice rq xd.length rr);have jx:∀ k,q≠k→(W5.setCell ⟨q,3,none⟩ (.slice rq xd.length rr)).heap[k]?=W5.heap[k]?:=fun k hk=>aP _ _ _ _ (Ne.symm hk)
   have Hs:=ae (ag cM jx);have Ko:=ae ho;have uY:=ae tX;have aAZ:=ae aji;have Hb5:=ae tP;have hs5:W5.heap.size≤(W5.setCell ⟨q,3,none⟩ (.slice rq xd.length rr)).heap.size:=by simp
   clear cM jx ho tX aji tP Eu pd Hby
   go_upto_region 8 with fail
   generalize tJ:W5.setCell ⟨q,3,none⟩ (.slice rq xd.length rr)=W6 at*;have QU:=ae tJ;clear tJ e0 e1 e2 e3 fq;have yX:W6.heap[q]?=some (.cells #[.string xk,.int .u64 xs,.bool xg,.slice rq xd.length rr] 60 (0,0)):=Hs.out.1;have LX:W6.heap[eb]?=some (.cells #[.string ⟨#[]⟩,.int .u64 0,.bool false,.slice none 0 0] 60 (0,0)):=(Hs.out.2 eb (by omega)).trans Hb5.out;obtain ⟨d0,d1,d2,d3⟩:=cS yX;have lq6:=af yX;obtain ⟨g0,g1,g2,g3⟩:=cS LX;have lg6:=af LX;have fg:=bG LX;have y1:=Bo (v0:= .string xk) (v1:= .int .u64 xs) (v2:= .bool xg) (v3:= .slice rq xd.length rr) LX;have yo:=fun k (hk:k≠eb)=>si (w:=W6) hk (.string xk) (.int .u64 xs) (.bool xg) (.slice rq xd.length rr)
   have QV:∀ k,k≠q→k≠eb→(jC W6 eb (.string xk) (.int .u64 xs) (.bool xg) (.slice rq xd.length rr)).heap[k]?=W5.heap[k]?:=fun k h1 h2=>(yo k h2).trans (Hs.out.2 k (Ne.symm h1))
   have fB:aI W.heap.size (jC W6 eb (.string xk) (.int .u64 xs) (.bool xg) (.slice rq xd.length rr)) (.slice rq xd.length rr) xd∧ja w0 (jC W6 eb (.string xk) (.int .u64 xs) (.bool xg) (.slice rq xd.length rr)) rb r∧GX rb W (jC W6 eb (.string xk) (.int .u64 xs) (.bool xg) (.slice rq xd.length rr)):=by
    refine ⟨?_,?_,?_⟩
    ·have h4:W.heap.size≤_:=aM cQ.out.size (aM gj.out.2.1.size Ib.out.size)
     refine (Ko.out.mono h4).keep (fun g hg=>QV g (fun e=> ?_) (fun e=> ?_))
     ·have h5:=(Ko.out.lt hg).1
      have h6:=af (Ib.out.heap gj.out.1 iV);omega
     ·have h5:=(Ko.out.lt hg).1
      have h6:=af (Ib.out.heap gj.out.2.2 QT);omega
    ·obtain ⟨bv,h1,h2⟩:=uY.out.cell
     have QW:w0.heap.size≤eb:=by omega
     refine ⟨⟨bv,(QV rb (Ne.symm iV) (Ne.symm QT)).trans h1,h2⟩,?_,uY.out.new⟩;rw [←QU.out];exact ((((uY.out.grow.setCell (p:=⟨q,3,none⟩) hle _).setCell (p:=⟨eb,0,none⟩) QW _).setCell (p:=⟨eb,1,none⟩) QW _).setCell (p:=⟨eb,2,none⟩) QW _).setCell (p:=⟨eb,3,none⟩) QW _
    ·have hGW:=(GX.of cQ.out).trans aAZ.out
     obtain ⟨z1,z2,z3,z4,z5⟩:=hGW;refine ⟨?_,?_,?_,?_,fun b hb hne=>(QV b (fun e=>by omega) (fun e=>by omega)).trans (z5 b hb hne)⟩
     ·rw [←QU.out];exact z1
     ·rw [←QU.out];exact z2
     ·rw [←QU.out];exact z3
     ·have:W6.heap.size≤(jC W6 eb (.string xk) (.int .u64 xs) (.bool xg) (.slice rq xd.length rr)).heap.size:=by simp
      omega
   have cJ:=ae fB;have hnq:q≠eb:=by omega
   have aKJ:eb≠q:=by omega
   clear fB QV yo yX LX;obtain ⟨r0,r1,r2,r3⟩:=cS y1;have Hy:=ae (ag r0 (ag r1 (ag r2 r3)));clear r0 r1 r2 r3 y1;go_wp2;obtain ⟨r0,r1,r2,r3⟩:=Hy.out;refine bodyPost_ret (v:= .agg #[.string xk,.int .u64 xs,.bool xg,.slice rq xd.length rr]) (by simp [results,Tryz.results199,go_sem,r0,r1,r2,r3]) rfl ⟨_,rfl,cJ.out⟩
 refine ⟨?_,?_,?_,?_,?_,?_,?_,?_,True.intro⟩
 ·intro listed a V hf ak aj
  have hs1:=hf.sz hsz;have hT:=hf.world;have G0:=hf.got (by decide) F0 (by rw [hs1];decide);refine aR rfl (by rfl) (fun K' hK'=> ?_);go_simp;exact hK' _ _ ⟨_,rfl,(fun _ _=>rfl),True.intro,BK.next hT (by decide) (by decide) (aV _)⟩
 ·intro listed a V hf ak aj
  have hs1:=hf.sz hsz;have hT:=hf.world;have G4:=aO (hf.sv 0 4 rfl (aH aj 0 (by kernel_rfl)) fun _ _ h=>h) (by rw [hs1];decide);have iO:listed.getD 1 false=false:=by
   rw [eQ] at ak ⊢;cases hx:listed[1]? with
   |none=>rw [hx] at ak;cases ak
   |some b=>rw [hx] at ak;exact ak
  have zm:=dI hf.closed (n:=8) (e:=4) (i:=1) (by kernel_rfl) ak;have ku:=dI hf.closed (n:=8) (e:=7) (i:=1) (by kernel_rfl) ak;refine jE rfl (by rfl) (by go_simp) (aAU (hT.zi iO) (by omega) (by have:=cB xs;simp only [aJ];omega)) ?_;rintro e V2 ⟨v,rfl,ho,bm,hgx⟩;have hlen:1<listed.size:=by rw [hf.size];decide
  have Ew:W1.heap.size≤V.heap.size:=hT.gx.size;refine ⟨_,rfl,_,rfl,(fun _ _=>True.intro),True.intro,hT.gx.trans hgx,(fun h=>by rw [jQ hlen] at h;cases h),(fun _ _=>bm),(fun h=>by rw [getD_set_ne false (by decide)] at h;rw [zm] at h;cases h),(fun _=>⟨v,pK (by rw [hs1];decide),ho.mono Ew,fun e=>by
   have h1:=(ho.lt e).1;obtain ⟨bv,h2,_⟩:=(hT.zi iO).cell;have:=af h2;omega⟩),fun h=> ?_⟩
  obtain ⟨q,g1,g2,g3,g4⟩:=hT.al (by rw [getD_set_ne false (by decide)] at h;exact h);rw [getD_set_ne false (by decide)];exact ⟨q,gi (by decide) g1,g2,g3,hgx.heap g4 g3⟩
 ·intro listed a V hf ak aj
  have hs1:=hf.sz hsz;have hT:=hf.world;obtain ⟨v,s1,hb,_⟩:=hT.Bq (aH aj 1 (by kernel_rfl));have G5:=aO s1 (by rw [hs1];decide);have hcv:=CO (cI hb);refine aR rfl (by rfl) (fun K' hK'=> ?_);go_simp;exact hK' _ _ ⟨_,rfl,(fun _ _=>rfl),True.intro,BK.next hT (by decide) (by decide) (aV _)⟩
 ·intro listed a V hf ak aj
  have hs1:=hf.sz hsz;have hT:=hf.world;have G0:=hf.got (by decide) F0 (by rw [hs1];decide);refine aR rfl (by rfl) (fun K' hK'=> ?_);go_simp;exact hK' _ _ ⟨_,rfl,(fun _ _=>rfl),True.intro,BK.next hT (by decide) (by decide) (aV _)⟩
 ·intro listed a V hf ak aj
  have hs1:=hf.sz hsz;have hT:=hf.world;have G7:=aO (hf.sv 3 7 rfl (aH aj 3 (by kernel_rfl)) fun _ _ h=>h) (by rw [hs1];decide);have zm:listed.getD 4 false=false:=by
   rw [eQ] at ak ⊢;cases hx:listed[4]? with
   |none=>rw [hx] at ak;cases ak
   |some b=>rw [hx] at ak;exact ak
  have vy:=aH aj 1 (by kernel_rfl);have ku:=dI hf.closed (n:=8) (e:=7) (i:=4) (by kernel_rfl) ak;have aBc:=hT.zj vy zm;refine jE rfl (by rfl) (by go_simp) (aAT aBc hs (by omega)) ?_;rintro e V2 ⟨rfl,bm,hgx⟩;have hlen:4<listed.size:=by rw [hf.size];decide
  refine ⟨_,rfl,_,rfl,(fun _ _=>rfl),True.intro,hT.gx.trans hgx,(fun h=>by rw [getD_set_ne false (by decide),vy] at h;cases h),(fun _ h=>by rw [jQ hlen] at h;cases h),(fun _=>bm),(fun h=> ?_),fun h=> ?_⟩
  ·obtain ⟨u,g1,g2,g3⟩:=hT.Bq vy
   exact ⟨u,gi (by decide) g1,g2.keep (fun g hg=>hgx.block g (g2.lt hg).2 (fun e=>g3 (by rw [hg,e]))),g3⟩
  ·obtain ⟨q,g1,g2,g3,g4⟩:=hT.al (by rw [getD_set_ne false (by decide)] at h;exact h)
   rw [getD_set_ne false (by decide)];exact ⟨q,gi (by decide) g1,g2,g3,hgx.heap g4 g3⟩
 ·intro listed a V hf ak aj
  have hs1:=hf.sz hsz;have hT:=hf.world;have G6:=aO (hf.sv 2 6 rfl (aH aj 2 (by kernel_rfl)) fun _ _ h=>h) (by rw [hs1];decide);have G8:=aO (hf.sv 4 8 rfl (aH aj 4 (by kernel_rfl)) fun _ _ h=>h) (by rw [hs1];decide);refine aR rfl (by rfl) (fun K' hK'=> ?_);go_simp;exact hK' _ _ ⟨_,rfl,(fun _ _=>rfl),True.intro,BK.next hT (by decide) (by decide) (aV _)⟩
 ·intro listed a V hf ak aj
  have hs1:=hf.sz hsz;have hT:=hf.world;have oV:listed.getD 6 false=false:=by
   rw [eQ] at ak ⊢;cases hx:listed[6]? with
   |none=>rw [hx] at ak;cases ak
   |some b=>rw [hx] at ak;exact ak
  have ku:=dI hf.closed (n:=8) (e:=7) (i:=6) (by kernel_rfl) ak;have hg2:Grow V (V.alloc (.cells #[.string ⟨#[]⟩,.int .u64 0,.bool false,.slice none 0 0] 60)):=ar _ _;refine aR rfl (by rfl) (fun K' hK'=> ?_);go_simp;have hlen:6<listed.size:=by rw [hf.size];decide
  have fC:rb<W1.heap.size:=by
   obtain ⟨bv,h2,_⟩:=H1.out.cell;exact af h2
  have Ew:W1.heap.size≤V.heap.size:=hT.gx.size;exact hK' _ _ ⟨_,rfl,(fun _ _=>True.intro),True.intro,hT.gx.trans (GX.of hg2),(fun h=>(hT.zi (by rw [getD_set_ne false (by decide)] at h;exact h)).nu hg2),(fun h1 h2=>(hT.zj (by rw [getD_set_ne false (by decide)] at h1;exact h1) (by rw [getD_set_ne false (by decide)] at h2;exact h2)).nu hg2),
   (fun h=>(hT.zk (by rw [getD_set_ne false (by decide)] at h;exact h)).nu hg2),(fun h=>by
    obtain ⟨u,g1,g2,g3⟩:=hT.Bq (by rw [getD_set_ne false (by decide)] at h;exact h);exact ⟨u,gi (by decide) g1,g2.grow hg2,g3⟩),(fun _=>⟨V.heap.size,pK (by rw [hs1];decide),Ew,by omega,by rw [getD_set_ne false (by decide),ku];exact ax _ _⟩)⟩
 ·intro listed a V hf ak aj
  have hs1:=hf.sz hsz;have hT:=hf.world;have G9:=aO (hf.sv 5 9 rfl (aH aj 5 (by kernel_rfl)) fun _ _ h=>h) (by rw [hs1];decide);have ku:listed.getD 7 false=false:=by
   rw [eQ] at ak ⊢;cases hx:listed[7]? with
   |none=>rw [hx] at ak;cases ak
   |some b=>rw [hx] at ak;exact ak
  obtain ⟨q,g1,g2,g3,g4⟩:=hT.al (aH aj 6 (by kernel_rfl));rw [ku] at g4;have Ex:V.heap[q]?=some (.cells #[.string ⟨#[]⟩,.int .u64 0,.bool false,.slice none 0 0] 60 (0,0)):=g4;have G3:=aO g1 (by rw [hs1];decide);have vy:=aH aj 1 (by kernel_rfl);have h4l:=aH aj 4 (by kernel_rfl);obtain ⟨e0,e1,e2,e3⟩:=cS Ex;have le:=af Ex;have fe:=bG Ex;have s2:=eO (v:= .bool false) (i:=2) Ex rfl;have XY:=eO (v:= .slice none 0 0) (i:=3) Ex rfl;have y1:=Bo (v0:= .string ⟨xk.data.toList.toArray⟩) (v1:= .int .u64 xs) (v2:= .bool false) (v3:= .slice none 0 0) Ex;have yo:=fun k (hk:k≠q)=>si (w:=V) hk (.string ⟨xk.data.toList.toArray⟩) (.int .u64 xs) (.bool false) (.slice none 0 0)
  have dM:GX rb W1 (jC V q (.string ⟨xk.data.toList.toArray⟩) (.int .u64 xs) (.bool false) (.slice none 0 0)):=by
   obtain ⟨z1,z2,z3,z4,z5⟩:=hT.gx;exact ⟨z1,z2,z3,by simpa using z4,fun b hb hne=>(yo b (fun e=>by omega)).trans (z5 b hb hne)⟩
  have QX:=hT.zk h4l;obtain ⟨ub,g5,g6,g7⟩:=hT.Bq vy;have QY:aI W1.heap.size (jC V q (.string ⟨xk.data.toList.toArray⟩) (.int .u64 xs) (.bool false) (.slice none 0 0)) ub xk.data.toList:=g6.keep (fun g hg=>yo g (fun e=>by
   obtain ⟨cur,hc⟩:=g6.block hg;rw [e,Ex] at hc;exact absurd (cE (bk hc)).2.1 (by decide)))
  have QZ:ja w0 (jC V q (.string ⟨xk.data.toList.toArray⟩) (.int .u64 xs) (.bool false) (.slice none 0 0)) rb R:=by
   obtain ⟨bv,h1,h2⟩:=QX.cell;have hw0:w0.heap.size≤q:=aM H1.out.grow.size g2;exact ⟨⟨bv,(yo rb (Ne.symm g3)).trans h1,h2⟩,(((QX.grow.setCell (p:=⟨q,0,none⟩) hw0 _).setCell (p:=⟨q,1,none⟩) hw0 _).setCell (p:=⟨q,2,none⟩) hw0 _).setCell (p:=⟨q,3,none⟩) hw0 _,QX.new⟩
  have hlen:7<listed.size:=by rw [hf.size];decide
  have HT:=ae (ag y1 (ag dM (ag QY QZ)));clear y1 dM QY QZ QX g6 s2 XY;refine aR rfl (by rfl) (fun K' hK'=> ?_);go_simp;obtain ⟨y1,dM,QY,QZ⟩:=HT.out;refine hK' _ _ ⟨undef,rfl,(fun _ _=>True.intro),True.intro,dM,(fun h=>by rw [getD_set_ne false (by decide),vy] at h;cases h),(fun _ h=>by rw [getD_set_ne false (by decide),h4l] at h;cases h),(fun _=>QZ),(fun _=>⟨ub,g5,QY,g7⟩),fun _=>⟨q,g1,g2,g3,?_⟩⟩;rw [jQ hlen];exact y1
theorem Tryz.ajk:(Tryz.prog.info? 51).map (fun i=>(i.zero,i.size,i.bytes))=some (some (.agg #[.string ByteArray.empty,.bool false,.slice none 0 0]),3,48):=by kernel_rfl
def Rb (B:Nat) (N:Nat→Prop) (w:World) (v:Value) (xs:List Wv):Prop:=w.ownsRow B 51 3 v xs.length (xs.flatMap gW)∧∀ x∈xs,pz N w x
theorem Rb.es {xs:List Wv} (h:Rb B N w v xs) (hN:∀ g,v.ownBlock=some g→N g):Ws N w v xs:=by
 refine ⟨?_,h.2⟩;rcases h.1.2 with ⟨h1,h0⟩|⟨g,cap,cur,h1,hB,h3,h4,h5,h6⟩
 ·have:xs= []:=iI h0
  subst this;exact ⟨none,0,h1,aw _,aY _,fun _=>rfl,.inl rfl⟩
 ·exact ⟨some ⟨g,0,none⟩,cap,h1,h4,h5,(fun e=>by cases e),.inr ⟨g,0,rfl,hN g (by rw [h1];rfl),af h3,wC LS (h1 ▸ h.1)⟩⟩
def tY (N:Nat→Prop) (B:Nat) (W:World) (y:Wv):Prop:=
 Bv W y.v y.x.val∧(y.x.val= []∨∀ b,y.v.ownBlock=some b→N b∨(B≤b∧∃ cur f,W.heap[b]?=some (.cells cur 5 f)))
theorem tY.keep {y:Wv} (h:tY N B W y) (hs:W.heap.size≤W'.heap.size) (hN:∀ b,N b→W'.heap[b]?=W.heap[b]?)
  (hc:∀ (b:Nat) (cur:Array Value) (f:Nat×Nat),B≤b→W.heap[b]?=some (.cells cur 5 f)→W'.heap[b]?=some (.cells cur 5 f)):tY N B W' y:=by
 refine ⟨aic h.1 hs (fun hne b hb=> ?_),h.2.imp id (fun h2 b hb=>(h2 b hb).imp id (fun ⟨h3,cur,f,h4⟩=>⟨h3,cur,f,hc b cur f h3 h4⟩))⟩;rcases h.2 with h2|h2
 ·exact absurd h2 hne
 ·rcases h2 b hb with h3|⟨h3,cur,f,h4⟩
  ·exact hN b h3
  ·rw [hc b cur f h3 h4,h4]
theorem tY.slice {y:Wv} (h:tY N B W y):∃ a c,y.v= .slice a y.x.val.length c:=h.1.slice
theorem tY.aBd {y:Wv} (h:tY N B W y) (hM:∀ b,N b∨B≤b→M b):pz M W y:=
 ⟨h.1,h.2.imp id (fun h2 b hb=>hM b ((h2 b hb).imp id (fun h3=>h3.1)))⟩
def oh (B:Nat) (N:Nat→Prop) (W:World) (v:Value) (ys:List Wv):Prop:=W.ownsRow B 51 3 v ys.length (ys.flatMap gW)∧∀ y∈ys,tY N B W y
theorem oh.ws {ys:List Wv} (h:oh B N W v ys) (hM:∀ b,N b∨B≤b→M b):Ws M W v ys:=
 Rb.es (B:=B) ⟨h.1,fun y hy=>(h.2 y hy).aBd hM⟩ (fun g hg=>by
  rcases h.1.2 with ⟨h1,_⟩|⟨g',cap,cur,h1,hB,_⟩
  ·rw [h1] at hg;cases hg
  ·rw [h1] at hg;cases hg;exact hM _ (.inr hB))
theorem LY {ys:List Wv} (h:oh B N W v ys) (hg:v.ownBlock=some g):B≤g∧∃ cur,W.heap[g]?=some (.cells cur 51 (0,0)):=by
 rcases h.1.2 with ⟨h1,h0⟩|⟨g',cap,cur,h1,hB,h3,_⟩
 ·rw [h1] at hg;cases hg
 ·rw [h1] at hg;cases hg;exact ⟨hB,cur,h3⟩
theorem oh.keep {ys:List Wv} (h:oh B N W v ys) (hs:W.heap.size≤W'.heap.size) (hN:∀ b,N b→W'.heap[b]?=W.heap[b]?)
  (hc:∀ (b:Nat) (cur:Array Value) (t:TypeId) (f:Nat×Nat),B≤b→(t=5∨t=51)→W.heap[b]?=some (.cells cur t f)→W'.heap[b]?=some (.cells cur t f)):oh B N W' v ys:=by
 refine ⟨⟨h.1.1,?_⟩,fun y hy=>(h.2 y hy).keep hs hN (fun b cur f hb hcb=>hc b cur _ f hb (.inl rfl) hcb)⟩;rcases h.1.2 with h1|⟨g,cap,cur,h1,h2,h3,h4⟩
 ·exact .inl h1
 ·exact .inr ⟨g,cap,cur,h1,h2,hc g cur _ _ h2 (.inr rfl) h3,h4⟩
theorem ajl {ys:List Wv} (h:oh B N w v ys) {x:Wv} (hx:tY N B w x) (Ei:∀ b,N b→b<B) (hB:B≤w.heap.size) (hl:ys.length≤1000000000):
  ∃ g cap w',(Builtin.append_ #[27,27] 27 #[v,.slice (some ⟨w.heap.size,0,none⟩) 1 1]).run Tryz.prog (w.alloc (.cells (LR x) 51))= .ok (.slice (some ⟨g,0,none⟩) (ys.length+1) cap) w'∧
   oh B N w' (.slice (some ⟨g,0,none⟩) (ys.length+1) cap) (ys++ [x])∧w.grownBy w' v.ownBlock:=by
 obtain ⟨i0,bO,hz0,hz1,hz2⟩:=info_parts Tryz.ajk;have oK:∀ u∈gW x,u.oneCell'=true:=fun u hu=>by
  obtain ⟨a,c,hv⟩:=hx.slice;simp only [gW,bE,List.not_mem_nil,or_false] at hu;rcases hu with rfl|rfl|rfl
  ·rfl
  ·rfl
  ·rw [hv];rfl
 have eK:(w.alloc (.cells (LR x) 51)).heap[w.heap.size]?=some (.cells (LR x) 51 (0,0)):=ax _ _;obtain ⟨g,cap,w',hrun,hown,hgr,_,_⟩:=run_append_lies (P:=Tryz.prog) (w.alloc (.cells (LR x) 51)) 27 27 B 51 i0 _ 3 48 Tryz.underlying27 bO hz0 hz1 hz2 rfl (by decide) _ _ _ (eM h.1 (ar _ _))
  ⟨w.heap.size,0,none⟩ 1 1 (gW x) rfl (fun j u hu=>World.news_of_block eK j u (by simpa [gW] using hu)) oK (by decide) (by unfold maxLen;omega) (by omega) (by simp;omega) _ rfl
 have hgb:w.grownBy w' v.ownBlock:=by
  obtain ⟨a,b,c,d,e⟩:=hgr;exact ⟨a,b,c,aM (by simp) d,fun k hk hn=>by rw [e k (by simp;omega) hn];exact heap_alloc_old _ _ hk⟩
 refine ⟨g,cap,w',hrun,⟨?_,fun y hy=> ?_⟩,hgb⟩
 ·have yA:(ys++ [x]).flatMap gW=ys.flatMap gW++gW x:=by simp
  rw [aJ,yA];exact hown
 ·have hy':tY N B w y:=by
   rcases cU.1 hy with h1|h1
   ·exact h.2 y h1
   ·rw [cY.1 h1];exact hx
  refine hy'.keep hgb.size (fun b hb=> ?_) (fun b cur f hb hc=> ?_)
  ·refine hgb.block b (cf (Ei b hb) hB) (fun e=> ?_)
   have:=(LY h e.symm).1;have:=Ei b hb;omega
  ·rw [hgb.block b (af hc) (fun e=> ?_)]
   ·exact hc
   ·obtain ⟨_,cur',h2⟩:=LY h e.symm
    rw [hc] at h2;exact absurd (cE (bk h2)).2.1 (by decide)
structure Bx (w0 W:World) (xb:Nat) (l:List UInt8):Prop where
 cell:∃ bv,W.heap[xb]?=some (.cells #[bv] 49 (0,0))∧Bv w0 bv l
 grow:Grow w0 W
 new:w0.heap.size≤xb
theorem Bx.nu (h:Bx w0 W xb l) (hg:Grow W W'):Bx w0 W' xb l:=by
 obtain ⟨bv,h1,h2⟩:=h.cell;exact ⟨⟨bv,hg.heap h1,h2⟩,h.grow.trans hg,h.new⟩
theorem Bx.cut {w0 W:World} {xb:Nat} {ba:Option Addr} {bc:Nat} (h:Bx w0 W xb l) (h1:W.heap[xb]?=some (.cells #[.slice ba l.length bc] 49 (0,0))) {n:Nat} (hn:n≤l.length) {ad:Option Addr} (had:(if bc=n then ba else ba.map (fun x=>x.add n))=ad):
  Bx w0 (W.setCell ⟨xb,0,none⟩ (.slice ad (l.length-n) (bc-n))) xb (l.drop n)∧GX xb W (W.setCell ⟨xb,0,none⟩ (.slice ad (l.length-n) (bc-n))):=by
 obtain ⟨bv,h2,h3⟩:=h.cell;rw [h1] at h2;cases h2;have hb':=aeu h3 hn;rw [had] at hb';exact ⟨⟨⟨_,Go.Gl.aK h1 0 _,hb'⟩,cj h.grow (p:=⟨xb,0,none⟩) h.new _,h.new⟩,Go.Gl.je _ _ _ _⟩
theorem XZ {r:List UInt8} (h:Bx w0 W xb (aD n++r)) (hn:n<18446744073709551616):
  Calls Tryz.prog 100 #[.pointer (some ⟨xb,0,none⟩)] W fun e w'=>e= .returned (.int .u64 n)∧Bx w0 w' xb r∧GX xb W w':=by
 obtain ⟨bv,h1,h2⟩:=h.cell;have fV:=Jt (h2.grow h.grow);rw [OP hn r] at fV;have hk:=cB n;obtain ⟨ba,bc,rfl⟩:=h2.slice;have hle:(aD n++r).length≤bc:=by obtain ⟨a',c',e',hc',_⟩:=h2;cases e';omega
 obtain ⟨ad,had⟩:∃ ad,(if bc=(aD n).length then ba else ba.map (fun x=>x.add (aD n).length))=ad:=⟨_,rfl⟩
 obtain ⟨p1,p2⟩:=h.cut h1 (n:=(aD n).length) (by simp) had;rw [List.drop_left] at p1;have c0:W.cell? ⟨xb,0,none⟩=some (.slice ba (aD n++r).length bc):=by simp [World.cell?,h1]
 have f0:=bG h1;have lx:=af h1;have iz:=ae fV;have fR:(aD n).length≤(aD n++r).length:=by simp
 have Hp:=ae (ag p1 p2);clear h h1 h2 fV p1 p2;generalize (aD n++r).length=L at*;generalize (aD n).length=k at*;go_enter Tryz.func100,Tryz.ntmps100
 go_wp2_with fail
 (with_reducible refine iz.out.mono ?_);rintro e w1 ⟨rfl,cp⟩;have hw2:=cp.symm;subst hw2;clear cp iz;go_wp2;go_ret;exact ⟨rfl,Hp.out⟩
theorem ajm {r:List UInt8} (h:Bx w0 W xb (aW x++r)) (hx:x.length≤67108864) (hr:r.length≤900000000000):
  Calls Tryz.prog 102 #[.pointer (some ⟨xb,0,none⟩)] W fun e w'=>∃ v,e= .returned v∧aI W.heap.size w' v x∧Bx w0 w' xb r∧GX xb W w':=by
 obtain ⟨bv,h1,h2⟩:=h.cell;have ia:=nz x;have hk:=cB x.length;have hbl:(aW x).length=(aD x.length).length+x.length:=by simp [aW]
 have fC:=Vl (h2.grow h.grow) hx (by omega) (m:=(aW x++r).length) (by simp only [aJ];omega) (by simp only [aJ];omega);rw [←hbl] at fC;obtain ⟨ba,bc,rfl⟩:=h2.slice;have hle:(aW x++r).length≤bc:=by obtain ⟨a',c',e',hc',_⟩:=h2;cases e';omega
 obtain ⟨ad,had⟩:∃ ad,(if bc=(aW x).length then ba else ba.map (fun z=>z.add (aW x).length))=ad:=⟨_,rfl⟩
 have fR:(aW x).length≤(aW x++r).length:=by simp
 have c0:W.cell? ⟨xb,0,none⟩=some (.slice ba (aW x++r).length bc):=by simp [World.cell?,h1]
 have lx:=af h1;have lO:=ae fC;have H1:=ae h1;have Dw:=ae (fun (w1:World) (hg:Grow W w1)=>by
  have:=(h.nu hg).cut (hg.heap h1) fR had;rw [List.drop_left] at this;exact this)
 clear h h1 h2 fC hbl hk;generalize (aW x++r).length=L at*;generalize (aW x).length=k at*;go_enter Tryz.func102,Tryz.ntmps102
 go_wp2_with fail
 (with_reducible refine lO.out.mono ?_);rintro e w1 ⟨v,rfl,ho,hg1⟩;have uS:=hg1.heap H1.out;have c1:w1.cell? ⟨xb,0,none⟩=some (.slice ba L bc):=by simp [World.cell?,uS]
 have f1:=bG uS;have lx1:=af uS;obtain ⟨p1,p2⟩:=Dw.out w1 hg1;have tu:aI W.heap.size (w1.setCell ⟨xb,0,none⟩ (.slice ad (L-k) (bc-k))) v x:=ho.keep (fun b hb=>aP _ _ _ _ (fun e=>by
  have e':b=xb:=e;have:=(ho.lt hb).1;omega))
 have bw:=ae (ag tu (ag p1 ((GX.of hg1).trans p2)));obtain ⟨va,vc,rfl⟩:=ho.slice;clear ho p1 p2 tu hg1 c0 uS H1 Dw lO;go_wp2;go_ret;exact ⟨_,rfl,bw.out⟩
theorem ajn (M:Nat→Prop) (w:World):∀ (ys:List Wv),(∀ y∈ys,pz M w y)→∀ u∈ys.flatMap gW,u.oneCell'=true
 | [],_,u,hu=>by cases hu
 |y::ys,h,u,hu=>by
  rw [List.flatMap_cons] at hu;rcases cU.1 hu with h1|h1
  ·have hb:Bv w y.v y.x.val:=(h y (dR ..)).1
   obtain ⟨a,c,hv⟩:=hb.slice;simp only [gW,bE,List.not_mem_nil,or_false] at h1;rcases h1 with rfl|rfl|rfl
   ·rfl
   ·rfl
   ·rw [hv];rfl
  ·exact ajn M w ys (fun z hz=>h z (fk _ hz)) u h1
theorem CQ (ys:List Wv):(ys.flatMap gW).length=ys.length*3:=by
 induction ys with
 |nil=>rfl
 |cons y ys ih=>rw [List.flatMap_cons,aJ,ih,LS,dH];omega
theorem ajo:∀ {ys:List Wv} {j:Nat} {u:Value},(ys.flatMap gW)[j]?=some u→∃ i c y,ys[i]?=some y∧(gW y)[c]?=some u∧j=i*3+c
 | [],j,u,h=>by simp at h
 |y::ys,j,u,h=>by
  rw [List.flatMap_cons] at h;by_cases hj:j<3
  ·rw [sO (by rw [LS];exact hj)] at h
   exact ⟨0,j,y,rfl,h,by omega⟩
  ·rw [ur (by rw [LS];omega),LS] at h
   obtain ⟨i,c,z,h1,h2,h3⟩:=ajo h;exact ⟨i+1,c,z,by simpa using h1,h2,by omega⟩
theorem ajp {sv:Value} {ys:List Wv} (h:w.ownsRow B 51 3 v n xs) (hs:Ws M w sv ys) (hB:B≤w.heap.size) (hn:n+ys.length≤1000000000):
  ∃ v' w',(Builtin.append_ #[27,27] 27 #[v,sv]).run Tryz.prog w= .ok v' w'∧w'.ownsRow B 51 3 v' (n+ys.length) (xs++ys.flatMap gW)∧w.grownBy w' v.ownBlock:=by
 obtain ⟨i0,bO,hz0,hz1,hz2⟩:=info_parts Tryz.ajk;obtain ⟨⟨a,c,rfl,hl,hm,ha,h5⟩,eU⟩:=hs;cases a with
 |none=>
  have hc:=ha rfl;subst hc;have hy:ys= []:=iI (Nat.le_zero.1 hl);subst hy;exact ⟨v,w,run_append_owned_none (P:=Tryz.prog) w B 27 27 51 i0 3 Tryz.underlying27 bO v n xs h,by simpa using h,World.grownBy.refl _ _⟩
 |some ad=>
  have hnews:∀ j u,(ys.flatMap gW)[j]?=some u→w.cell? (ad.add j)=some u:=fun j u hu=>by
   obtain ⟨i,c',y,h1,h2,h3⟩:=ajo hu;rcases h5 with h6|⟨b,o,h6,_,_,bm⟩
   ·rw [h6] at h1;simp at h1
   ·cases h6
    have h7:=bm i y h1 c' u h2;rw [h3,show (⟨b,o,none⟩:Addr).add (i*3+c')=⟨b,o+(i*3+c'),none⟩ by unfold Addr.add;split<;>simp_all,←Nat.add_assoc];exact h7
  obtain ⟨v',w',h1,h2,h3,_⟩:=run_append_own_at (P:=Tryz.prog) w B 27 27 51 i0 _ 3 48 Tryz.underlying27 bO hz0 hz1 hz2 rfl (by decide) v n xs h ad ys.length c (ys.flatMap gW) (CQ ys) hnews (ajn M w ys eU) (by unfold maxLen;omega) (by omega) hB;exact ⟨v',w',h1,h2,h3⟩
theorem aBe (w:World):(Instr.buildSlice 27 0 #[]).run Tryz.prog w= .ok (.slice (some ⟨w.heap.size,0,none⟩) 0 0) (w.alloc (.cells #[] 51)):=by kernel_rfl
theorem aBf (w:World) (a:ByteArray) (g:Bool) (x:Option Addr) (m n:Nat):(Instr.buildSlice 27 1 #[(0,.agg #[.string a,.bool g,.slice x m n])]).run Tryz.prog w= .ok (.slice (some ⟨w.heap.size,0,none⟩) 1 1) (w.alloc (.cells #[.string a,.bool g,.slice x m n] 51)):=by kernel_rfl
theorem aBg (N:Nat) (hN:N≤10000000) (w:World):∃ (K:ByteArray) (w':World),K.size=N∧(Instr.makeSlice 49 (.int .i64 (N:Int)) (.int .i64 (N:Int))).run Tryz.prog w= .ok (.slice (some ⟨w.heap.size,0,none⟩) N N) w'∧(convert 49 9 (.slice (some ⟨w.heap.size,0,none⟩) N N)).run Tryz.prog w'= .ok (.string K) w'∧Grow w w':=by
 obtain ⟨w',h1,h2,h3⟩:=aho N hN w;have hb:=cI (ahp (aw w.heap.size) h2 (by rw [List.length_replicate];omega));rw [List.length_replicate] at hb;exact ⟨_,w',by show (List.replicate N 0).toArray.size=N;rw [List.size_toArray,List.length_replicate],h1,CO hb,h3⟩
theorem aBh {k:ByteArray} {g:Bool} {d:List UInt8} (h:W.heap[q]?=some (.cells #[.string k,.bool g,v] 51 (0,0))) (hq:M q) (hv:Bw M W v d):Ws M W (.slice (some ⟨q,0,none⟩) 1 1) [⟨⟨k,g,d⟩,v⟩]:=by
 have key:∀ (j:Nat) (u:Value),(#[Value.string k,.bool g,v]:Array Value)[j]?=some u→W.cell? ⟨q,j,none⟩=some u:=fun j u h'=>by
  simp only [World.cell?,h];exact h'
 refine ⟨⟨_,1,rfl,aw _,by unfold maxLen;omega,(fun h=>by cases h),.inr ⟨q,0,rfl,hq,af h,fun i x hx c u hu=> ?_⟩⟩,fun x hx=>by rw [cY.1 hx];exact hv⟩
 match i,hx with
 |0,hx=>
  cases hx
  match c,hu with
  |0,hu=>cases hu;exact key 0 _ rfl
  |1,hu=>cases hu;exact key 1 _ rfl
  |2,hu=>cases hu;exact key 2 _ rfl
  |c+3,hu=>simp [gW] at hu
 |i+1,hx=>simp at hx
def SEr (db:Nat) (sv lv:Value) (j:Nat) (v:Value) (_W:World):Prop:=
 match j with
 |0=>v= .pointer (some ⟨db,0,none⟩)
 |2=>v=sv
 |4=>v=lv
 |7=>v= .tuple #[.int .u64 0,.int .i64 3]
 |8=>v= .tuple #[.int .u64 0,.int .i64 3]
 |9=>v= .int .u64 0
 |10=>v= .int .i64 3
 |11=>v= .int .u64 0
 |12=>v= .int .i64 3
 |_=>True
structure tZ (w0:World) (ys:List Wv) (z:Wv) (Rc:World→Prop) (l:Array Bool) (a:Act) (W:World):Prop where
 gr:l.getD 7 false=false→Grow w0 W
 r1:l.getD 1 false=true→l.getD 3 false=false→l.getD 6 false=false→∃ g,a.tmps[98]?=some (.slice (some ⟨g,0,none⟩) 0 0)∧W.ownsRow w0.heap.size 51 3 (.slice (some ⟨g,0,none⟩) 0 0) 0 []
 r3:l.getD 3 false=true→l.getD 6 false=false→∃ v,a.tmps[100]?=some v∧W.ownsRow w0.heap.size 51 3 v ys.length (ys.flatMap gW)
 r5:l.getD 5 false=true→l.getD 6 false=false→∃ q,a.tmps[102]?=some (.slice (some ⟨q,0,none⟩) 1 1)∧w0.heap.size≤q∧W.heap[q]?=some (.cells (LR z) 51 (0,0))∧(l.getD 1 false=true→l.getD 3 false=false→a.tmps[98]?≠some (.slice (some ⟨q,0,none⟩) 0 0))
 r6:l.getD 6 false=true→l.getD 7 false=false→∃ v,a.tmps[103]?=some v∧W.ownsRow w0.heap.size 51 3 v (ys.length+1) ((ys++ [z]).flatMap gW)
 r7:l.getD 7 false=true→Rc W
theorem tZ.next {ys:List Wv} {z:Wv} {Rc:World→Prop} {l:Array Bool} {a:Act} (h:tZ w0 ys z Rc l a W) (hi:i≠1∧i≠3∧i≠5∧i≠6∧i≠7) (hd:d≠98∧d≠100∧d≠102∧d≠103):tZ w0 ys z Rc (l.setIfInBounds i true) (a.put (some d) v) W:=by
 have g1:(l.setIfInBounds i true).getD 1 false=l.getD 1 false:=getD_set_ne false hi.1;have g3:(l.setIfInBounds i true).getD 3 false=l.getD 3 false:=getD_set_ne false hi.2.1;have g5:(l.setIfInBounds i true).getD 5 false=l.getD 5 false:=getD_set_ne false hi.2.2.1;have g6:(l.setIfInBounds i true).getD 6 false=l.getD 6 false:=getD_set_ne false hi.2.2.2.1;have g7:(l.setIfInBounds i true).getD 7 false=l.getD 7 false:=getD_set_ne false hi.2.2.2.2;refine ⟨?_,?_,?_,?_,?_,?_⟩
 ·rw [g7];exact h.gr
 ·rw [g1,g3,g6];intro h1 h2 h3;obtain ⟨g,q1,q2⟩:=h.r1 h1 h2 h3;exact ⟨g,gi hd.1 q1,q2⟩
 ·rw [g3,g6];intro h1 h2;obtain ⟨g,q1,q2⟩:=h.r3 h1 h2;exact ⟨g,gi hd.2.1 q1,q2⟩
 ·rw [g5,g6,g1,g3];intro h1 h2;obtain ⟨g,q1,q2,q3,q4⟩:=h.r5 h1 h2
  refine ⟨g,gi hd.2.2.1 q1,q2,q3,fun h3 h5 h4=>q4 h3 h5 ?_⟩;rwa [show (a.put (some d) v).tmps[98]?=a.tmps[98]? by simp only [Act.put];rw [Array.getElem?_setIfInBounds,if_neg hd.1]] at h4
 ·rw [g6,g7];intro h1 h2;obtain ⟨g,q1,q2⟩:=h.r6 h1 h2;exact ⟨g,gi hd.2.2.2 q1,q2⟩
 ·rw [g7];exact h.r7
structure Bt (w W:World) (xb:Nat) (l:List UInt8) (lv:Value) (ys:List Wv):Prop where
 bx:Bx w W xb l
 row:oh w.heap.size (fun _=>False) W lv ys
theorem Bt.gx {ys:List Wv} (h:Bt w W xb l lv ys) (hb:Bx w W' xb l') (hg:GX xb W W'):Bt w W' xb l' lv ys:=by
 refine ⟨hb,h.row.keep hg.size (fun b hb=>hb.elim) (fun b cur t f _ ht hc=> ?_)⟩;obtain ⟨bv,h1,_⟩:=h.bx.cell;exact hg.heap hc (fun e=>by
  subst e;rw [hc] at h1;cases h1;rcases ht with h|h<;>exact absurd h (by decide))
theorem Bt.app {W':World} {lv':Value} {ys ys':List Wv} (h:Bt w W xb l lv ys) (hg:W.grownBy W' lv.ownBlock) (hr:oh w.heap.size (fun _=>False) W' lv' ys'):Bt w W' xb l lv' ys':=by
 obtain ⟨bv,h1,h2⟩:=h.bx.cell;refine ⟨⟨⟨bv,(hg.block xb (af h1) (fun e=> ?_)).trans h1,h2⟩,h.bx.grow.grown hg h.bx.grow.size (fun k e=>(LY h.row e).1),h.bx.new⟩,hr⟩;obtain ⟨_,cur,hc⟩:=LY h.row e.symm;rw [h1] at hc;exact absurd (cE (bk hc)).2.1 (by decide)
def SBa (xb tb:Nat) (key:ByteArray) (j:Nat) (v:Value) (_W:World):Prop:=
 match j with
 |0=>v= .func (.func 102) #[] #[.pointer (some ⟨xb,0,none⟩)]
 |2=>v= .string key
 |3=>v= .func (.func 102) #[] #[.pointer (some ⟨xb,0,none⟩)]
 |5=>v= .pointer (some ⟨tb,0,none⟩)
 |7=>v= .pointer (some ⟨tb,2,none⟩)
 |_=>True
structure ud (w W0:World) (xb tb:Nat) (key:ByteArray) (g:Bool) (val r:List UInt8) (l:Array Bool) (a:Act) (W:World):Prop where
 gx:GX xb W0 W
 zi:l.getD 1 false=false→Bx w W xb (aW key.data.toList++(aW val++r))
 zj:l.getD 1 false=true→l.getD 4 false=false→Bx w W xb (aW val++r)
 zk:l.getD 4 false=true→Bx w W xb r
 kb:l.getD 1 false=true→∃ v,a.tmps[28]?=some v∧aI W0.heap.size W v key.data.toList
 vb:l.getD 4 false=true→∃ v,a.tmps[31]?=some v∧aI W0.heap.size W v val
 box:∃ c2,W.heap[tb]?=some (.cells #[if l.getD 6 false then .string key else .string ⟨#[]⟩,.bool g,c2] 51 (0,0))∧(l.getD 8 false=true→a.tmps[31]?=some c2)
theorem ud.next {W0:World} {key:ByteArray} {g:Bool} {r:List UInt8} {l:Array Bool} {a:Act} (h:ud w W0 xb tb key g val r l a W) (hi:i≠1∧i≠4∧i≠6∧i≠8) (hd:d≠28∧d≠31) (hg:Grow W W'):ud w W0 xb tb key g val r (l.setIfInBounds i true) (a.put (some d) v) W':=
 ⟨h.gx.trans (GX.of hg),fun h1=>(h.zi (by rw [getD_set_ne false hi.1] at h1;exact h1)).nu hg,fun h1 h2=>(h.zj (by rw [getD_set_ne false hi.1] at h1;exact h1) (by rw [getD_set_ne false hi.2.1] at h2;exact h2)).nu hg,
  fun h1=>(h.zk (by rw [getD_set_ne false hi.2.1] at h1;exact h1)).nu hg,
  fun h1=>by
   obtain ⟨u,g1,g2⟩:=h.kb (by rw [getD_set_ne false hi.1] at h1;exact h1);exact ⟨u,gi hd.1 g1,g2.grow hg⟩,
  fun h1=>by
   obtain ⟨u,g1,g2⟩:=h.vb (by rw [getD_set_ne false hi.2.1] at h1;exact h1);exact ⟨u,gi hd.2 g1,g2.grow hg⟩,
  by
   obtain ⟨c2,g1,g2⟩:=h.box;rw [getD_set_ne false hi.2.2.1];exact ⟨c2,hg.heap g1,fun h1=>gi hd.2 (g2 (by rw [getD_set_ne false hi.2.2.2] at h1;exact h1))⟩⟩
theorem ud.ajr {W0:World} (h:GX xb W0 W) (ht:W0.heap.size≤tb) (j:Nat) (v:Value):GX xb W0 (W.setCell ⟨tb,j,none⟩ v):=by
 obtain ⟨a,b,c,d,e⟩:=h;exact ⟨a,b,c,by simpa using d,fun k hk hn=>(aP _ _ _ _ (fun e'=>by have e2:k=tb:=e';omega)).trans (e k hk hn)⟩
theorem Bx.Ic (h:Bx w W xb l) (ht:w.heap.size≤tb) (hb:W.heap[tb]?=some (.cells cs 51 (0,0))) (j:Nat) (v:Value):Bx w (W.setCell ⟨tb,j,none⟩ v) xb l:=by
 obtain ⟨bv,h1,h2⟩:=h.cell;exact ⟨⟨bv,(aP _ _ _ _ (fun e=>by
  have e':xb=tb:=e;subst e';rw [h1] at hb;exact absurd (cE (bk hb)).2.1 (by decide))).trans h1,h2⟩,cj h.grow (p:=⟨tb,j,none⟩) ht _,h.new⟩
theorem aI.ve (h:aI B W u l) (hb:W.heap[tb]?=some (.cells cs 51 (0,0))) (j:Nat) (v:Value):aI B (W.setCell ⟨tb,j,none⟩ v) u l:=
 h.keep (fun b fG=>aP _ _ _ _ (fun e=>by
  have e':b=tb:=e;obtain ⟨cur,hc⟩:=h.block fG;rw [e',hb] at hc;exact absurd (cE (bk hc)).2.1 (by decide)))
def Ya (w:World) (xb:Nat) (ws:List Wr) (lv nv:Value) (wr:World):Prop:=
 ∃ (i:Nat) (ys:List Wv),nv= .int .u64 ((ws.length-i:Nat):Int)∧i≤ws.length∧ys.map (·.x)=ws.take i∧Bt w wr xb ((ws.drop i).flatMap kL) lv ys
theorem oh.slice {ys:List Wv} (h:oh B N W v ys):∃ a c,v= .slice a ys.length c:=by
 rcases h.1.2 with ⟨h1,h0⟩|⟨g,cap,cur,h1,_⟩
 ·exact ⟨none,0,by rw [h1,h0]⟩
 ·exact ⟨_,_,h1⟩
theorem ajs (B:Nat) (N:Nat→Prop) (W:World):oh B N W (.slice none 0 0) []:=⟨⟨rfl,.inl ⟨rfl,rfl⟩⟩,fun y h=>by cases h⟩
theorem aBk {seq:Nat} {ws:List Wr} (h:Bv w bv (kM seq ws)) (hs:seq<18446744073709551616) (rV:ws.length≤100000000) (Jq:bA ws≤60000000):
  Calls Tryz.prog 54 #[bv] w fun e w'=>∃ v ys,e= .returned (.tuple #[.int .u64 (seq:Int),v])∧ys.map (·.x)=ws∧oh w.heap.size (fun _=>False) w' v ys∧Grow w w':=by
 have ah:=ar w (.cells #[bv] 49);have dK:Bx w (w.alloc (.cells #[bv] 49)) w.heap.size (aD seq++(aD ws.length++ws.flatMap kL)):=⟨⟨bv,ax _ _,by unfold kM at h;rw [ju] at h;exact h⟩,ah,aw _⟩
 have hc1:=XZ dK hs;obtain ⟨ba,bc,rfl⟩:=h.slice;have qI:=ae hc1;have Hwn:=ae Jq;clear h ah dK hc1 Jq;generalize (kM seq ws).length=RL at*;go_enter Tryz.func54,Tryz.ntmps54
 go_wp2_with fail
 generalize w.alloc (.cells #[.slice ba RL bc] 49)=w1 at*;obtain ⟨xb,il⟩:∃ xb,xb=w.heap.size:=⟨_,rfl⟩
 rw [←il] at qI ⊢;have yY:=ae il;clear il;(with_reducible refine qI.out.mono ?_);rintro e w2 ⟨rfl,hb2,hg2⟩;have CP:=ae (XZ hb2 (n:=ws.length) (by omega));clear hb2 hg2 qI
 go_wp2_with fail
 (with_reducible refine CP.out.mono ?_);rintro e w3 ⟨rfl,hb3,hg3⟩;have bJ:Hid (Ya w xb ws (.slice none 0 0) (.int .u64 (ws.length:Int)) w3):=ae ⟨0,[],by simp,aY _,rfl,by simpa using hb3,ajs _ _ _⟩;clear hb3 hg3 CP
 go_wp2_with fail
 go_loopw [3,6] (fun lv nv wr=>Ya w xb ws lv nv wr) (fun _ nv _=>(intOf nv).toNat)
 case atStart=>exact bJ.out
 case round=>
  clear bJ;obtain ⟨i,ys,rfl,hi,bQ,eV⟩:=hrel;have dW:ys.length=i:=by
   have:=congrArg List.length bQ;rw [bF,List.length_take] at this;omega
  obtain ⟨bxv,Yb,cN⟩:=eV.bx.cell;have c0:wr.cell? ⟨xb,0,none⟩=some bxv:=by simp [World.cell?,Yb]
  have lx:=af Yb;obtain ⟨xa,xc,rfl⟩:=cN.slice;obtain ⟨la,lc,rfl⟩:=eV.row.slice;clear Yb cN;by_cases hlt:i<ws.length
  ·obtain ⟨y,hy⟩:∃ y,ws[i]?=some y:=⟨ws[i],by simp [hlt]⟩
   have hdr:(ws.drop i).flatMap kL=kL y++(ws.drop (i+1)).flatMap kL:=by
    obtain ⟨h1,rfl⟩:=dG.1 hy;rw [mh h1,List.flatMap_cons]
   have Et:=QO (dB hy);have ng:((ws.drop (i+1)).flatMap kL).length≤4000000000:=by
    have h1:=QM (ws.drop (i+1));have h2:bA (ws.drop (i+1))≤bA ws:=by
     have h:=HZ (ws.take (i+1)) (ws.drop (i+1));rw [List.take_append_drop] at h;omega
    have:=Hwn.out;rw [List.length_drop] at h1;omega
   have eG:=take_one hy;have aKK:=Hwn.out;obtain ⟨yk,yg,yd⟩:=y;dsimp only at Et;have ed:yk.data.toList.length=yk.size:=by rw [gO];rfl
   have Ai:0<((ws.drop i).flatMap kL).length:=by rw [hdr,aJ];have:=ari (tW yg);simp only [kL,aJ];omega
   obtain ⟨n,hn⟩:∃ n,n=ws.length-i:=⟨_,rfl⟩
   rw [←hn];have iO:(0:Int)<(n:Int):=by omega
   obtain ⟨XL,hXL⟩:∃ x,x=((ws.drop i).flatMap kL).length:=⟨_,rfl⟩
   rw [←hXL] at c0 Ai;have hX1:(0:Int)<(XL:Int):=by omega
   have aKM:IntKind.u64.wrap ((n:Int)-1)=((n-1:Nat):Int):=by simp [IntKind.wrap,IntKind.bits,IntKind.signed];omega
   obtain ⟨R,hR⟩:∃ x,x=(ws.drop (i+1)).flatMap kL:=⟨_,rfl⟩
   rw [←hR] at ng hdr;have dK:=eV.bx;rw [hdr] at dK;have vz:kL ⟨yk,yg,yd⟩++R=aD (tW yg)++(aW yk.data.toList++(aW yd++R)):=by simp [kL]
   rw [vz] at dK;have mZ:=ae (XZ dK (n:=tW yg) (by unfold tW;split<;>omega));have zn:=ae eV;have HR:=ae hR;have Hn:=ae hn;have nV:=ae eG;have Yc:=ae bQ;clear eV dK vz hdr hR hn eG bQ hXL hy ed
   go_wp2_with fail
   (with_reducible refine mZ.out.mono ?_);rintro e W0 ⟨rfl,hb0,hg0⟩;have aBm:=zn.out.gx hb0 hg0;have HB0:=ae aBm;have hw0:w.heap.size≤W0.heap.size:=hb0.grow.size;have lx0:xb<W0.heap.size:=by obtain ⟨bv,h1,_⟩:=hb0.cell;exact af h1
   have heq:∀ z:Nat,((z:Int)==1)=decide (z=1):=fun z=>by
    by_cases h:z=1
    ·subst h;rfl
    ·have:¬ (z:Int)=1:=by omega
     simp [h,this]
   have hgq:decide ((tW yg:Int)=1)=yg:=by cases yg<;>rfl
   have aKP:(((tW yg:Nat):Int)==1)=yg:=by cases yg<;>rfl
   clear hb0 hg0 mZ zn c0 lx heq
   go_upto_region 8 with fail
   have dY:(W0.alloc (.cells #[.string ⟨#[]⟩,.bool yg,.slice none 0 0] 51)).heap[W0.heap.size]?=some (.cells #[.string ⟨#[]⟩,.bool yg,.slice none 0 0] 51 (0,0)):=ax _ _;have aU:Grow W0 (W0.alloc (.cells #[.string ⟨#[]⟩,.bool yg,.slice none 0 0] 51)):=ar _ _;generalize W0.alloc (.cells #[.string ⟨#[]⟩,.bool yg,.slice none 0 0] 51)=W1 at*;obtain ⟨tb,Ie⟩:∃ tb,tb=W0.heap.size:=⟨_,rfl⟩
   rw [←Ie] at dY ⊢;have Re:W0.heap.size≤tb:=Nat.le_of_eq Ie.symm;clear Ie;refine uB (fun a0 ha0=> ?_);have F5:a0.tmps[5]?=some (.func (.func 102) #[] #[.pointer (some ⟨xb,0,none⟩)]):=by rw [ha0];rfl
   have F7:a0.tmps[7]?=some (.pointer (some ⟨tb,0,none⟩)):=by rw [ha0];rfl
   have hsz:a0.tmps.size=40:=by rw [ha0];rfl
   have lS:=ae ha0;have hgd:=aU.trans (az W1);have kX:=ae ((az W1).heap dY);clear ha0 aU dY;refine uD (SBa xb tb yk) (ud w W0 xb tb yk yg yd R) (fun _ _=>True) [27,28,29,30,31,32,33] (by kernel_rfl) (by kernel_rfl) (by rw [hsz];rfl) (fun j v W W' _ h=>h) ⟨GX.of hgd,fun _=>HB0.out.bx.nu hgd,(fun h=>by cases h),(fun h=>by cases h),(fun h=>by cases h),(fun h=>by cases h),_,kX.out,(fun h=>by cases h)⟩ ?_ (fun a1 W2 hf=> ?_);rotate_left
   ·obtain ⟨c2,gL,hc2⟩:=hf.world.box
    have El:W2.heap[tb]?=some (.cells #[.string yk,.bool yg,c2] 51 (0,0)):=gL;obtain ⟨vv,xp,tG⟩:=hf.world.vb rfl;have Qr:=hc2 rfl;rw [xp] at Qr;cases Qr;have hgx:=hf.world.gx;have Rf:=HB0.out.gx (hf.world.zk rfl) hgx;have e:=hf.alike.fill;rw [lS.out] at e;simp only [List.foldl_cons,List.foldl_nil,Act.put,mf,List.set_cons_zero,kz] at e;obtain ⟨QR,LU⟩:∃ u,a1.tmps.getD 27 undef=u:=⟨_,rfl⟩
    obtain ⟨u28,LV⟩:∃ u,a1.tmps.getD 28 undef=u:=⟨_,rfl⟩
    obtain ⟨Kq,AH⟩:∃ u,a1.tmps.getD 29 undef=u:=⟨_,rfl⟩
    obtain ⟨Kr,AJ⟩:∃ u,a1.tmps.getD 30 undef=u:=⟨_,rfl⟩
    obtain ⟨Ks,AK⟩:∃ u,a1.tmps.getD 31 undef=u:=⟨_,rfl⟩
    obtain ⟨u32,AL⟩:∃ u,a1.tmps.getD 32 undef=u:=⟨_,rfl⟩
    obtain ⟨u33,AO⟩:∃ u,a1.tmps.getD 33 undef=u:=⟨_,rfl⟩
    rw [LU,LV,AH,AJ,AK,AL,AO] at e;clear hf gL hc2 xp LU LV AH AJ AK AL AO;rw [e];clear e lS F5 F7 hsz kX hgd;obtain ⟨t0,t1,t2⟩:=xu El;have Cx:=af El;have LZ:aI w.heap.size W2 c2 yd:=tG.mono hw0;have Wt:tY (fun _=>False) w.heap.size W2 ⟨⟨yk,yg,yd⟩,c2⟩:=⟨cI LZ,.inr (fun b hb=> .inr ⟨(LZ.lt hb).1,by obtain ⟨cur,hc⟩:=LZ.block hb;exact ⟨cur,_,hc⟩⟩)⟩
    obtain ⟨gb,Ig,W3,hrun,hrow3,hg3⟩:=ajl Rf.row Wt (fun b hb=>hb.elim) (aM Rf.bx.grow.size (aw _)) (by omega);have ajw:=Rf.app hg3 hrow3;have aX:Hid (Ya w xb ws (.slice (some ⟨gb,0,none⟩) (i+1) Ig) (.int .u64 ((n-1:Nat):Int)) W3):=ae ⟨i+1,ys++ [⟨⟨yk,yg,yd⟩,c2⟩],by rw [Hn.out,Nat.sub_sub],hlt,by rw [dD,Yc.out,nV.out];rfl,by rw [←HR.out,←dW];exact ajw⟩;rw [dW] at hrun;have cW:=ae hrun;have aKQ:Hid (∀ u:Nat,u≤u):=ae (fun u=>aw u);obtain ⟨wa,wc,rfl⟩:=LZ.slice;clear ajw hrow3 hg3 hrun Rf tG LZ Wt El hgx
    go_wp2_with (at_builtin;refine fI rfl rfl rfl rfl cW.out ?_)
    go_roundw
    case rel=>exact aX.out
    case measure=>simp [intOf];omega
   refine ⟨?_,?_,?_,?_,?_,?_,?_,?_,?_,True.intro⟩
   ·intro listed a V hf ak aj
    have hs1:=hf.sz hsz;have hT:=hf.world;have G5:=hf.got (by decide) F5 (by rw [hs1];decide);refine aR rfl (by rfl) (fun K' hK'=> ?_);go_simp;exact hK' _ _ ⟨_,rfl,(fun _ _=>rfl),True.intro,ud.next hT (by decide) (by decide) (aV _)⟩
   ·intro listed a V hf ak aj
    have hs1:=hf.sz hsz;have hT:=hf.world;have G27:=aO (hf.sv 0 27 rfl (aH aj 0 (by kernel_rfl)) fun _ _ h=>h) (by rw [hs1];decide);have iO:listed.getD 1 false=false:=by
     rw [eQ] at ak ⊢;cases hx:listed[1]? with
     |none=>rw [hx] at ak;cases ak
     |some b=>rw [hx] at ak;exact ak
    have zm:=dI hf.closed (n:=8) (e:=4) (i:=1) (by kernel_rfl) ak;refine jE rfl (by rfl) (by go_simp) (ajm (hT.zi iO) (by rw [gO];show yk.size≤_;omega) (by have:=nz yd;simp only [aJ];omega)) ?_;rintro e V2 ⟨v,rfl,ho,bm,hgx⟩;have hlen:1<listed.size:=by rw [hf.size];decide
    have Ew:W0.heap.size≤V.heap.size:=hT.gx.size;refine ⟨_,rfl,_,rfl,(fun _ _=>True.intro),True.intro,hT.gx.trans hgx,(fun h=>by rw [jQ hlen] at h;cases h),(fun _ _=>bm),(fun h=>by rw [getD_set_ne false (by decide)] at h;rw [zm] at h;cases h),(fun _=>⟨v,pK (by rw [hs1];decide),ho.mono Ew⟩),(fun h=>by rw [getD_set_ne false (by decide)] at h;rw [zm] at h;cases h),?_⟩;obtain ⟨c2,g1,g2⟩:=hT.box;rw [getD_set_ne false (by decide)];refine ⟨c2,hgx.heap g1 (fun e=> ?_),fun h1=>gi (by decide) (g2 (by rw [getD_set_ne false (by decide)] at h1;exact h1))⟩;omega
   ·intro listed a V hf ak aj
    have hs1:=hf.sz hsz;have hT:=hf.world;obtain ⟨v,s1,hb⟩:=hT.kb (aH aj 1 (by kernel_rfl));have G28:=aO s1 (by rw [hs1];decide);have hcv:=CO (cI hb);have hka:(⟨yk.data.toList.toArray⟩:ByteArray)=yk:=by simp
    rw [hka] at hcv;refine aR rfl (by rfl) (fun K' hK'=> ?_);go_simp;exact hK' _ _ ⟨_,rfl,(fun _ _=>rfl),True.intro,ud.next hT (by decide) (by decide) (aV _)⟩
   ·intro listed a V hf ak aj
    have hs1:=hf.sz hsz;have hT:=hf.world;have G5:=hf.got (by decide) F5 (by rw [hs1];decide);refine aR rfl (by rfl) (fun K' hK'=> ?_);go_simp;exact hK' _ _ ⟨_,rfl,(fun _ _=>rfl),True.intro,ud.next hT (by decide) (by decide) (aV _)⟩
   ·intro listed a V hf ak aj
    have hs1:=hf.sz hsz;have hT:=hf.world;have G30:=aO (hf.sv 3 30 rfl (aH aj 3 (by kernel_rfl)) fun _ _ h=>h) (by rw [hs1];decide);have zm:listed.getD 4 false=false:=by
     rw [eQ] at ak ⊢;cases hx:listed[4]? with
     |none=>rw [hx] at ak;cases ak
     |some b=>rw [hx] at ak;exact ak
    have vy:=aH aj 1 (by kernel_rfl);have kK:=dI hf.closed (n:=8) (e:=8) (i:=4) (by kernel_rfl) ak;refine jE rfl (by rfl) (by go_simp) (ajm (hT.zj vy zm) (by omega) (by omega)) ?_;rintro e V2 ⟨v,rfl,ho,bm,hgx⟩;have hlen:4<listed.size:=by rw [hf.size];decide
    have Ew:W0.heap.size≤V.heap.size:=hT.gx.size;refine ⟨_,rfl,_,rfl,(fun _ _=>True.intro),True.intro,hT.gx.trans hgx,(fun h=>by rw [getD_set_ne false (by decide),vy] at h;cases h),(fun _ h=>by rw [jQ hlen] at h;cases h),(fun _=>bm),(fun h=> ?_),(fun _=>⟨v,pK (by rw [hs1];decide),ho.mono Ew⟩),?_⟩
    ·obtain ⟨u,g1,g2⟩:=hT.kb vy
     exact ⟨u,gi (by decide) g1,g2.keep (fun b hb=>by
      obtain ⟨cur,hc⟩:=g2.block hb;obtain ⟨bv,hx1,_⟩:=(hT.zj vy zm).cell;exact (hgx.heap hc (fun e=>by
       rw [e,hx1] at hc;exact absurd (cE (bk hc)).2.1 (by decide))).trans hc.symm)⟩
    ·obtain ⟨c2,g1,g2⟩:=hT.box
     rw [getD_set_ne false (by decide)];refine ⟨c2,hgx.heap g1 (fun e=>by omega),fun h1=> ?_⟩;rw [getD_set_ne false (by decide),kK] at h1;cases h1
   ·intro listed a V hf ak aj
    have hs1:=hf.sz hsz;have hT:=hf.world;have G7:=hf.got (by decide) F7 (by rw [hs1];decide);obtain ⟨c2,g1,g2⟩:=hT.box;have lb:=af g1;refine aR rfl (by rfl) (fun K' hK'=> ?_);go_simp;exact hK' _ _ ⟨_,rfl,(fun _ _=>rfl),True.intro,ud.next hT (by decide) (by decide) (aV _)⟩
   ·intro listed a V hf ak aj
    have hs1:=hf.sz hsz;have hT:=hf.world;have G32:=aO (hf.sv 5 32 rfl (aH aj 5 (by kernel_rfl)) fun _ _ h=>h) (by rw [hs1];decide);have G29:=aO (hf.sv 2 29 rfl (aH aj 2 (by kernel_rfl)) fun _ _ h=>h) (by rw [hs1];decide);have oV:listed.getD 6 false=false:=by
     rw [eQ] at ak ⊢;cases hx:listed[6]? with
     |none=>rw [hx] at ak;cases ak
     |some b=>rw [hx] at ak;exact ak
    obtain ⟨c2,g1,g2⟩:=hT.box;have lb:=af g1;have fb:=bG g1;obtain ⟨Dh,Di,Dj⟩:=xu g1;have cM:=Go.Gl.aK g1 0 (.string yk);have hlen:6<listed.size:=by rw [hf.size];decide
    have hwt:w.heap.size≤tb:=aM hw0 Re;refine aR rfl (by rfl) (fun K' hK'=> ?_);go_simp;refine hK' _ _ ⟨undef,rfl,(fun _ h=>by cases h),True.intro,ud.ajr hT.gx Re 0 _,(fun h=>(hT.zi (by rw [getD_set_ne false (by decide)] at h;exact h)).Ic hwt g1 0 _),(fun h1 h2=>(hT.zj (by rw [getD_set_ne false (by decide)] at h1;exact h1) (by rw [getD_set_ne false (by decide)] at h2;exact h2)).Ic hwt g1 0 _),(fun h=>(hT.zk (by rw [getD_set_ne false (by decide)] at h;exact h)).Ic hwt g1 0 _),(fun h=> ?_),(fun h=> ?_),c2,?_,(fun h=>g2 (by rw [getD_set_ne false (by decide)] at h;exact h))⟩
    ·obtain ⟨u,k1,k2⟩:=hT.kb (by rw [getD_set_ne false (by decide)] at h;exact h)
     exact ⟨u,k1,k2.ve g1 0 _⟩
    ·obtain ⟨u,k1,k2⟩:=hT.vb (by rw [getD_set_ne false (by decide)] at h;exact h)
     exact ⟨u,k1,k2.ve g1 0 _⟩
    ·rw [jQ hlen,if_pos rfl]
     exact cM
   ·intro listed a V hf ak aj
    have hs1:=hf.sz hsz;have hT:=hf.world;have G7:=hf.got (by decide) F7 (by rw [hs1];decide);obtain ⟨c2,g1,g2⟩:=hT.box;have lb:=af g1;refine aR rfl (by rfl) (fun K' hK'=> ?_);go_simp;exact hK' _ _ ⟨_,rfl,(fun _ _=>rfl),True.intro,ud.next hT (by decide) (by decide) (aV _)⟩
   ·intro listed a V hf ak aj
    have hs1:=hf.sz hsz;have hT:=hf.world;have G33:=aO (hf.sv 7 33 rfl (aH aj 7 (by kernel_rfl)) fun _ _ h=>h) (by rw [hs1];decide);have kK:listed.getD 8 false=false:=by
     rw [eQ] at ak ⊢;cases hx:listed[8]? with
     |none=>rw [hx] at ak;cases ak
     |some b=>rw [hx] at ak;exact ak
    obtain ⟨u,s4,ho⟩:=hT.vb (aH aj 4 (by kernel_rfl));have G31:=aO s4 (by rw [hs1];decide);obtain ⟨ua,uc,rfl⟩:=ho.slice;obtain ⟨c2,g1,g2⟩:=hT.box;have lb:=af g1;have fb:=bG g1;obtain ⟨Dh,Di,Dj⟩:=xu g1;have cM:=Go.Gl.aK g1 2 (.slice ua yd.length uc);have hlen:8<listed.size:=by rw [hf.size];decide
    have hwt:w.heap.size≤tb:=aM hw0 Re;refine aR rfl (by rfl) (fun K' hK'=> ?_);go_simp;refine hK' _ _ ⟨undef,rfl,(fun _ h=>by cases h),True.intro,ud.ajr hT.gx Re 2 _,(fun h=>(hT.zi (by rw [getD_set_ne false (by decide)] at h;exact h)).Ic hwt g1 2 _),(fun h1 h2=>(hT.zj (by rw [getD_set_ne false (by decide)] at h1;exact h1) (by rw [getD_set_ne false (by decide)] at h2;exact h2)).Ic hwt g1 2 _),(fun h=>(hT.zk (by rw [getD_set_ne false (by decide)] at h;exact h)).Ic hwt g1 2 _),(fun h=> ?_),(fun h=> ?_),.slice ua yd.length uc,?_,(fun h=>s4)⟩
    ·obtain ⟨u,k1,k2⟩:=hT.kb (by rw [getD_set_ne false (by decide)] at h;exact h)
     exact ⟨u,k1,k2.ve g1 2 _⟩
    ·exact ⟨_,s4,ho.ve g1 2 _⟩
    ·rw [getD_set_ne false (by decide)]
     exact cM
  ·obtain rfl:i=ws.length:=by omega
   have iy:ws.length-ws.length=0:=Nat.sub_self _;rw [ij] at bQ;have ox:=ae eV.row;have HG:=ae eV.bx.grow;have Yc:=ae bQ;rw [iy];clear eV bQ;go_wp2;refine bodyPost_ret (v:= .tuple #[.int .u64 (seq:Int),.slice la ys.length lc]) ?_ rfl ?_
   ·simp [results,Tryz.results54,go_sem]
   ·exact ⟨_,ys,rfl,Yc.out,ox.out,HG.out⟩
section
attribute [local go_sem] Oper.semAt_some
theorem aBn {l:List En} {up:Nat} (h:∀ e∈l,e.seq≤up):ej ⟨⟨#[]⟩,up,false,[]⟩ l=l:=by
 unfold ej;cases l with
 |nil=>rfl
 |cons a l=>
  rw [List.dropWhile_cons,if_neg];simp only [decide_eq_true_eq];rw [yS];rintro (h1|⟨_,h1⟩)
  ·simp at h1
  ·have:=h a (dR ..)
   simp only at h1;omega
theorem aBo {N:Nat→Prop} {w:World} {ns:List Nd} (h:dQ N w tb ha ns aU dv ds) (hN:∀ b,N b→b<w.heap.size) (hlen:ns.length≤1000000000):
  Calls Tryz.prog 75 #[au tb] w fun e w'=>LG N w (ns.map (fun n=>n.x.e)) e w' 180:=by
 have Hf:=ae (ain h hN hlen ⟨#[]⟩);rw [aBn (l:=ns.map (fun n=>n.x.e)) (fun e he=>by
  obtain ⟨n,hn,rfl⟩:=aZ.1 he;have:=(h.skip.vals n hn).2;omega)] at Hf
 clear h hN;go_enter Tryz.func75,Tryz.ntmps75
 go_wp2_with fail
 (with_reducible refine Hf.out.mono ?_);rintro e w' ⟨Bl,ys,v,rfl,h1⟩;have H1:=ae h1;clear h1;go_wp2;go_ret;exact ⟨Bl,ys,v,rfl,H1.out⟩
theorem Rg {F:Fence} {n:Nat} {P:Program} {fn:Func} {t t':Array Value} {R:Ending→World→Prop} (h:∀ w,(results fn t).run P w=(results fn t').run P w):∀ (ds:List Deferred) (u:FrameMode) (w:World),LeavesInM F n P fn t R ds u w→LeavesInM F n P fn t' R ds u w
 | [],.returning,w,hl=>by
  obtain ⟨v,h1,h2⟩:=hl;exact ⟨v,(h w).symm.trans h1,h2⟩
 | [],.panicking _,_,hl=>hl
 | [],.run,_,hl=>hl
 |d::ds,u,w,hl=>by
  obtain ⟨h0,hl⟩:=hl;refine ⟨h0,?_⟩;rcases hl with ⟨r,w',h1,h2,h3⟩|⟨h1,fv,cap,f,args,h2,h3,h4,h5⟩
  ·exact .inl ⟨r,w',h1,h2,Rg h ds u w' h3⟩
  ·refine .inr ⟨h1,fv,cap,f,args,h2,h3,h4,h5.mono fun e u' w' he=> ?_⟩
   cases e with
   |returned v=>exact Rg h ds _ _ he
   |panicked ch=>exact Rg h ds _ _ he
   |outgrown=>exact he
theorem aBp {R:Ending→World→Prop} {c:List PanicEntry} {a:Act} {d:Option Nat} (h2:d≠some 6) (h3:d≠some 7)
  (h:bodyPostM Fence.wide 4 Tryz.prog Tryz.f272 R (.panic c) (a.put d v) w):bodyPostM Fence.wide 4 Tryz.prog Tryz.f272 R (.panic c) a w:=by
 cases d with
 |none=>exact h
 |some d=>
  have e2:d≠6:=fun e=>h2 (by rw [e])
  have e3:d≠7:=fun e=>h3 (by rw [e])
  refine Rg (fun w=> ?_) _ _ _ h;simp [results,Tryz.results272,Act.put,Array.getElem?_setIfInBounds,e2,e3]
def Yd (w:World) (b:Option En) (e:Ending) (w':World):Prop:=
 (match b with
  |none=>e= .returned (.tuple #[.agg #[.string ⟨#[]⟩,.int .u64 0,.bool false,.slice none 0 0],.bool false])
  |some x=>∃ sv,e= .returned (.tuple #[.agg (bW ⟨x,sv⟩),.bool true])∧aI w.heap.size w' sv x.val)∧Grow w w'
theorem aBq {ns:List Nd} (h:dQ N w tb ha ns aU dv ds) (hN:∀ b,N b→b<w.heap.size) (hval:∀ n∈ns,n.x.e.val.length≤1000000000000) (key:ByteArray) {up:Nat} (_hup:up<18446744073709551616):
  Calls Tryz.prog 272 #[au tb,.string key,.int .u64 up] w (Yd w (fT key up (ns.map (fun n=>n.x.e)))):=by
 refine (callsIn_wide (n:=4)).1 (callsIn_of_wp_marks Tryz.func272 rfl trivial ?_ rfl);simp only [Tryz.ntmps272,List.size_toArray,dH,iK,Nat.reduceAdd,Nat.reduceSub,Array.replicate_succ,Array.replicate_zero,List.push_toArray,List.append_toArray,iq,gG];refine wpIn_wide.2 ?_;have h1:=ar w (.cells #[.string key] 9);have h2:=ar (w.alloc (.cells #[.string key] 9)) (.cells #[.string ⟨#[]⟩,.int .u64 0,.bool false,.slice none 0 0] 60);have h3:=ar ((w.alloc (.cells #[.string key] 9)).alloc (.cells #[.string ⟨#[]⟩,.int .u64 0,.bool false,.slice none 0 0] 60)) (.cells #[.bool false] 4);have a1:=h3.heap (h2.heap (ax w (.cells #[.string key] 9)));have a2:=h3.heap (ax (w.alloc (.cells #[.string key] 9)) (.cells #[.string ⟨#[]⟩,.int .u64 0,.bool false,.slice none 0 0] 60));have a3:=ax ((w.alloc (.cells #[.string key] 9)).alloc (.cells #[.string ⟨#[]⟩,.int .u64 0,.bool false,.slice none 0 0] 60)) (.cells #[.bool false] 4);simp only [World.size_alloc] at a2 a3;have hg3:=h1.trans (h2.trans h3);have Ye:(((w.alloc (.cells #[.string key] 9)).alloc (.cells #[.string ⟨#[]⟩,.int .u64 0,.bool false,.slice none 0 0] 60)).alloc (.cells #[.bool false] 4)).heap.size=w.heap.size+3:=by simp
 obtain ⟨w3,hw3⟩:∃ w3,((w.alloc (.cells #[.string key] 9)).alloc (.cells #[.string ⟨#[]⟩,.int .u64 0,.bool false,.slice none 0 0] 60)).alloc (.cells #[.bool false] 4)=w3:=⟨_,rfl⟩
 rw [hw3] at a1 a2 a3 hg3 Ye;have hM:=h.grow hg3;have ltb:=af hM.self;have k0:w3.cell? ⟨w.heap.size,0,none⟩=some (.string key):=by simp [World.cell?,a1]
 have lk:=af a1;have H:=ae (ag hM (ag hN (ag hval h.skip.ord)));have Ha:=ae (ag a1 (ag a2 (ag a3 (ag hg3 Ye))));clear h1 h2 h3 a1 a2 a3 hg3 Ye hM h hN hval
 go_upto_region 1 with fail
 clear hw3;have aQ:=Grow.cells (w:=w3);refine azC (fun V=>Below w3.heap.size w3 V) [(0,false),(1,false),(2,false),(3,false),(4,false),(5,false),(6,true)] (by kernel_rfl) (by kernel_rfl) (fun c a o v w ho hq=>by
  simp only [bE,List.not_mem_nil,or_false] at ho;rcases ho with rfl|rfl|rfl|rfl|rfl|rfl|rfl<;>exact aBp (by decide) (by decide) hq) (by ((repeat (first|exact bS _ _|assumption|refine cz ?_|refine cA ?_|refine cj ?_ ?_ _|refine cy ?_ ?_ _))<;>try (first|omega|(simp<;>omega)))) ?_
 simp only [cm,nth]
 repeat ((first|(refine aA (v:= ?_) (by rfl) ?_ ?_;rotate_left;rintro W hW;go_simp;with_reducible rfl)|refine aB (by rfl) ?_);simp only [ai,List.set])
 refine bp (by rfl) (by go_simp) (ail w3.drew tb key up false none 0 0) ?_;rintro e w4 ⟨rfl,hw4⟩;have vq:Grow w3 w4:=by rw [hw4];exact (az w3).trans ((ar _ _).trans (ar _ _))
 have hb1:w4.heap[w3.heap.size]?=some (.cells #[au tb] 286 (0,0)):=by
  rw [hw4];exact (heap_alloc_old _ _ (by simp)).trans (ax w3.drew _)
 have hb2:w4.heap[w3.heap.size+1]?=some (.cells (bW (xr key up)) 60 (0,0)):=by
  rw [hw4];have:=ax (w3.drew.alloc (.cells #[au tb] 286)) (.cells (bW (xr key up)) 60);simpa using this
 clear hw4 aQ;refine ⟨_,rfl,vq,?_⟩
 try simp only [ai,List.set,aC]
 refine bj ?_;have hM4:=H.out.1.grow vq;have hseq:=ahX hM4 (xr key up) (xa:=none) (xl:=0) (xc:=0) rfl hb1 hb2;have a1:=vq.heap Ha.out.1;have a2:=vq.heap Ha.out.2.1;have a3:=vq.heap Ha.out.2.2.1;have Ma:=Ha.out.2.2.2.1.trans vq;have s4:=vq.size;have FA:=af hb2;have aBr:w3.drew.heap.size=w3.heap.size:=rfl;rw [aBr]
 go_wp2_with fail
 have vk:=H.out.2.2.2;have xw:fT key up (ns.map (fun n=>n.x.e))=match (gz ⟨key,up,false,[]⟩ ns).map Nd.x with| []=>none|y::_=>if y.e.key=key then some y.e else none:=by
  rw [agC vk];have h1:=DL (spot key up) ns;show (match ej (spot key up) (ns.map (fun n=>n.x.e)) with| []=>none|e::_=>if e.key=key then some e else none)=_;rw [←h1];show (match (gz (spot key up) ns).map (fun n=>n.x.e) with| []=>none|e::_=>if e.key=key then some e else none)=match (gz (spot key up) ns).map Nd.x with| []=>none|y::_=>if y.e.key=key then some y.e else none
  cases gz (spot key up) ns with
  |nil=>rfl
  |cons n r=>rfl
 have Yf:=ae xw;have ajy:∀ y∈(gz ⟨key,up,false,[]⟩ ns).map Nd.x,y.e.val.length≤1000000000000:=fun y hy=>by
  obtain ⟨n,hn,rfl⟩:=aZ.1 hy;exact H.out.2.2.1 n (by rw [←jO ⟨key,up,false,[]⟩ ns];exact mX _ hn)
 have HV:=ae ajy;clear xw vk ajy hM4 hb1 hb2;generalize dp:(gz ⟨key,up,false,[]⟩ ns).map Nd.x=xs at*;clear dp;refine Xn (gf:=216) (lb:=#[.pointer (some ⟨w3.heap.size,0,none⟩),.pointer (some ⟨w3.heap.size+1,0,none⟩)]) rfl (enters_of Tryz.func216 (by kernel_rfl) rfl) (R:=Rt N) (N:=fun b=>N b∨FM tb ha ns b∨b=w3.heap.size∨b=w3.heap.size+1) (xs:=xs) hseq (Kp.refl _ _) (fun b hb=>by
   rcases hb with hb|hb|rfl|rfl
   ·have:=H.out.2.1 b hb;omega
   ·have:=H.out.1.lt hb;omega
   ·omega
   ·omega) (fun x v W h=>by rw [h.1];rfl) (fun x v=>aim (fun b hb=>by have:=H.out.2.1 b hb;omega) x v)
  (fun pre W=>pre= []∧W.heap[w.heap.size]?=some (.cells #[.string key] 9 (0,0))∧W.heap[w.heap.size+1]?=some (.cells #[.string ⟨#[]⟩,.int .u64 0,.bool false,.slice none 0 0] 60 (0,0))∧W.heap[w.heap.size+2]?=some (.cells #[.bool false] 4 (0,0))∧Below w.heap.size w W)
  (fun c pre W=>∃ x,pre= [x]∧Below w.heap.size w W∧((c= .exit 0∧x.e.key≠key∧W.heap[w.heap.size+1]?=some (.cells #[.string ⟨#[]⟩,.int .u64 0,.bool false,.slice none 0 0] 60 (0,0))∧W.heap[w.heap.size+2]?=some (.cells #[.bool false] 4 (0,0)))∨
   (c= .ret∧x.e.key=key∧∃ sv,W.heap[w.heap.size+1]?=some (.cells (bW ⟨x.e,sv⟩) 60 (0,0))∧W.heap[w.heap.size+2]?=some (.cells #[.bool true] 4 (0,0))∧aI w.heap.size W sv x.e.val)))
  ?hI ?Ee ⟨rfl,a1,a2,a3,Ma⟩ ?round ?done ?stop
 case hI=>
  rintro pre W W' row ⟨rfl,h1,h2,h3,h4⟩ hg hr;exact ⟨rfl,rk hg hr h1,rk hg hr h2,rk hg hr h3,h4.grown hg h4.size (fun k e=>by have:=(hr k e).1;omega)⟩
 case Ee=>
  rintro c pre W W' row ⟨x,rfl,h4,h5⟩ hg hr;refine ⟨x,rfl,h4.grown hg h4.size (fun k e=>by have:=(hr k e).1;omega),?_⟩;rcases h5 with ⟨h1,h2,h3,h5⟩|⟨h1,h2,sv,h3,h5,h6⟩
  ·exact .inl ⟨h1,h2,rk hg hr h3,rk hg hr h5⟩
  ·refine .inr ⟨h1,h2,sv,rk hg hr h3,rk hg hr h5,h6.keep (fun g hgb=> ?_)⟩
   obtain ⟨cur,hc⟩:=h6.block hgb;rw [rk hg hr hc,hc]
 case round=>
  rintro l pre x rest v W dp hl hW ⟨rfl,k1,k2,k3,k4⟩ ⟨rfl,cN⟩;obtain ⟨xa,xc,iH⟩:=cN.slice;obtain ⟨⟨xk,xs',xg,xd⟩,xv⟩:=x;simp only at iH;subst iH;have HW:=ae (ag k1 (ag k2 (ag k3 (ag k4 cN))));have tU:=ae dp;clear dp k1 k2 k3 k4 cN hseq a1 a2 a3 Ma;gi_wp2;refine ⟨ar _ _,fun W2 hs2 hc2 Ay BG=> ?_⟩;have iV:=hc2 _ _ _ _ (ax W (.cells #[.string xk,.int .u64 xs',.bool xg,.slice xa xd.length xc] 60));obtain ⟨_,k1,k2,k3,k4⟩:=Ay;have cN:=BG.2;have d0:W2.cell? ⟨w.heap.size,0,none⟩=some (.string key):=by simp [World.cell?,k1]
  have ld:=af k1;obtain ⟨q0,q1,q2,q3⟩:=cS iV;have lq:=af iV;by_cases hk:xk=key
  ·subst hk
   have ia:=HV.out ⟨⟨xk,xs',xg,xd⟩,.slice xa xd.length xc⟩ (by rw [tU.out];simp);have gh:=ae (agO cN ia);have Hk:=ae (ag k2 (ag k3 (ag k4 True.intro)));clear k1 k2 k3 k4 cN ia iV hc2 BG hs2
   gi_wp2_with (refine ⟨trivial,?_⟩;gi_at_call 181;refine (CallsIn.inRound l (callsIn_wide.2 gh.out)).mono ?_;rintro e w5 ⟨v',rfl,ho,br⟩;obtain ⟨va,vc,rfl⟩:=Go.Gl.Row1.slice ho;rw [jF] at ho ⊢;have r2:=br.heap Hk.out.1;have r3:=br.heap Hk.out.2.1;obtain ⟨e0,e1,e2,e3⟩:=cS r2;have le:=af r2;have fe:∀ i,w5.frozen? ⟨w.heap.size+1,i,none⟩=false:=(fun i=>by simp [World.frozen?,r2]);have g0:w5.cell? ⟨w.heap.size+2,0,none⟩=some (.bool false):=(by simp [World.cell?,r3]);have lg:=af r3;have fg:w5.frozen? ⟨w.heap.size+2,0,none⟩=false:=(by simp [World.frozen?,r3]))
   have aBs:w.heap.size+2≠w.heap.size+1:=by omega
   have Ug:w.heap.size+1≠w.heap.size+2:=by omega
   have y1:=Bo (v0:= .string xk) (v1:= .int .u64 xs') (v2:= .bool xg) (v3:= .slice va xd.length vc) r2;have y2:=(si (w:=w5) aBs (.string xk) (.int .u64 xs') (.bool xg) (.slice va xd.length vc)).trans r3;have y3:=Go.Gl.aK y2 0 (.bool true);have y4:=(aP (jC w5 (w.heap.size+1) (.string xk) (.int .u64 xs') (.bool xg) (.slice va xd.length vc)) ⟨w.heap.size+2,0,none⟩ (.bool true) (w.heap.size+1) Ug).trans y1;have hle:w.heap.size≤w.heap.size+1:=by omega
   have ajz:w.heap.size≤w.heap.size+2:=by omega
   have dM:Below w.heap.size w w5:=Hk.out.2.2.1.trans (br.mono Hk.out.2.2.1.size);have aBt:=((((dM.setCell (p:=⟨w.heap.size+1,0,none⟩) hle (.string xk)).setCell (p:=⟨w.heap.size+1,1,none⟩) hle (.int .u64 xs')).setCell (p:=⟨w.heap.size+1,2,none⟩) hle (.bool xg)).setCell (p:=⟨w.heap.size+1,3,none⟩) hle (.slice va xd.length vc)).setCell (p:=⟨w.heap.size+2,0,none⟩) ajz (.bool true);have jx:∀ k,k≠w.heap.size+1→k≠w.heap.size+2→((jC w5 (w.heap.size+1) (.string xk) (.int .u64 xs') (.bool xg) (.slice va xd.length vc)).setCell ⟨w.heap.size+2,0,none⟩ (.bool true)).heap[k]?=w5.heap[k]?:=fun k h1 h2=>(aP _ _ _ _ h2).trans (si h1 _ _ _ _)
   have hown:aI w.heap.size ((jC w5 (w.heap.size+1) (.string xk) (.int .u64 xs') (.bool xg) (.slice va xd.length vc)).setCell ⟨w.heap.size+2,0,none⟩ (.bool true)) (.slice va xd.length vc) xd:=by
    have fY:aI W2.heap.size w5 (.slice va xd.length vc) xd:=ho;refine (fY.mono Hk.out.2.2.1.size).keep (fun g hgb=>jx g (fun e=> ?_) (fun e=> ?_))
    ·obtain ⟨cur,hc⟩:=fY.block hgb
     rw [e,r2] at hc;exact absurd (cE (bk hc)).2.1 (by decide)
    ·obtain ⟨cur,hc⟩:=fY.block hgb
     rw [e,r3] at hc;exact absurd (cE (bk hc)).2.1 (by decide)
   have Ih:KeepsFrom w4.heap.size W2 ((jC w5 (w.heap.size+1) (.string xk) (.int .u64 xs') (.bool xg) (.slice va xd.length vc)).setCell ⟨w.heap.size+2,0,none⟩ (.bool true)):=by
    refine ⟨by simpa using br.size,fun k o _ Ii hc=> ?_⟩;rw [jx k (fun e=> ?_) (fun e=> ?_),br.block k (af Ii)]
    ·exact Ii
    ·rw [e,Hk.out.1] at Ii;cases Ii;cases hc
    ·rw [e,Hk.out.2.1] at Ii;cases Ii;cases hc
   exact ⟨Ih,⟨⟨xk,xs',xg,xd⟩,.slice xa xd.length xc⟩,rfl,aBt,.inr ⟨rfl,rfl,.slice va xd.length vc,y4,y3,hown⟩⟩
  ·have hkb:(xk.toList==key.toList)=false:=by
    simp only [beq_eq_false_iff_ne,ne_eq];intro e;rw [jd,jd] at e;exact hk (Bh e)
   clear hc2 BG hs2 cN;gi_wp2;exact ⟨KeepsFrom.refl _ _,⟨⟨xk,xs',xg,xd⟩,.slice xa xd.length xc⟩,rfl,k4,.inl ⟨rfl,hk,k2,k3⟩⟩
 case done=>
  rintro D W hD ⟨ajA,k1,k2,k3,k4⟩ hK;have tU:=ae ajA;clear ajA hseq a1 a2 a3 k1;obtain ⟨e0,e1,e2,e3⟩:=cS k2;have le:=af k2;have fe:=bG k2;have g0:W.cell? ⟨w.heap.size+2,0,none⟩=some (.bool false):=by simp [World.cell?,k3]
  have lg:=af k3;have fg:W.frozen? ⟨w.heap.size+2,0,none⟩=false:=by simp [World.frozen?,k3]
  have s0:=eO (v:= .string ⟨#[]⟩) (i:=0) k2 rfl;have s1:=eO (v:= .int .u64 0) (i:=1) k2 rfl;have s2:=eO (v:= .bool false) (i:=2) k2 rfl;have XY:=eO (v:= .slice none 0 0) (i:=3) k2 rfl;have s4':=eO (v:= .bool false) (i:=0) k3 rfl;have jg:w.heap.size+1≠D:=fun e=>by rw [e,hK] at k2;cases k2
  have nJ:w.heap.size+2≠D:=fun e=>by rw [e,hK] at k3;cases k3
  have j2:=(World.putObj_heap_other (w:=W) (o:= .deferred none) jg).trans k2;have j3:=(World.putObj_heap_other (w:=W) (o:= .deferred none) nJ).trans k3;obtain ⟨r0,r1,r2,r3⟩:=cS j2;have rg:(W.putObj D (.deferred none)).cell? ⟨w.heap.size+2,0,none⟩=some (.bool false):=by simp [World.cell?,j3]
  have iT:Grow w (W.putObj D (.deferred none)):=k4.grown (grownBy_putObj' W D (.deferred none)) k4.size (fun k e=>by cases e;have:=Ma.size;omega);have bw:=ae (ag r0 (ag r1 (ag r2 (ag r3 (ag rg iT)))));clear k2 k3 k4 j2 j3 r0 r1 r2 r3 rg iT jg nJ;go_wp2;refine ⟨by simp,.inl ⟨_,_,rfl,run_takeDeferred hK,?_⟩⟩;obtain ⟨r0,r1,r2,r3,rg,iT⟩:=bw.out;refine ⟨.tuple #[.agg #[.string ⟨#[]⟩,.int .u64 0,.bool false,.slice none 0 0],.bool false],by simp [results,Tryz.results272,go_sem,r0,r1,r2,r3,rg],?_,iT⟩;rw [Yf.out];rw [tU.out]
 case stop=>
  rintro D c pre x rest W hD dp ⟨y,iP,k4,hc⟩ hK;have zo:pre= []∧x=y:=by
   cases pre with
   |nil=>exact ⟨rfl,by simpa using iP⟩
   |cons a pre=>simp at iP
  obtain ⟨rfl,rfl⟩:=zo;have tU:=ae dp;clear dp iP hseq a1 a2 a3;rcases hc with ⟨rfl,hne,k2,k3⟩|⟨rfl,heq,sv,k2,k3,hown⟩
  ·have qQ:=ae hne
   clear hne;obtain ⟨e0,e1,e2,e3⟩:=cS k2;have le:=af k2;have fe:=bG k2;have g0:W.cell? ⟨w.heap.size+2,0,none⟩=some (.bool false):=by simp [World.cell?,k3]
   have lg:=af k3;have fg:W.frozen? ⟨w.heap.size+2,0,none⟩=false:=by simp [World.frozen?,k3]
   have s0:=eO (v:= .string ⟨#[]⟩) (i:=0) k2 rfl;have s1:=eO (v:= .int .u64 0) (i:=1) k2 rfl;have s2:=eO (v:= .bool false) (i:=2) k2 rfl;have XY:=eO (v:= .slice none 0 0) (i:=3) k2 rfl;have s4':=eO (v:= .bool false) (i:=0) k3 rfl;have jg:w.heap.size+1≠D:=fun e=>by rw [e,hK] at k2;cases k2
   have nJ:w.heap.size+2≠D:=fun e=>by rw [e,hK] at k3;cases k3
   have j2:=(World.putObj_heap_other (w:=W) (o:= .deferred none) jg).trans k2;have j3:=(World.putObj_heap_other (w:=W) (o:= .deferred none) nJ).trans k3;obtain ⟨r0,r1,r2,r3⟩:=cS j2;have rg:(W.putObj D (.deferred none)).cell? ⟨w.heap.size+2,0,none⟩=some (.bool false):=by simp [World.cell?,j3]
   have iT:Grow w (W.putObj D (.deferred none)):=k4.grown (grownBy_putObj' W D (.deferred none)) k4.size (fun k e=>by cases e;have:=Ma.size;omega);have bw:=ae (ag r0 (ag r1 (ag r2 (ag r3 (ag rg iT)))));clear k2 k3 k4 j2 j3 r0 r1 r2 r3 rg iT jg nJ;go_wp2;refine ⟨by simp,.inl ⟨_,_,rfl,run_takeDeferred hK,?_⟩⟩;obtain ⟨r0,r1,r2,r3,rg,iT⟩:=bw.out;refine ⟨.tuple #[.agg #[.string ⟨#[]⟩,.int .u64 0,.bool false,.slice none 0 0],.bool false],by simp [results,Tryz.results272,go_sem,r0,r1,r2,r3,rg],?_,iT⟩;rw [Yf.out];rw [tU.out];simp only [iq];rw [if_neg qQ.out];exact True.intro
  ·obtain ⟨va,vc,rfl⟩:=Go.Gl.Row1.slice hown
   rw [jF] at k2 hown;have jg:w.heap.size+1≠D:=fun e=>by rw [e,hK] at k2;cases k2
   have nJ:w.heap.size+2≠D:=fun e=>by rw [e,hK] at k3;cases k3
   have j2:=(World.putObj_heap_other (w:=W) (o:= .deferred none) jg).trans k2;have j3:=(World.putObj_heap_other (w:=W) (o:= .deferred none) nJ).trans k3;obtain ⟨r0,r1,r2,r3⟩:=cS j2;have rg:(W.putObj D (.deferred none)).cell? ⟨w.heap.size+2,0,none⟩=some (.bool true):=by simp [World.cell?,j3]
   have iT:Grow w (W.putObj D (.deferred none)):=k4.grown (grownBy_putObj' W D (.deferred none)) k4.size (fun k e=>by cases e;have:=Ma.size;omega);have fY:aI w.heap.size (W.putObj D (.deferred none)) (.slice va x.e.val.length vc) x.e.val:=hown.keep (fun g hgb=>World.putObj_heap_other (fun e=>by
    obtain ⟨cur,hc⟩:=hown.block hgb;rw [e,hK] at hc;cases hc))
   have bw:=ae (ag r0 (ag r1 (ag r2 (ag r3 (ag rg (ag iT (ag heq fY)))))));clear k2 k3 k4 j2 j3 r0 r1 r2 r3 rg iT jg nJ hown fY heq;go_wp2;refine ⟨by simp,.inl ⟨_,_,rfl,run_takeDeferred hK,?_⟩⟩;obtain ⟨r0,r1,r2,r3,rg,iT,heq,fY⟩:=bw.out;refine ⟨.tuple #[.agg (bW ⟨x.e,.slice va x.e.val.length vc⟩),.bool true],by simp [results,Tryz.results272,go_sem,r0,r1,r2,r3,rg],?_,iT⟩;rw [Yf.out,tU.out];simp only [iq];rw [if_pos heq];exact ⟨_,rfl,fY⟩
end
section
structure Od where
 mem:Int
 block:Int
 zero:Int
 base:Int
 table:Int
abbrev ru (sb:Nat) (o:Od) (drv lv:Value) (mb tm seq hm:Nat):Array Value:=
 #[.pointer (some ⟨sb,0,none⟩),.int .i64 o.mem,.int .i64 o.block,.int .i64 o.zero,.int .i64 o.base,.int .i64 o.table,drv,lv,.pointer (some ⟨mb,0,none⟩),.map (some tm),.int .u64 (seq:Int),.map (some hm)]
def ep (w:World) (db sb:Nat) (o:Od) (drv lv:Value) (mb tm seq hm:Nat):Prop:=w.heap[db]?=some (.cells (ru sb o drv lv mb tm seq hm) 93 (0,0))
section
variable {w w':World} {db sb:Nat} {o:Od} {drv lv:Value} {mb tm seq hm:Nat}
theorem ep.cells (h:ep w db sb o drv lv mb tm seq hm):w.cell? ⟨db,0,none⟩=some (.pointer (some ⟨sb,0,none⟩))∧w.cell? ⟨db,1,none⟩=some (.int .i64 o.mem)∧w.cell? ⟨db,7,none⟩=some lv∧w.cell? ⟨db,8,none⟩=some (.pointer (some ⟨mb,0,none⟩))∧w.cell? ⟨db,9,none⟩=some (.map (some tm))∧w.cell? ⟨db,10,none⟩=some (.int .u64 (seq:Int))∧w.cell? ⟨db,11,none⟩=some (.map (some hm))∧db<w.heap.size:=by
 unfold ep at h;refine ⟨?_,?_,?_,?_,?_,?_,?_,af h⟩<;>simp [World.cell?,h]
theorem ep.keep (h:ep w db sb o drv lv mb tm seq hm) (hk:w'.heap[db]?=w.heap[db]?):ep w' db sb o drv lv mb tm seq hm:=hk.trans h
theorem ep.grow (h:ep w db sb o drv lv mb tm seq hm) (hg:Grow w w'):ep w' db sb o drv lv mb tm seq hm:=hg.heap h
theorem aBv (h:ep w db sb o drv lv mb tm seq hm):Calls Tryz.prog 27 #[.pointer (some ⟨db,0,none⟩)] w fun e w'=>e= .returned (.int .u64 (seq:Int))∧w'=w:=by
 obtain ⟨_,_,_,_,_,c10,_,lt⟩:=h.cells;clear h;go_enter Tryz.func27,Tryz.ntmps27;go_wp2;go_ret;exact ⟨rfl,rfl⟩
end
theorem Yg (a b:List En):costs (a++b)=costs a+costs b:=by simp [costs]
theorem aBw (x:En) (l:List En):costs (kn x l)≤costs l+jq x∧(kn x l).length≤l.length+1:=by
 have h:=tL x l;have h1:=congrArg costs h;have h2:=congrArg List.length h;rw [Yg] at h1;rw [aJ] at h2;unfold kn;generalize gD x l=a at*;generalize ej x l=b at*;rw [Yg,aJ];have hc:∀ (y:En) (m:List En),costs (y::m)=jq y+costs m:=fun y m=>by simp [costs]
 rw [hc,dH];cases b with
 |nil=>dsimp only;omega
 |cons e r=>
  rw [hc] at h1;rw [dH] at h2;dsimp only;split
  ·omega
  ·rw [hc,dH];omega
theorem aBx (s:Nat) (y:Wr):jq (jD s y)≤16+(y.key.size+y.val.length):=by
 unfold jD jq;dsimp only;split
 ·simp only [iK];omega
 ·omega
theorem Rh (s:Nat) (l:List En):∀ ws:List Wr,costs (gA s ws l)≤costs l+16*ws.length+bA ws∧(gA s ws l).length≤l.length+ws.length:=by
 intro ws
 induction ws generalizing l with
 |nil=>simp [WQ,bA]
 |cons y ws ih=>
  rw [ahk];obtain ⟨h1,h2⟩:=ih (kn (jD s y) l);obtain ⟨h3,h4⟩:=aBw (jD s y) l;have h5:=aBx s y;have h6:bA (y::ws)=y.key.size+y.val.length+bA ws:=by simp [bA]
  rw [dH,h6];omega
structure Mb (N:Nat→Prop) (w:World) (db sb:Nat) (o:Od) (drv lv:Value) (mb tm seq hm ha:Nat) (ns:List Nd) (dv:Value) (ds:List Int) (s:Nat) (ws:List Wr) (N':Nat→Prop) (bN:List Nd) (wr:World):Prop where
 cell:ep wr db sb o drv lv mb tm seq hm
 mem:∃ eI,dQ N' wr mb ha bN eI dv ds
 pB:bN.map (fun n=>n.x.e)=gA s ws (ns.map (fun n=>n.x.e))
 sub:∀ b,N b→N' b
 new:∀ b,N' b→N b∨w.heap.size≤b
 apart:∀ b,N' b→b<wr.heap.size∧¬ FM mb ha bN b
 sep:Sep (FL (FM mb ha ns) db) w wr (FL (FM mb ha bN) db)
 xx:¬ FM mb ha bN db
def aBy (N:Nat→Prop) (w:World) (db sb:Nat) (o:Od) (drv lv:Value) (mb tm seq hm ha:Nat) (ns:List Nd) (dv:Value) (ds:List Int) (s:Nat) (ws:List Wr) (e:Ending) (w':World):Prop:=
 e= .returned (.tuple #[])∧∃ N' bN,Mb N w db sb o drv lv mb tm (max seq s) hm ha ns dv ds s ws N' bN w'
def aBz (N:Nat→Prop) (w:World) (db sb:Nat) (o:Od) (drv lv:Value) (mb tm seq hm ha:Nat) (ns:List Nd) (dv:Value) (ds:List Int) (s:Nat) (ys:List Wv) (iv:Value) (wr:World):Prop:=
 ∃ (i:Nat) (N':Nat→Prop) (bN:List Nd),iv= .int .i64 (i:Int)∧i≤ys.length∧Mb N w db sb o drv lv mb tm seq hm ha ns dv ds s ((ys.take i).map (·.x)) N' bN wr
theorem ajB {Na:Nat→Prop} {w:World} {db sb:Nat} {o:Od} {drv lv:Value} {mb tm seq hm:Nat} {ns:List Nd} (hC:ep w db sb o drv lv mb tm seq hm) (hM:dQ N w mb ha ns aU dv ds) (pT:¬ FM mb ha ns db) (hN:∀ b,N b→b<w.heap.size∧¬ FM mb ha ns b∧b≠db) {ys:List Wv} (BL:∀ b,Na b→b<w.heap.size∧¬ FM mb ha ns b∧b≠db) (hW:Ws Na w v ys) {s:Nat} (hs:s<18446744073709551616) (dW:ys.length≤1000000) (sD:bA (ys.map (·.x))≤100000000) (mG:ns.length≤100000000) (hcs:costs (ns.map (fun n=>n.x.e))≤100000000000):
  Calls Tryz.prog 43 #[.pointer (some ⟨db,0,none⟩),.int .u64 (s:Int),v] w (aBy N w db sb o drv lv mb tm seq hm ha ns dv ds s (ys.map (·.x))):=by
 obtain ⟨_,_,_,_,_,c10,_,lt⟩:=hC.cells;have ff:∀ i,w.frozen? ⟨db,i,none⟩=false:=fun i=>by unfold ep at hC;simp [World.frozen?,hC]
 obtain ⟨ya,yc,rfl⟩:=hW.slice;obtain ⟨w1,cp⟩:∃ w1,w1=w.setCell ⟨db,10,none⟩ (.int .u64 (max (seq:Int) (s:Int))):=⟨_,rfl⟩
 have hmx:max (seq:Int) (s:Int)=((max seq s:Nat):Int):=by omega
 have mY:Kp N w w1:=by rw [cp];exact ⟨by simp,fun b hb _=>aP _ _ _ _ (fun e=>(hN b hb).2.2 e)⟩
 have ajC:Kp Na w w1:=by rw [cp];exact ⟨by simp,fun b hb _=>aP _ _ _ _ (fun e=>(BL b hb).2.2 e)⟩
 have Ij:ep w1 db sb o drv lv mb tm (max seq s) hm:=by rw [cp,hmx];exact Go.Gl.aK hC 10 _
 have hM1:dQ N w1 mb ha ns aU dv ds:=hM.keep (fun b hb=>by rw [cp];exact aP _ _ _ _ (fun e=>pT (by have e':b=db:=e;rw [←e'];exact hb))) mY;have hS1:Sep (FL (FM mb ha ns) db) w w1 (FL (FM mb ha ns) db):=by rw [cp];exact Sep.ve _ _ _ _ _
 have Ik:w1.heap.size=w.heap.size:=by rw [cp];simp
 have hst:Mb N w db sb o drv lv mb tm (max seq s) hm ha ns dv ds s [] N ns w1:=⟨Ij,⟨aU,hM1⟩,by rw [WQ],fun b h=>h,fun b h=> .inl h,fun b hb=>⟨by rw [Ik];exact (hN b hb).1,(hN b hb).2.1⟩,hS1,pT⟩
 have bJ:=ae hst;have qm:=ae (show db<w.heap.size from lt);have HW1:=ae (hW.kp ajC);have Hw1:=ae cp;have HN:=ae BL;have yH:=ae pT;have XS:=ae sD;have Yh:=ae hcs;have Hnl:=ae mG;clear hC hM pT hN BL hW mY ajC Ij hM1 hS1 hst cp sD hcs mG hmx;have aBC:=ae Ik;clear Ik;go_enter Tryz.func43,Tryz.ntmps43
 go_upto_region 1 with fail
 rw [←Hw1.out];clear ff Hw1 c10 lt;generalize hmv:Value.int IntKind.u64 (max (seq:Int) (s:Int))=mv;clear hmv
 go_wp2_with fail
 go_loopw [19] (fun iv wr=>aBz N w db sb o drv lv mb tm (max seq s) hm ha ns dv ds s ys iv wr) (fun iv _=>ys.length-(intOf iv).toNat)
 case atStart=>exact ⟨0,N,ns,rfl,aY _,bJ.out⟩
 case round=>
  obtain ⟨i,N',bN,rfl,hi,hst⟩:=hrel;by_cases hlt:i<ys.length
  ·obtain ⟨y,hy⟩:∃ y,ys[i]?=some y:=⟨ys[i],by simp [hlt]⟩
   have gQ:Kp Na w1 wr:=⟨by have:=hst.sep.size;have:=aBC.out;omega,fun b hb hl=>by
    have hb1:=HN.out b hb;have hn:¬ FL (FM mb ha ns) db b:=fun h=>h.elim hb1.2.1 hb1.2.2
    rw [hst.sep.out b hb1.1 hn,bJ.out.sep.out b hb1.1 hn]⟩
   have hW:=HW1.out.kp gQ;obtain ⟨b,o',c,lA,hNb,hbl,bm⟩:=hW.addr hy;cases lA;have eU:pz Na wr y:=hW.get hy;have pw:y.x∈ys.map (·.x):=aZ.2 ⟨y,dB hy,rfl⟩;have Et:=QO pw;have dS:(ys.take (i+1)).map (·.x)=(ys.take i).map (·.x)++ [y.x]:=by rw [take_one hy];simp
   obtain ⟨a0,a1,a2⟩:=QL bm hy;obtain ⟨⟨yk,yg,yd⟩,yv⟩:=y;dsimp only at a0 a1 a2 eU Et dS;have Ia:Bv wr yv yd:=eU.1;obtain ⟨xa,xc,rfl⟩:=Ia.slice;have lb:b<wr.heap.size:=hbl;have eB:(i:Int)<(ys.length:Int):=by omega
   have bO:(0:Int)≤(i:Int):=by omega
   have fE:IntKind.i64.wrap ((i:Int)+1)=(i:Int)+1:=aS _ (by omega);have dY:(wr.alloc (.cells #[.string yk,.bool yg,.slice xa yd.length xc] 51)).heap[wr.heap.size]?=some (.cells #[.string yk,.bool yg,.slice xa yd.length xc] 51 (0,0)):=ax _ _;have aU:Grow wr (wr.alloc (.cells #[.string yk,.bool yg,.slice xa yd.length xc] 51)):=ar _ _;obtain ⟨eI,cK⟩:=hst.mem;obtain ⟨aQ,nk⟩:=Rh s (ns.map (fun n=>n.x.e)) ((ys.take i).map (·.x));rw [←hst.pB] at aQ nk;have hwt:bA ((ys.take i).map (·.x))≤bA (ys.map (·.x)):=by rw [List.map_take];exact QN _ _
   rw [bF,List.length_take] at aQ;rw [bF,bF,bF,List.length_take] at nk;have hcs:=Yh.out;have mG:=Hnl.out;have sD:=XS.out;have Il:db<wr.heap.size:=by have:=hst.sep.size;have:=qm.out;omega
   have hput:=fun (W:World) (hg:Grow wr W)=>azF (cK.grow hg) (fun b hb=>⟨cf (hst.apart b hb).1 hg.size,(hst.apart b hb).2⟩) (by omega) ⟨⟨yk,s,yg,yd⟩,.slice xa yd.length xc⟩ (eU.kp (.bT hg)) hs (by unfold jq;dsimp only;omega)
   have ajF:=hst.xx;have aBE:¬ FM mb ha bN wr.heap.size:=fun h=>by have:=cK.lt h;omega
   have aKR:=hst.sep.size;have GN:=ae hput;have Hs:=ae hst;have nA:=ae dS;obtain ⟨_,_,_,c8,_,_,_,_⟩:=(hst.cell.grow aU).cells;obtain ⟨t0,t1,t2⟩:=xu dY;have lR:=af dY;have bu:=cf Il aU.size;have Dr:=ae aU;have kX:=ae dY;have HC:=ae (hst.cell.grow aU);clear hst hput dS eU Ia cK aQ nk hwt hcs mG sD hW bm gQ Et pw hy aU
   go_upto_region 4 with fail
   clear a0 a1 a2 lb;generalize wr.alloc (.cells #[.string yk,.bool yg,.slice xa yd.length xc] 51)=w5 at*;generalize Ie:wr.heap.size=tb at*;have Yi:=ae Ie;clear Ie;refine dz (fun W=>W.cell? ⟨db,8,none⟩=some (.pointer (some ⟨mb,0,none⟩))∧db<W.heap.size∧W.cell? ⟨tb,0,none⟩=some (.string yk)∧W.cell? ⟨tb,1,none⟩=some (.bool yg)∧W.cell? ⟨tb,2,none⟩=some (.slice xa yd.length xc)∧tb<W.heap.size) [12] (by kernel_rfl) (bK fun _ _ _ _ _ h=>h) ⟨by simpa using c8,by simpa using bu,by simpa using t0,by simpa using t1,by simpa using t2,by simpa using lR⟩ ?_;simp only [cF];clear c8 bu t0 t1 t2 lR
   repeat ((first|(refine aA (v:= ?_) (by rfl) ?_ ?_;rotate_left;rintro W ⟨hW0,hW1,hW2,hW3,pX,wU⟩;go_simp;with_reducible rfl)|refine aB (by rfl) ?_);simp only [ai,List.set])
   have hgd:=Dr.out.trans (az w5);refine bp (by rfl) (by go_simp) (GN.out w5.drew hgd) ?_;rintro e w6 ⟨rfl,ns2,ajH,gH,he2,hs2⟩;have Ri:db<w5.drew.heap.size:=by have:=hgd.size;have:=Yi.out;omega
   have xy:=(HC.out.grow (az w5)).keep (hs2.out db Ri ajF);have xA:Mb N w db sb o drv lv mb tm (max seq s) hm ha ns dv ds s ((ys.take (i+1)).map (·.x)) (fun b=>N' b∨(w5.drew.heap.size≤b∧b<w6.heap.size∧¬ FM mb ha ns2 b)) ns2 w6:=by
    refine ⟨xy,⟨ajH,gH⟩,?_,fun b hb=> .inl (Hs.out.sub b hb),fun b hb=> ?_,fun b hb=> ?_,?_,fun hf=> ?_⟩
    ·rw [he2,nA.out,ahj,Hs.out.pB];rfl
    ·rcases hb with hb|hb
     ·exact Hs.out.new b hb
     ·have:=hgd.size;have:=Yi.out;right;omega
    ·rcases hb with hb|hb
     ·have h1:=Hs.out.apart b hb
      have h2:=hgd.size;have h5:=Yi.out;have h3:=hs2.size;refine ⟨by omega,fun hf=> ?_⟩;rcases hs2.foot b hf with h4|h4
      ·exact h1.2 h4
      ·omega
     ·exact hb.2
    ·exact (Hs.out.sep.trans (Sep.bT hgd)).trans (hs2.wide db)
    ·rcases hs2.foot db hf with h4|h4
     ·exact ajF h4
     ·omega
   have BM:=ae xA;obtain ⟨_,_,_,c8,_,_,_,bu⟩:=xy.cells;have eV:=(hs2.out tb (af ((az w5).heap kX.out)) aBE).trans ((az w5).heap kX.out);obtain ⟨t0,t1,t2⟩:=xu eV;have Yj:=af eV;refine ⟨_,rfl,⟨c8,bu,t0,t1,t2,Yj⟩,?_⟩;clear xA xy gH he2 hs2 hgd c8 bu t0 t1 t2 Yj eV
   try simp only [ai,List.set,aC]
   refine bj ?_;go_wp2;go_roundw
   case rel=>exact ⟨i+1,_,_,by simp,hlt,BM.out⟩
   case measure=>simp [intOf];omega
  ·obtain rfl:i=ys.length:=by omega
   rw [ij] at hst;have Hs:=ae hst;clear hst;go_wp2;exact ⟨rfl,.tuple #[],by simp [results,Tryz.results43,go_sem],rfl,N',bN,Hs.out⟩
end
end Go.Proofs.YtoolkdapflaeeaaGreatDoor
