/- Helpers. -/
import Derived.Deep.CutRange
import Derived.Deep.DeepCutAuto
import Derived.Test.YtoolkdapflaeeaaGreatDoorW0J
import Derived.Test.YtoolkdapflaeeaaGreatDoorW0I
set_option maxRecDepth 100000
set_option maxHeartbeats 16000000
namespace Go.Proofs.YtoolkdapflaeeaaGreatDoor
open Go.RowKit Go.Gl Go.aH Mn
def Da (B tb:Nat) (bv:Value) (L:List UInt8) (g:Nat) (f:ByteArray) (vv:Value) (val:List UInt8) (j:Nat) (v:Value) (W:World):Prop:=
 match j with
 |0=>v=bv
 |1=>v= .int .u64 (g:Int)
 |2=>aG B W v (L++aA g)
 |3=>v= .pointer (some ⟨tb,0,none⟩)
 |4=>v= .string f
 |5=>Bv W v f.data.toList
 |6=>∃ (q:Nat) (pv:Value),v= .slice (some ⟨q,0,none⟩) 1 1∧W.heap[q]?=some (.cells #[pv] 49 (0,0))∧Bv W pv f.data.toList
 |7=>aG B W v (L++aA g++aU f.data.toList)
 |8=>v= .pointer (some ⟨tb,2,none⟩)
 |9=>v=vv
 |10=>∃ (q:Nat),v= .slice (some ⟨q,0,none⟩) 1 1∧W.heap[q]?=some (.cells #[vv] 49 (0,0))
 |11=>aG B W v (L++aA g++aU f.data.toList++aU val)
 |12=>aG B W v (L++aA g++aU f.data.toList++aU val)
 |_=>True
theorem Da.keep {B tb:Nat} {bv:Value} {L:List UInt8} {g:Nat} {f:ByteArray} {vv:Value} {val:List UInt8}:∀ (j:Nat) (v:Value) (W W':World),Grow W W'→Da B tb bv L g f vv val j v W→Da B tb bv L g f vv val j v W':=by
 intro j v W W' hR h;unfold Da at h
 split at h<;>first
  |exact h
  |exact Bv.grow h hR
  |exact Row1.grow h hR
  |(obtain ⟨q,pv,h1,h2,h3⟩:=h;exact ⟨q,pv,h1,hR.heap h2,h3.grow hR⟩)
  |(obtain ⟨q,h1,h2⟩:=h;exact ⟨q,h1,hR.heap h2⟩)
  |(unfold Da;split<;>first|trivial|(exfalso;simp_all))
def nR (w5:World) (bv:Value) (l:Array Bool) (a:Act) (W:World):Prop:=Grow w5 W∧(l.getD 12 false=false→a.tmps[5]?=some bv)
theorem nR.next {w5:World} {bv:Value} {l:Array Bool} {a:Act} {W W':World} {i d:Nat} {v:Value} (h:nR w5 bv l a W) (hi:i≠12) (hd:d≠5) (hg:Grow W W'):nR w5 bv (l.setIfInBounds i true) (a.put (some d) v) W':=
 ⟨h.1.trans hg,fun hl=>ix hd (h.2 (by rw [getD_set_ne false hi] at hl;exact hl))⟩
def VY (w:World) (ys:List Wv) (pre:List UInt8) (bv iv:Value) (wr:World):Prop:=
 ∃ i:Nat,iv= .int .i64 i∧i≤ys.length∧aG w.heap.size wr bv (pre++((ys.take i).map (·.x)).flatMap jM)∧Grow w wr
theorem take_one {α:Type} {l:List α} {i:Nat} {x:α} (h:l[i]?=some x):l.take (i+1)=l.take i++ [x]:=by
 rw [List.take_add_one,h];rfl
theorem vP {W:World} {b:Nat} {v0 v1 v2:Value} {t:TypeId} {f:Nat×Nat} (h:W.heap[b]?=some (.cells #[v0,v1,v2] t f)):W.cell? ⟨b,0,none⟩=some v0∧W.cell? ⟨b,1,none⟩=some v1∧W.cell? ⟨b,2,none⟩=some v2:=by
 refine ⟨?_,?_,?_⟩<;>simp [World.cell?,h]
theorem axA {N:Nat→Prop} {w:World} {v:Value} {ys:List Wv} (h:Ws N w v ys) {seq:Nat} (hs:seq<18446744073709551616) (dX:ys.length≤1000000000) (sG:bD (ys.map (·.x))≤1000000000):
  Calls Tryz.prog 41 #[.int .u64 (seq:Int),v] w fun e w'=>∃ v,e= .returned v∧aG w.heap.size w' v (lF seq (ys.map (·.x)))∧Grow w w':=by
 have ie:=nd (w:=w) (bv:= .slice none 0 0) (l:= []) ⟨none,0,rfl,ay _,bk _,fun _=>rfl,.inl rfl⟩ (by simp) (n:=seq) hs;have wu:=tK (n:=ys.length) (by omega);obtain ⟨ya,yc,rfl⟩:=h.slice;have lJ:=ae ie;have H:=ae h;have VZ:=ae sG;clear h ie sG;go_enter Tryz.func41,Tryz.ntmps41
 go_wp2_with fail
 (with_reducible refine lJ.out.mono ?_);rintro e w2 ⟨nv,rfl,eU,hg2⟩;have agI:=nd (cy eU) (by have:=cf seq;simp;omega) (n:=ys.length) (by omega);obtain ⟨na,nL,nc,rfl⟩:∃ a L c,nv= .slice a L c:=by obtain ⟨a,c,h⟩:=eU.slice;exact ⟨_,_,_,h⟩
 have agJ:=ae agI;have eD:=ae hg2;clear agI eU hg2 lJ
 go_wp2_with fail
 (with_reducible refine agJ.out.mono ?_);rintro e w3 ⟨nv,rfl,kX,hg3⟩;obtain ⟨pre,gP⟩:∃ x,x=aA seq++aA ys.length:=⟨_,rfl⟩
 rw [List.nil_append,←gP] at kX;have aGv:pre.length≤20:=by rw [gP];have:=cf seq;have:=cf ys.length;simp only [List.length_append];omega
 have axB:=ae gP;clear gP;have bI:Hid (VY w ys pre nv (.int .i64 0) w3):=ae ⟨0,rfl,bk _,by simpa using kX.mono eD.out.size,eD.out.trans hg3⟩;obtain ⟨na,nL,nc,rfl⟩:∃ a L c,nv= .slice a L c:=by obtain ⟨a,c,h⟩:=kX.slice;exact ⟨_,_,_,h⟩
 clear kX hg3 agJ eD
 go_wp2_with fail
 go_loopw [5,17] (fun bv iv wr=>VY w ys pre bv iv wr) (fun _ iv _=>ys.length-(intOf iv).toNat)
 case atStart=>exact bI.out
 case round=>
  clear bI;obtain ⟨i,rfl,hi,hown,hg⟩:=hrel;by_cases hlt:i<ys.length
  ·obtain ⟨y,hy⟩:∃ y,ys[i]?=some y:=⟨ys[i],by simp [hlt]⟩
   have hW:=H.out.grow hg;obtain ⟨b,o,c,jN,hNb,hbl,aY⟩:=hW.addr hy;cases jN;have gu:oL N wr y:=hW.get hy;have pQ:y.x∈ys.map (·.x):=List.mem_map.2 ⟨y,dY hy,rfl⟩;have Db:=Pk pQ;have df:(ys.take (i+1)).map (·.x)=(ys.take i).map (·.x)++ [y.x]:=by rw [take_one hy];simp
   have hpl:(((ys.take i).map (·.x)).flatMap jM).length≤30*i+bD (ys.map (·.x)):=by
    have h1:=Ph ((ys.take i).map (·.x));have h2:=Pj (ys.map (·.x)) i;rw [←List.map_take] at h2;rw [List.length_map,List.length_take] at h1;omega
   have axC:=VZ.out;obtain ⟨a0,a1,a2⟩:=FD aY hy;obtain ⟨⟨yk,yg,yd⟩,yv⟩:=y;dsimp only at a0 a1 a2 gu Db df;have FE:Bv wr yv yd:=gu.1;obtain ⟨xa,xc,rfl⟩:=FE.slice;have m2:yk.size≤1000000000:=by omega
   have m2':yk.data.toList.length≤1000000000:=by rw [Array.length_toList];exact m2
   have m3:yd.length≤1000000000:=by omega
   have k2:=lO yk.data.toList;have k3:=lO yd;have lQ:=ae df;have lb:b<wr.heap.size:=hbl;have dJ:(i:Int)<(ys.length:Int):=by omega
   have bK:(0:Int)≤(i:Int):=by omega
   have eE:IntKind.i64.wrap ((i:Int)+1)=(i:Int)+1:=aR _ (by omega);have dp:(wr.alloc (.cells #[.string yk,.bool yg,.slice xa yd.length xc] 51)).heap[wr.heap.size]?=some (.cells #[.string yk,.bool yg,.slice xa yd.length xc] 51 (0,0)):=aw _ _;have aM:Grow wr (wr.alloc (.cells #[.string yk,.bool yg,.slice xa yd.length xc] 51)):=Grow.alloc _ _;obtain ⟨L,hL⟩:∃ x,x=pre++((ys.take i).map (·.x)).flatMap jM:=⟨_,rfl⟩
   rw [←hL] at hown;have Fj:L.length≤40000000000:=by rw [hL];simp only [List.length_append];omega
   obtain ⟨va,vc,rfl⟩:=hown.slice;have HL:=ae hL;have eT:=ae (hown.grow aM);have Hyb:=ae (FE.grow aM);have HG:=ae (hg.trans aM);clear hown hg hW aY df Db hpl gu hy hL FE pQ axC
   go_upto_region 5 with fail
   clear a0 a1 a2 lb aM;generalize wr.alloc (.cells #[.string yk,.bool yg,.slice xa yd.length xc] 51)=w5 at*;generalize wr.heap.size=tb at*;have fw:=ae dp;obtain ⟨t0,t1,t2⟩:=vP dp;have im:=af dp;clear dp;have Bh:Hid (pre++((ys.take (i+1)).map (·.x)).flatMap jM=L++aA (sF yg)++aU yk.data.toList++aU yd):=ae (by
    rw [lQ.out,HL.out];simp [jM,List.append_assoc])
   clear lQ HL;have iQ:sF yg<18446744073709551616:=by unfold sF;split<;>omega
   obtain ⟨gn,Pm⟩:∃ gn,gn=sF yg:=⟨_,rfl⟩
   rw [←Pm] at Bh iQ
   go_upto_if 22 with fail
   go_cut [8] from 8 to 8 (fun gv wx=>gv= .int .u64 ((gn:Nat):Int)∧wx=w5)
   case first=>
    cases yg with
    |false=>
     subst Pm;go_wp2;go_meet;exact ⟨rfl,rfl⟩
    |true=>
     subst Pm;go_wp2;go_meet;exact ⟨rfl,rfl⟩
   case rest=>
    obtain ⟨rfl,hwc⟩:=hcut;have hwc':=hwc.symm;subst hwc';clear hwc Pm
    go_upto_region 8 with fail
    refine uD (fun a0 ha0=> ?_);have F5:a0.tmps[5]?=some (.slice va L.length vc):=by rw [ha0];rfl
    have F7:a0.tmps[7]?=some (.pointer (some ⟨tb,0,none⟩)):=by rw [ha0];rfl
    have F8:a0.tmps[8]?=some (.int .u64 ((gn:Nat):Int)):=by rw [ha0];rfl
    have hsz:a0.tmps.size=37:=by rw [ha0];rfl
    have mC:=ae ha0;clear ha0 t0 t1 t2 im;refine uG (Da w.heap.size tb (.slice va L.length vc) L gn yk (.slice xa yd.length xc) yd) (nR w5 (.slice va L.length vc)) Grow [5,23,24,25,26,27,28,29,30,31,32,33,34] (by kernel_rfl) (by kernel_rfl) (by rw [hsz];rfl) Da.keep ⟨Grow.drew _,fun _=>F5⟩ ?_ (fun a1 W1 hf=> ?_);rotate_left
    ·obtain ⟨v,hv,hq⟩:=hf.slot 12 5 (by rfl) (by rfl)
     have hG:Grow w5 W1:=hf.world.1;have hq':aG w.heap.size W1 v (L++aA gn++aU yk.data.toList++aU yd):=hq;have e:=hf.alike.fill;rw [mC.out] at e;simp only [List.foldl_cons,List.foldl_nil,Act.put,List.setIfInBounds_toArray,List.set_cons_zero,List.set_cons_succ] at e;have h5:a1.tmps.getD 5 undef=v:=by rw [fI,hv];rfl
     obtain ⟨u23,JU⟩:∃ u,a1.tmps.getD 23 undef=u:=⟨_,rfl⟩
     obtain ⟨u24,vD⟩:∃ u,a1.tmps.getD 24 undef=u:=⟨_,rfl⟩
     obtain ⟨u25,h25⟩:∃ u,a1.tmps.getD 25 undef=u:=⟨_,rfl⟩
     obtain ⟨u26,h26⟩:∃ u,a1.tmps.getD 26 undef=u:=⟨_,rfl⟩
     obtain ⟨u27,KB⟩:∃ u,a1.tmps.getD 27 undef=u:=⟨_,rfl⟩
     obtain ⟨u28,KC⟩:∃ u,a1.tmps.getD 28 undef=u:=⟨_,rfl⟩
     obtain ⟨u29,zA⟩:∃ u,a1.tmps.getD 29 undef=u:=⟨_,rfl⟩
     obtain ⟨u30,zB⟩:∃ u,a1.tmps.getD 30 undef=u:=⟨_,rfl⟩
     obtain ⟨u31,zC⟩:∃ u,a1.tmps.getD 31 undef=u:=⟨_,rfl⟩
     obtain ⟨u32,zD⟩:∃ u,a1.tmps.getD 32 undef=u:=⟨_,rfl⟩
     obtain ⟨u33,zE⟩:∃ u,a1.tmps.getD 33 undef=u:=⟨_,rfl⟩
     obtain ⟨u34,Jg⟩:∃ u,a1.tmps.getD 34 undef=u:=⟨_,rfl⟩
     rw [h5,JU,vD,h25,h26,KB,KC,zA,zB,zC,zD,zE,Jg] at e;clear h5 hv hq hf JU vD h25 h26 KB KC zA zB zC zD zE Jg;rw [e];clear e mC F5 F7 F8 hsz;obtain ⟨CE,xL,CF,rfl⟩:∃ a L c,v= .slice a L c:=by obtain ⟨a,c,h⟩:=hq'.slice;exact ⟨_,_,_,h⟩
     have bq:Hid (VY w ys pre (.slice CE xL CF) (.int .i64 ((i:Int)+1)) W1):=ae ⟨i+1,by simp,hlt,by rw [Bh.out];exact hq',HG.out.trans hG⟩;clear hq' hG;go_wp2;go_roundw
     case rel=>exact bq.out
     case measure=>simp [intOf];omega
    refine ⟨?_,?_,?_,?_,?_,?_,?_,?_,?_,?_,?_,?_,?_,True.intro⟩
    ·intro listed a W hf ar ak
     have hs1:a.tmps.size=37:=hf.alike.size.trans hsz;have hT:=hf.world;have hG:Grow w5 W:=hT.1;have afJ:=dZ hf.closed (n:=8) (e:=12) (i:=0) (by kernel_rfl) ar;have G5:a.tmps[5]'(by rw [hs1];decide)= .slice va L.length vc:=ax (hT.2 afJ) _;refine aX rfl (by rfl) (fun K' hK'=> ?_);go_simp;exact hK' _ _ ⟨_,rfl,(fun _ _=>rfl),Grow.refl _,nR.next hT (by decide) (by decide) (Grow.refl _)⟩
    ·intro listed a W hf ar ak
     have hs1:a.tmps.size=37:=hf.alike.size.trans hsz;have hT:=hf.world;have hG:Grow w5 W:=hT.1;have G8:a.tmps[8]'(by rw [hs1];decide)= .int .u64 ((gn:Nat):Int):=ax ((hf.alike.same 8 (by decide)).trans F8) _;refine aX rfl (by rfl) (fun K' hK'=> ?_);go_simp;exact hK' _ _ ⟨_,rfl,(fun _ _=>rfl),Grow.refl _,nR.next hT (by decide) (by decide) (Grow.refl _)⟩
    ·intro listed a W hf ar ak
     have hs1:a.tmps.size=37:=hf.alike.size.trans hsz;have hT:=hf.world;have hG:Grow w5 W:=hT.1;obtain ⟨v0,s0,q0⟩:=hf.slot 0 23 rfl (aJ ak 0 (by kernel_rfl));have kZ:v0=_:=q0;subst kZ;have G23:=ax s0 (by rw [hs1];decide);obtain ⟨v1,s1,q1⟩:=hf.slot 1 24 rfl (aJ ak 1 (by kernel_rfl));have kn:v1=_:=q1;subst kn;have G24:=ax s1 (by rw [hs1];decide);refine jc rfl (by rfl) (by go_simp) (nd (cy (eT.out.grow hG)) (by omega) (n:=gn) (by omega)) ?_;rintro e W2 ⟨v,rfl,ho,hg2⟩;exact ⟨_,rfl,_,rfl,(fun _ _=>ho.mono (aN HG.out.size hG.size)),hg2,nR.next hT (by decide) (by decide) hg2⟩
    ·intro listed a W hf ar ak
     have hs1:a.tmps.size=37:=hf.alike.size.trans hsz;have hT:=hf.world;have hG:Grow w5 W:=hT.1;have G7:a.tmps[7]'(by rw [hs1];decide)= .pointer (some ⟨tb,0,none⟩):=ax ((hf.alike.same 7 (by decide)).trans F7) _;refine aX rfl (by rfl) (fun K' hK'=> ?_);go_simp;exact hK' _ _ ⟨_,rfl,(fun _ _=>rfl),Grow.refl _,nR.next hT (by decide) (by decide) (Grow.refl _)⟩
    ·intro listed a W hf ar ak
     have hs1:a.tmps.size=37:=hf.alike.size.trans hsz;have hT:=hf.world;have hG:Grow w5 W:=hT.1;obtain ⟨v3,s3,q3⟩:=hf.slot 3 26 rfl (aJ ak 3 (by kernel_rfl));have qF:v3=_:=q3;subst qF;have G26:=ax s3 (by rw [hs1];decide);have hb:=hG.heap fw.out;obtain ⟨Ca,Cb,Cc⟩:=vP hb;have lb:=af hb;refine aX rfl (by rfl) (fun K' hK'=> ?_);go_simp;exact hK' _ _ ⟨_,rfl,(fun _ _=>rfl),Grow.refl _,nR.next hT (by decide) (by decide) (Grow.refl _)⟩
    ·intro listed a W hf ar ak
     have hs1:a.tmps.size=37:=hf.alike.size.trans hsz;have hT:=hf.world;have hG:Grow w5 W:=hT.1;obtain ⟨v4,s4,q4⟩:=hf.slot 4 27 rfl (aJ ak 4 (by kernel_rfl));have qi:v4=_:=q4;subst qi;have G27:=ax s4 (by rw [hs1];decide);obtain ⟨cap,W2,zt,bg,hg2⟩:=yZ yk (by omega) W;refine aX rfl (by rfl) (fun K' hK'=> ?_);go_simp;exact hK' _ _ ⟨_,rfl,(fun _ _=>bg),hg2,nR.next hT (by decide) (by decide) hg2⟩
    ·intro listed a W hf ar ak
     have hs1:a.tmps.size=37:=hf.alike.size.trans hsz;have hT:=hf.world;have hG:Grow w5 W:=hT.1;obtain ⟨v5,s5,q5⟩:=hf.slot 5 28 rfl (aJ ak 5 (by kernel_rfl));have G28:=ax s5 (by rw [hs1];decide);have pG:Bv W v5 yk.data.toList:=q5;obtain ⟨ka,kc,rfl⟩:=pG.slice;have hg2:Grow W (W.alloc (.cells #[.slice ka yk.data.toList.length kc] 49)):=Grow.alloc _ _;refine Bc rfl (by rfl) (ru (v:= .slice ka yk.data.toList.length kc) rfl Tryz.underlying131 Tryz.wE rfl (by show a.tmps.getD 28 undef=_;rw [fI,s5];rfl) rfl) ?_;exact ⟨_,rfl,(fun _ _=>⟨W.heap.size,_,rfl,aw _ _,pG.grow hg2⟩),hg2,nR.next hT (by decide) (by decide) hg2⟩
    ·intro listed a W hf ar ak
     have hs1:a.tmps.size=37:=hf.alike.size.trans hsz;have hT:=hf.world;have hG:Grow w5 W:=hT.1;obtain ⟨v2,s2,q2⟩:=hf.slot 2 25 rfl (aJ ak 2 (by kernel_rfl));have jg:aG w.heap.size W v2 (L++aA gn):=q2;have G25:=ax s2 (by rw [hs1];decide);obtain ⟨v6,s6,qb,pv,q6,qJ,mY⟩:=hf.slot 6 29 rfl (aJ ak 6 (by kernel_rfl));subst q6;have G29:=ax s6 (by rw [hs1];decide);refine jc rfl (by rfl) (by go_simp) (BG (cy jg) (by have:=cf gn;simp only [List.length_append];omega) qJ mY (by omega)) ?_;rintro e W2 ⟨v,rfl,ho,hg2⟩;exact ⟨_,rfl,_,rfl,(fun _ _=>ho.mono (aN HG.out.size hG.size)),hg2,nR.next hT (by decide) (by decide) hg2⟩
    ·intro listed a W hf ar ak
     have hs1:a.tmps.size=37:=hf.alike.size.trans hsz;have hT:=hf.world;have hG:Grow w5 W:=hT.1;have G7:a.tmps[7]'(by rw [hs1];decide)= .pointer (some ⟨tb,0,none⟩):=ax ((hf.alike.same 7 (by decide)).trans F7) _;refine aX rfl (by rfl) (fun K' hK'=> ?_);go_simp;exact hK' _ _ ⟨_,rfl,(fun _ _=>rfl),Grow.refl _,nR.next hT (by decide) (by decide) (Grow.refl _)⟩
    ·intro listed a W hf ar ak
     have hs1:a.tmps.size=37:=hf.alike.size.trans hsz;have hT:=hf.world;have hG:Grow w5 W:=hT.1;obtain ⟨v8,s8,q8⟩:=hf.slot 8 31 rfl (aJ ak 8 (by kernel_rfl));have Bn:v8=_:=q8;subst Bn;have G31:=ax s8 (by rw [hs1];decide);have hb:=hG.heap fw.out;obtain ⟨Ca,Cb,Cc⟩:=vP hb;have lb:=af hb;refine aX rfl (by rfl) (fun K' hK'=> ?_);go_simp;exact hK' _ _ ⟨_,rfl,(fun _ _=>rfl),Grow.refl _,nR.next hT (by decide) (by decide) (Grow.refl _)⟩
    ·intro listed a W hf ar ak
     have hs1:a.tmps.size=37:=hf.alike.size.trans hsz;have hT:=hf.world;have hG:Grow w5 W:=hT.1;obtain ⟨v9,s9,q9⟩:=hf.slot 9 32 rfl (aJ ak 9 (by kernel_rfl));have Bo:v9=_:=q9;subst Bo;have G32:=ax s9 (by rw [hs1];decide);have hg2:Grow W (W.alloc (.cells #[.slice xa yd.length xc] 49)):=Grow.alloc _ _;refine Bc rfl (by rfl) (ru (v:= .slice xa yd.length xc) rfl Tryz.underlying131 Tryz.wE rfl (by show a.tmps.getD 32 undef=_;rw [fI,s9];rfl) rfl) ?_;exact ⟨_,rfl,(fun _ _=>⟨W.heap.size,rfl,aw _ _⟩),hg2,nR.next hT (by decide) (by decide) hg2⟩
    ·intro listed a W hf ar ak
     have hs1:a.tmps.size=37:=hf.alike.size.trans hsz;have hT:=hf.world;have hG:Grow w5 W:=hT.1;obtain ⟨v7,s7,q7⟩:=hf.slot 7 30 rfl (aJ ak 7 (by kernel_rfl));have hq7:aG w.heap.size W v7 (L++aA gn++aU yk.data.toList):=q7;have G30:=ax s7 (by rw [hs1];decide);obtain ⟨v10,tq,qb,mU,qJ⟩:=hf.slot 10 33 rfl (aJ ak 10 (by kernel_rfl));subst mU;have G33:=ax tq (by rw [hs1];decide);refine jc rfl (by rfl) (by go_simp) (BG (cy hq7) (by have:=cf gn;simp only [List.length_append];omega) qJ (Hyb.out.grow hG) (by omega)) ?_;rintro e W2 ⟨v,rfl,ho,hg2⟩;exact ⟨_,rfl,_,rfl,(fun _ _=>ho.mono (aN HG.out.size hG.size)),hg2,nR.next hT (by decide) (by decide) hg2⟩
    ·intro listed a W hf ar ak
     have hs1:a.tmps.size=37:=hf.alike.size.trans hsz;have hT:=hf.world;have hG:Grow w5 W:=hT.1;obtain ⟨v11,yJ,tr⟩:=hf.slot 11 34 rfl (aJ ak 11 (by kernel_rfl));have axI:aG w.heap.size W v11 (L++aA gn++aU yk.data.toList++aU yd):=tr;have G34:=ax yJ (by rw [hs1];decide);refine aX rfl (by rfl) (fun K' hK'=> ?_);go_simp;exact hK' _ _ ⟨_,rfl,(fun _ _=>axI),Grow.refl _,hG,(fun hl=>by rw [mO (by rw [hf.size];decide)] at hl;cases hl)⟩
  ·have NJ:i=ys.length:=by omega
   subst NJ;rw [List.take_length] at hown;have aY:lF seq (ys.map (·.x))=pre++(ys.map (·.x)).flatMap jM:=by
    unfold lF;rw [List.length_map,←axB.out]
   rw [←aY] at hown;obtain ⟨RR,Wb⟩:∃ x,x=lF seq (ys.map (·.x)):=⟨_,rfl⟩
   rw [←Wb] at hown;have Hr:=ae hown;have HRR:=ae Wb;obtain ⟨va,vc,rfl⟩:=hown.slice;have HG:=ae hg;clear aY hg hown Wb;go_wp2;go_ret;refine ⟨_,rfl,?_,HG.out⟩;rw [←HRR.out];exact Hr.out
theorem Pn {w:World} {a:Option Addr} {c:Nat} {l:List UInt8} (h:Bv w (.slice a l.length c) l) {i j k:Nat} (nW:i≤j) (hj:j≤l.length) (hk:j≤k) (JM:k≤c):Bv w (.slice (if k=i then a else a.map (fun x=>x.add i)) (j-i) (k-i)) ((l.drop i).take (j-i)):=by
 obtain ⟨a',c',he,hlc,hm,hn,h⟩:=h;cases he;have hlen:((l.drop i).take (j-i)).length=j-i:=by simp;omega
 refine ⟨_,k-i,by rw [hlen],by rw [hlen];omega,by omega,?_,?_⟩
 ·intro h0
  split at h0
  ·omega
  ·cases a with
   |none=>have:=hn rfl;omega
   |some x=>cases h0
 ·rcases h with h|⟨b,o,rfl,hb,hc⟩
  ·left;rw [h];simp
  ·by_cases GK:k=i
   ·left;rw [show j-i=0 by omega];simp
   ·right
    rw [if_neg GK];refine ⟨b,o+i,by simp [Addr.add],hb,fun m u hu=> ?_⟩;simp only [List.getElem?_take] at hu
    split at hu
    ·rw [List.getElem?_drop] at hu
     have:=hc (i+m) u hu;rw [show o+i+m=o+(i+m) by omega];exact this
    ·cases hu
structure ja (w0 W:World) (rb:Nat) (l:List UInt8):Prop where
 cell:∃ bv,W.heap[rb]?=some (.cells #[bv,.bool false] 308 (0,0))∧Bv w0 bv l
 grow:Grow w0 W
 new:w0.heap.size≤rb
theorem ja.mz {w0 W W':World} {rb:Nat} {l:List UInt8} (h:ja w0 W rb l) (hg:Grow W W'):ja w0 W' rb l:=by
 obtain ⟨bv,h1,h2⟩:=h.cell;exact ⟨⟨bv,hg.heap h1,h2⟩,h.grow.trans hg,h.new⟩
theorem Wc {w0 W:World} {rb:Nat} {l:List UInt8} (h:ja w0 W rb l) {n:Nat} (hn:n≤l.length) (_hl:l.length≤1000000000000):
  Calls Tryz.prog 224 #[.pointer (some ⟨rb,0,none⟩),.int .i64 n,.int .i64 0] W fun e w'=>e= .returned (.tuple #[])∧ja w0 w' rb (l.drop n)∧GX rb W w':=by
 obtain ⟨bv,h1,h2⟩:=h.cell;obtain ⟨ba,bc,rfl⟩:=h2.slice;have hle:l.length≤bc:=by obtain ⟨a',c',e',hc',_⟩:=h2;cases e';omega
 have hb':=Pn h2 (i:=n) (j:=l.length) (k:=l.length) hn (ay _) (ay _) hle;rw [List.take_of_length_le (by simp)] at hb';obtain ⟨ad,had⟩:∃ ad,(if l.length=n then ba else ba.map (fun x=>x.add n))=ad:=⟨_,rfl⟩
 rw [had] at hb';have Wd:=ae h1;have Hb':=ae hb';have dU:=ae h.grow;have Hnw:=ae h.new;have c0:W.cell? ⟨rb,0,none⟩=some (.slice ba l.length bc):=by simp [World.cell?,h1]
 have c1:W.cell? ⟨rb,1,none⟩=some (.bool false):=by simp [World.cell?,h1]
 have f0:∀ i,W.frozen? ⟨rb,i,none⟩=false:=fun i=>by simp [World.frozen?,h1]
 have lr:=af h1;have dS:=dN (v:= .bool false) (i:=1) h1 rfl;clear h h1 h2 hb';go_enter Tryz.func224,Tryz.ntmps224
 go_upto_region 2 with fail
 clear dS;have gQ:(n:Int)≤(l.length:Int):=by omega
 have gD:(0:Int)≤(n:Int):=by omega
 have hlc:(l.length:Int)≤(bc:Int):=by omega
 refine sX (fun V=>V.cell? ⟨rb,0,none⟩=some (.slice ba l.length bc)∧rb<V.heap.size∧V.frozen? ⟨rb,0,none⟩=false) [(0,false),(1,false),(2,false),(3,false),(4,false),(5,false),(6,false),(7,false),(8,false),(9,false),(10,false),(11,false),(12,false),(13,false),(14,false),(15,false),(16,false),(17,false),(18,false)] 19 (by kernel_rfl) (by kernel_rfl) (fun c a d v w h=>by cases d<;>exact h) ⟨c0,lr,f0 0⟩ ?_;clear c0 c1 f0 lr;simp only [aP,nth]
 repeat (first|(refine aB (v:= ?_) (by rfl) ?_ ?_;rotate_left;(rintro W ⟨hW0,hW1,hW2⟩;go_simp;with_reducible rfl);simp only [ag,List.set])|(refine aC (by rfl) ?_;simp only [ag,List.set]))
 refine bm (sY (by rfl) (fun K hK=> ?_));have h1:=(Grow.drew W).heap Wd.out;have e0:W.drew.cell? ⟨rb,0,none⟩=some (.slice ba l.length bc):=by simp [World.cell?,h1]
 have ff:W.drew.frozen? ⟨rb,0,none⟩=false:=by simp [World.frozen?,h1]
 have le:=af h1;go_simp;refine hK _ _ ?_;clear hK K
 try first|simp only [ag,List.set]|simp only [aD]
 have cE:=Go.Gl.aI h1 0 (.slice ad (l.length-n) (l.length-n));have Hp:Hid (ja w0 (W.drew.setCell ⟨rb,0,none⟩ (.slice ad (l.length-n) (l.length-n))) rb (l.drop n)∧GX rb W (W.drew.setCell ⟨rb,0,none⟩ (.slice ad (l.length-n) (l.length-n)))):=
  ae ⟨⟨⟨_,cE,Hb'.out⟩,Below.setCell (dU.out.trans (Grow.drew W)) (p:=⟨rb,0,none⟩) Hnw.out _,Hnw.out⟩,(GX.of (Grow.drew W)).trans (Go.Gl.iJ _ _ _ _)⟩
 clear cE h1 e0 ff le;go_wp2;exact ⟨rfl,.tuple #[],by simp [results,Tryz.results224,go_sem],rfl,Hp.out⟩
theorem axL {w0 W:World} {rb:Nat} {n:Nat} {r:List UInt8} (h:ja w0 W rb (aA n++r)) (hn:n<18446744073709551616) (hr:r.length≤900000000000):
  Calls Tryz.prog 223 #[.pointer (some ⟨rb,0,none⟩)] W fun e w'=>e= .returned (.int .u64 n)∧ja w0 w' rb r∧GX rb W w':=by
 obtain ⟨bv,h1,h2⟩:=h.cell;have eR:=GW (h2.grow h.grow);rw [MW hn r] at eR;have hk:=cf n;have ht:=Wc h (n:=(aA n).length) (by simp) (by simp;omega);rw [List.drop_left] at ht;have c0:W.cell? ⟨rb,0,none⟩=some bv:=by simp [World.cell?,h1]
 have lr:=af h1;obtain ⟨ba,bc,rfl⟩:=h2.slice;have gF:=ae eR;have Ht:=ae ht;clear h h1 h2 eR ht;generalize (aA n++r).length=L at*;generalize (aA n).length=k at*;go_enter Tryz.func223,Tryz.ntmps223
 go_wp2_with fail
 (with_reducible refine gF.out.mono ?_);rintro e w1 ⟨rfl,bS⟩;have hw2:=bS.symm;subst hw2;clear bS gF
 go_wp2_with fail
 (with_reducible refine Ht.out.mono ?_);rintro e w2 ⟨rfl,hR,hG⟩;go_wp2;go_ret;exact ⟨rfl,hR,hG⟩
theorem agN {w0 W:World} {rb:Nat} {x r:List UInt8} (h:ja w0 W rb (aU x++r)) {m:Nat} (hx:x.length≤m) (hm:m≤67108864) (hr:r.length≤900000000000):
  Calls Tryz.prog 222 #[.pointer (some ⟨rb,0,none⟩),.int .i64 m] W fun e w'=>∃ v,e= .returned v∧aG W.heap.size w' v x∧ja w0 w' rb r∧GX rb W w':=by
 obtain ⟨bv,h1,h2⟩:=h.cell;have eR:=Tx (h2.grow h.grow) (by omega) (by omega) hx (by omega);have hk:=cf x.length;have hlen:(aU x++r).length=(aA x.length).length+x.length+r.length:=by simp [aU];omega
 have hd:(aU x++r).drop ((aA x.length).length+x.length)=r:=by
  have:(aU x).length=(aA x.length).length+x.length:=by simp [aU]
  rw [←this,List.drop_left]
 have Ht:=ae (fun (w':World) (hg:Grow W w')=>Wc (h.mz hg) (n:=(aA x.length).length+x.length) (by omega) (by omega));rw [hd] at Ht;have c0:W.cell? ⟨rb,0,none⟩=some bv:=by simp [World.cell?,h1]
 have lr:=af h1;obtain ⟨ba,bc,rfl⟩:=h2.slice;have gF:=ae eR;clear h h1 h2 eR hd hlen;generalize (aU x++r).length=L at*;generalize (aA x.length).length+x.length=k at*;go_enter Tryz.func222,Tryz.ntmps222
 go_wp2_with fail
 (with_reducible refine gF.out.mono ?_);rintro e w1 ⟨v,rfl,hb,hg⟩;have ht:=Ht.out w1 hg;have Hb:=ae hb;have Hg:=ae hg;have hne:∀ g,v.ownBlock=some g→g≠rb∧g<w1.heap.size:=fun g hv=>⟨by have:=(hb.lt hv).1;omega,(hb.lt hv).2⟩
 have pD:=ae hne;clear hne;have IX:=ae ht;obtain ⟨va,vc,rfl⟩:=hb.slice;clear hb hg gF Ht ht
 go_wp2_with fail
 (with_reducible refine IX.out.mono ?_);rintro e w2 ⟨rfl,hR,hG⟩;have hb2:=Hb.out.keep (w':=w2) (fun g hv=>by
  obtain ⟨_,_,_,_,hk⟩:=hG;exact hk g (pD.out g hv).2 (fun e=>(pD.out g hv).1 (by cases e;rfl)))
 have HR:=ae (ah hb2 (ah hR ((GX.of Hg.out).trans hG)));clear hR hG hb2 Hb Hg pD IX;go_wp2;go_ret;exact ⟨_,rfl,HR.out⟩
theorem axM {w0 W:World} {rb:Nat} {x r:List UInt8} (h:ja w0 W rb (aU x++r)) (hx:x.length≤65535) (hr:r.length≤900000000000):
 Calls Tryz.prog 222 #[.pointer (some ⟨rb,0,none⟩),.int .i64 65535] W fun e w'=>∃ v,e= .returned v∧aG W.heap.size w' v x∧ja w0 w' rb r∧GX rb W w':=agN h (m:=65535) hx (by decide) hr
theorem axN {w0 W:World} {rb:Nat} {x r:List UInt8} (h:ja w0 W rb (aU x++r)) (hx:x.length≤33554432) (hr:r.length≤900000000000):
 Calls Tryz.prog 222 #[.pointer (some ⟨rb,0,none⟩),.int .i64 33554432] W fun e w'=>∃ v,e= .returned v∧aG W.heap.size w' v x∧ja w0 w' rb r∧GX rb W w':=agN h (m:=33554432) hx (by decide) hr
def SRe (rb:Nat) (key:List UInt8) (seq:Nat) (j:Nat) (v:Value) (_W:World):Prop:=
 match j with
 |0=>v= .pointer (some ⟨rb,0,none⟩)
 |2=>v= .string ⟨key.toArray⟩
 |3=>v= .pointer (some ⟨rb,0,none⟩)
 |4=>v= .int .u64 seq
 |5=>v= .agg #[.string ⟨key.toArray⟩,.int .u64 seq,.bool false,.slice none 0 0]
 |_=>True
structure Al (w0 W1:World) (rb:Nat) (key:List UInt8) (seq:Nat) (r:List UInt8) (l:Array Bool) (a:Act) (W:World):Prop where
 gx:GX rb W1 W
 xF:l.getD 1 false=false→ja w0 W rb (aU key++(aA seq++r))
 xG:l.getD 1 false=true→l.getD 4 false=false→ja w0 W rb (aA seq++r)
 xH:l.getD 4 false=true→ja w0 W rb r
 zX:l.getD 1 false=true→∃ v,a.tmps[5]?=some v∧aG W1.heap.size W v key∧v.ownBlock≠some rb
 al:l.getD 6 false=true→∃ q,a.tmps[3]?=some (.pointer (some ⟨q,0,none⟩))∧W1.heap.size≤q∧q≠rb∧W.heap[q]?=some (.cells (if l.getD 7 false then #[.string ⟨key.toArray⟩,.int .u64 seq,.bool false,.slice none 0 0] else #[.string ⟨#[]⟩,.int .u64 0,.bool false,.slice none 0 0]) 60 (0,0))
theorem Al.next {w0 W1:World} {rb:Nat} {key:List UInt8} {seq:Nat} {r:List UInt8} {l:Array Bool} {a:Act} {W W':World} {i d:Nat} {v:Value} (h:Al w0 W1 rb key seq r l a W) (hi:i≠1∧i≠4∧i≠6∧i≠7) (hd:d≠5∧d≠3) (hg:Grow W W'):Al w0 W1 rb key seq r (l.setIfInBounds i true) (a.put (some d) v) W':=
 ⟨h.gx.trans (GX.of hg),fun h1=>(h.xF (by rw [getD_set_ne false hi.1] at h1;exact h1)).mz hg,fun h1 h2=>(h.xG (by rw [getD_set_ne false hi.1] at h1;exact h1) (by rw [getD_set_ne false hi.2.1] at h2;exact h2)).mz hg,
  fun h1=>(h.xH (by rw [getD_set_ne false hi.2.1] at h1;exact h1)).mz hg,
  fun h1=>by
   obtain ⟨u,g1,g2,g3⟩:=h.zX (by rw [getD_set_ne false hi.1] at h1;exact h1);exact ⟨u,ix hd.1 g1,g2.grow hg,g3⟩,
  fun h1=>by
   obtain ⟨q,g1,g2,g3,g4⟩:=h.al (by rw [getD_set_ne false hi.2.2.1] at h1;exact h1);rw [getD_set_ne false hi.2.2.2];exact ⟨q,ix hd.2 g1,g2,g3,hg.heap g4⟩⟩
theorem axP {w0 W:World} {rb:Nat} {x:En} {r:List UInt8} (h:ja w0 W rb (nH x++r)) (hk:x.key.size≤65535) (hs:x.seq<18446744073709551616) (hv:x.val.length≤33554432) (hr:r.length≤800000000000):
  Calls Tryz.prog 199 #[.pointer (some ⟨rb,0,none⟩)] W fun e w'=>∃ sv,e= .returned (.agg (bQ ⟨x,sv⟩))∧aG W.heap.size w' sv x.val∧ja w0 w' rb r∧GX rb W w':=by
 obtain ⟨xk,xs,xg,xd⟩:=x;simp only at hk hs hv;have dA:xk.data.toList.length=xk.size:=by rw [Array.length_toList];rfl
 have hka:(⟨xk.data.toList.toArray⟩:ByteArray)=xk:=by simp
 obtain ⟨gb,hgb⟩:∃ gb:UInt8,gb=if xg then 1 else 0:=⟨_,rfl⟩
 have jO:nH ⟨xk,xs,xg,xd⟩++r=aU xk.data.toList++(aA xs++(gb::(aU xd++r))):=by rw [hgb];simp [nH]
 rw [jO] at h;clear jO;obtain ⟨R,hR⟩:∃ R,R=gb::(aU xd++r):=⟨_,rfl⟩
 rw [←hR] at h;have hRl:R.length≤850000000000:=by rw [hR];have:=lO xd;simp only [List.length_cons,List.length_append];omega
 have HR:=ae hR;have We:=ae hgb;clear hR hgb;have ai:=Grow.alloc W (.cells #[.string ⟨#[]⟩,.int .u64 0,.bool false,.slice none 0 0] 60);have oM:=aw W (.cells #[.string ⟨#[]⟩,.int .u64 0,.bool false,.slice none 0 0] 60);have h1:=h.mz ai;have bT:=ae ai;have pS:=ae oM;have H1:=ae h1;have Hka:=ae hka;have aGA:w0.heap.size≤W.heap.size:=h.grow.size;clear h ai oM h1 hka;go_enter Tryz.func199,Tryz.ntmps199
 go_upto_region 1 with fail
 generalize hW1:W.alloc (.cells #[.string ⟨#[]⟩,.int .u64 0,.bool false,.slice none 0 0] 60)=W1 at*;clear hW1;obtain ⟨eb,py⟩:∃ eb,eb=W.heap.size:=⟨_,rfl⟩
 rw [←py] at pS ⊢;have Ox:=ae py;clear py;refine uD (fun a0 ha0=> ?_);have F0:a0.tmps[0]?=some (.pointer (some ⟨rb,0,none⟩)):=by rw [ha0];rfl
 have hsz:a0.tmps.size=53:=by rw [ha0];rfl
 have mC:=ae ha0;clear ha0;have hgd:=Grow.drew W1;refine uG (SRe rb xk.data.toList xs) (Al w0 W1 rb xk.data.toList xs R) (fun _ _=>True) [3,4,5,6,7,8,9] (by kernel_rfl) (by kernel_rfl) (by rw [hsz];rfl) (fun j v W W' _ h=>h) ⟨GX.of hgd,fun _=>H1.out.mz hgd,(fun h=>by cases h),(fun h=>by cases h),(fun h=>by cases h),(fun h=>by cases h)⟩ ?_ (fun a1 W2 hf=> ?_);rotate_left
 ·obtain ⟨q,hv3,jk,jg,xI⟩:=hf.world.al rfl
  replace xI:W2.heap[q]?=some (.cells #[.string ⟨xk.data.toList.toArray⟩,.int .u64 xs,.bool false,.slice none 0 0] 60 (0,0)):=xI;have aY:=hf.world.xH rfl;have hgx:=hf.world.gx;have e:=hf.alike.fill;rw [mC.out] at e;simp only [List.foldl_cons,List.foldl_nil,Act.put,List.setIfInBounds_toArray,List.set_cons_zero,List.set_cons_succ] at e;have h3:a1.tmps.getD 3 undef= .pointer (some ⟨q,0,none⟩):=by rw [fI,hv3];rfl
  obtain ⟨u4,h4⟩:∃ u,a1.tmps.getD 4 undef=u:=⟨_,rfl⟩
  obtain ⟨u5,h5⟩:∃ u,a1.tmps.getD 5 undef=u:=⟨_,rfl⟩
  obtain ⟨u6,h6⟩:∃ u,a1.tmps.getD 6 undef=u:=⟨_,rfl⟩
  obtain ⟨u7,h7⟩:∃ u,a1.tmps.getD 7 undef=u:=⟨_,rfl⟩
  obtain ⟨u8,h8⟩:∃ u,a1.tmps.getD 8 undef=u:=⟨_,rfl⟩
  obtain ⟨u9,h9⟩:∃ u,a1.tmps.getD 9 undef=u:=⟨_,rfl⟩
  rw [h3,h4,h5,h6,h7,h8,h9] at e;clear h3 hv3 hf h4 h5 h6 h7 h8 h9;rw [e];clear e mC F0 hsz;rw [Hka.out] at xI;have agO:W2.heap[eb]?=some (.cells #[.string ⟨#[]⟩,.int .u64 0,.bool false,.slice none 0 0] 60 (0,0)):=hgx.heap pS.out (by
   have:=Ox.out;have hn:=H1.out.new;intro e;obtain ⟨bv,h2,_⟩:=H1.out.cell;rw [←e,pS.out] at h2;exact absurd (cA (bB h2)).2.1 (by decide))
  obtain ⟨bv,hc0,bg⟩:=aY.cell;rw [HR.out] at bg;have CQ:=bg.grow aY.grow;obtain ⟨ba,bc,rfl,hbl,EP,hbn,eO⟩:=CQ;obtain ⟨bb,bo,rfl,cZ,agP⟩:∃ b o,ba=some ⟨b,o,none⟩∧b<W2.heap.size∧∀ (j:Nat) (k:UInt8),(gb::(aU xd++r))[j]?=some k→W2.cell? ⟨b,o+j,none⟩=some (.int .u8 k.toNat):=by
   rcases eO with h|h
   ·cases h
   ·exact h
  have ck:=agP 0 gb rfl;rw [Nat.add_zero] at ck;obtain ⟨RL,hRL⟩:∃ RL,RL=(aU xd++r).length:=⟨_,rfl⟩
  have agR:(gb::(aU xd++r)).length=RL+1:=by rw [hRL];rfl
  rw [agR] at hc0;have c0:W2.cell? ⟨rb,0,none⟩=some (.slice (some ⟨bb,bo,none⟩) (RL+1) bc):=by simp [World.cell?,hc0]
  have c1:W2.cell? ⟨rb,1,none⟩=some (.bool false):=by simp [World.cell?,hc0]
  have f0:∀ i,W2.frozen? ⟨rb,i,none⟩=false:=fun i=>by simp [World.frozen?,hc0]
  have lr:=af hc0;obtain ⟨e0,e1,e2,e3⟩:=cK xI;have lq:=af xI;have fq:∀ i,W2.frozen? ⟨q,i,none⟩=false:=fun i=>by simp [World.frozen?,xI]
  have dS:=dN (v:= .bool false) (i:=1) hc0 rfl;have wI:=dN (v:= .bool false) (i:=2) xI rfl;have aGB:W.heap.size≤q:=aN bT.out.size jk;have nk:=ae aY;have KD:=ae hgx;have agS:=ae agO;have Hq3:=ae xI;have aGC:decide ((RL:Int)+1=0)=false:=by simp;omega
  have aGD:((RL:Int)+1==0)=false:=by simp only [beq_eq_false_iff_ne,ne_eq];omega
  have aGE:(0:Int)<(RL:Int)+1:=by omega
  clear aY hgx agO xI hc0 bg eO agP hbl EP hbn cZ hRL agR;have hg1:decide ((1:Int)<(gb.toNat:Int))=false:=by rw [We.out];cases xg<;>rfl
  go_upto_region 5 with fail
  go_cut [] from 39 to 46 (fun wx=>ja w0 wx rb (gb::(aU xd++r))∧wx.heap[q]?=some (.cells #[.string xk,.int .u64 xs,.bool xg,.slice none 0 0] 60 (0,0))∧GX rb W1 wx∧wx.heap[eb]?=some (.cells #[.string ⟨#[]⟩,.int .u64 0,.bool false,.slice none 0 0] 60 (0,0)))
  case first=>
   cases xg with
   |false=>
    clear hg1;have hg0:gb=0:=by rw [We.out];rfl
    subst hg0;go_wp2;go_meet;exact ⟨by rw [←HR.out];exact nk.out,Hq3.out,KD.out,agS.out⟩
   |true=>
    clear hg1;have hg0:gb=1:=by rw [We.out];rfl
    subst hg0;go_wp2;go_meet;have cE:=Go.Gl.aI Hq3.out 2 (.bool true);have iw:∀ k,q≠k→(W2.setCell ⟨q,2,none⟩ (.bool true)).heap[k]?=W2.heap[k]?:=fun k hk=>aK _ _ _ _ (Ne.symm hk)
    have hw0:w0.heap.size≤q:=aN H1.out.grow.size jk;refine ⟨?_,cE,?_,?_⟩
    ·obtain ⟨bv,h1,h2⟩:=nk.out.cell
     rw [←HR.out];exact ⟨⟨bv,(iw rb jg).trans h1,h2⟩,nk.out.grow.setCell (p:=⟨q,2,none⟩) hw0 _,nk.out.new⟩
    ·obtain ⟨z1,z2,z3,z4,z5⟩:=KD.out
     exact ⟨z1,z2,z3,by simpa using z4,fun b hb hne=>(iw b (fun e=>by omega)).trans (z5 b hb hne)⟩
    ·exact (iw eb (fun e=>by have:=Ox.out;have:=af pS.out;omega)).trans agS.out
  case rest=>
   obtain ⟨hr3,Fq,agU,agV⟩:=hcut;generalize wc=W3 at*;have cC:=Wc hr3 (n:=1) (by simp) (by simp only [List.length_cons,List.length_append];have:=lO xd;omega);have agW:Calls Tryz.prog 224 #[.pointer (some ⟨rb,0,none⟩),.int .i64 1,.int .i64 0] W3 fun e w'=>e= .returned (.tuple #[])∧ja w0 w' rb (aU xd++r)∧GX rb W3 w':=cC
   have lz:=ae agW;have eX:=ae (ah Fq (ah agU agV));clear cC agW hr3 Fq agU agV c0 c1 f0 e0 e1 e2 e3 fq dS wI ck
   go_wp2_with fail
   (with_reducible refine lz.out.mono ?_);rintro e W4 ⟨rfl,hr4,agX⟩;have hby:=axN hr4 hv (by omega);have Hby:=ae hby;have FH:=ae agX;clear hby hr4 agX lz
   go_wp2_with fail
   (with_reducible refine Hby.out.mono ?_);rintro e W5 ⟨sv,rfl,ho,xJ,Po⟩;have nI:W5.heap[q]?=some (.cells #[.string xk,.int .u64 xs,.bool xg,.slice none 0 0] 60 (0,0)):=Po.heap (FH.out.heap eX.out.1 jg) jg;have Pp:eb≠rb:=by
    intro e;obtain ⟨bv,h2,_⟩:=H1.out.cell;rw [←e,pS.out] at h2;exact absurd (cA (bB h2)).2.1 (by decide)
   have su:=Po.heap (FH.out.heap eX.out.2.2 Pp) Pp;obtain ⟨pT,pU,rfl⟩:=ho.slice;have agZ:GX rb W1 W5:=eX.out.2.1.trans (FH.out.trans Po);have hle:w0.heap.size≤q:=aN H1.out.grow.size jk;have hWe:W.heap.size≤eb:=by rw [Ox.out];exact ay _
   have aGG:eb<q:=cj (af pS.out) jk;obtain ⟨e0,e1,e2,e3⟩:=cK nI;have lq5:=af nI;have fq:∀ i,W5.frozen? ⟨q,i,none⟩=false:=fun i=>by simp [World.frozen?,nI]
   have cE:=Go.Gl.aI nI 3 (.slice pT xd.length pU);have iw:∀ k,q≠k→(W5.setCell ⟨q,3,none⟩ (.slice pT xd.length pU)).heap[k]?=W5.heap[k]?:=fun k hk=>aK _ _ _ _ (Ne.symm hk)
   have Hs:=ae (ah cE iw);have Jf:=ae ho;have tM:=ae xJ;have axS:=ae agZ;have Hb5:=ae su;have hs5:W5.heap.size≤(W5.setCell ⟨q,3,none⟩ (.slice pT xd.length pU)).heap.size:=by simp
   clear cE iw ho xJ agZ su Po nI Hby
   go_upto_region 8 with fail
   generalize mG:W5.setCell ⟨q,3,none⟩ (.slice pT xd.length pU)=W6 at*;have Pq:=ae mG;clear mG e0 e1 e2 e3 fq;have xx:W6.heap[q]?=some (.cells #[.string xk,.int .u64 xs,.bool xg,.slice pT xd.length pU] 60 (0,0)):=Hs.out.1;have KE:W6.heap[eb]?=some (.cells #[.string ⟨#[]⟩,.int .u64 0,.bool false,.slice none 0 0] 60 (0,0)):=(Hs.out.2 eb (by omega)).trans Hb5.out;obtain ⟨d0,d1,d2,d3⟩:=cK xx;have lq6:=af xx;obtain ⟨g0,g1,g2,g3⟩:=cK KE;have lg6:=af KE;have fg:∀ i,W6.frozen? ⟨eb,i,none⟩=false:=fun i=>by simp [World.frozen?,KE]
   have y1:=zV (v0:= .string xk) (v1:= .int .u64 xs) (v2:= .bool xg) (v3:= .slice pT xd.length pU) KE;have yo:=fun k (hk:k≠eb)=>qR (w:=W6) hk (.string xk) (.int .u64 xs) (.bool xg) (.slice pT xd.length pU)
   have Pr:∀ k,k≠q→k≠eb→(iG W6 eb (.string xk) (.int .u64 xs) (.bool xg) (.slice pT xd.length pU)).heap[k]?=W5.heap[k]?:=fun k h1 h2=>(yo k h2).trans (Hs.out.2 k (Ne.symm h1))
   have gJ:aG W.heap.size (iG W6 eb (.string xk) (.int .u64 xs) (.bool xg) (.slice pT xd.length pU)) (.slice pT xd.length pU) xd∧ja w0 (iG W6 eb (.string xk) (.int .u64 xs) (.bool xg) (.slice pT xd.length pU)) rb r∧GX rb W (iG W6 eb (.string xk) (.int .u64 xs) (.bool xg) (.slice pT xd.length pU)):=by
    refine ⟨?_,?_,?_⟩
    ·have h4:W.heap.size≤_:=aN bT.out.size (aN eX.out.2.1.size FH.out.size)
     refine (Jf.out.mono h4).keep (fun g hg=>Pr g (fun e=> ?_) (fun e=> ?_))
     ·have h5:=(Jf.out.lt hg).1
      have h6:=af (FH.out.heap eX.out.1 jg);omega
     ·have h5:=(Jf.out.lt hg).1
      have h6:=af (FH.out.heap eX.out.2.2 Pp);omega
    ·obtain ⟨bv,h1,h2⟩:=tM.out.cell
     have Pt:w0.heap.size≤eb:=by omega
     refine ⟨⟨bv,(Pr rb (Ne.symm jg) (Ne.symm Pp)).trans h1,h2⟩,?_,tM.out.new⟩;rw [←Pq.out];exact ((((tM.out.grow.setCell (p:=⟨q,3,none⟩) hle _).setCell (p:=⟨eb,0,none⟩) Pt _).setCell (p:=⟨eb,1,none⟩) Pt _).setCell (p:=⟨eb,2,none⟩) Pt _).setCell (p:=⟨eb,3,none⟩) Pt _
    ·have hGW:=(GX.of bT.out).trans axS.out
     obtain ⟨z1,z2,z3,z4,z5⟩:=hGW;refine ⟨?_,?_,?_,?_,fun b hb hne=>(Pr b (fun e=>by omega) (fun e=>by omega)).trans (z5 b hb hne)⟩
     ·rw [←Pq.out];exact z1
     ·rw [←Pq.out];exact z2
     ·rw [←Pq.out];exact z3
     ·have:W6.heap.size≤(iG W6 eb (.string xk) (.int .u64 xs) (.bool xg) (.slice pT xd.length pU)).heap.size:=by simp
      omega
   have cS:=ae gJ;have hnq:q≠eb:=by omega
   have aGK:eb≠q:=by omega
   clear gJ Pr yo xx KE;obtain ⟨r0,r1,r2,r3⟩:=cK y1;have Hy:=ae (ah r0 (ah r1 (ah r2 r3)));clear r0 r1 r2 r3 y1;go_wp2;obtain ⟨r0,r1,r2,r3⟩:=Hy.out;refine bodyPost_ret (v:= .agg #[.string xk,.int .u64 xs,.bool xg,.slice pT xd.length pU]) (by simp [results,Tryz.results199,go_sem,r0,r1,r2,r3]) rfl ⟨_,rfl,cS.out⟩
 refine ⟨?_,?_,?_,?_,?_,?_,?_,?_,True.intro⟩
 ·intro listed a V hf ar ak
  have hs1:a.tmps.size=53:=hf.alike.size.trans hsz;have hT:=hf.world;have G0:a.tmps[0]'(by rw [hs1];decide)= .pointer (some ⟨rb,0,none⟩):=ax ((hf.alike.same 0 (by decide)).trans F0) _;refine aX rfl (by rfl) (fun K' hK'=> ?_);go_simp;exact hK' _ _ ⟨_,rfl,(fun _ _=>rfl),True.intro,Al.next hT (by decide) (by decide) (Grow.refl _)⟩
 ·intro listed a V hf ar ak
  have hs1:a.tmps.size=53:=hf.alike.size.trans hsz;have hT:=hf.world;obtain ⟨v0,s0,q0⟩:=hf.slot 0 4 rfl (aJ ak 0 (by kernel_rfl));have kZ:v0=_:=q0;subst kZ;have G4:=ax s0 (by rw [hs1];decide);have gQ:listed.getD 1 false=false:=by
   rw [fI] at ar ⊢;cases hx:listed[1]? with
   |none=>rw [hx] at ar;cases ar
   |some b=>rw [hx] at ar;exact ar
  have xK:=dZ hf.closed (n:=8) (e:=4) (i:=1) (by kernel_rfl) ar;have CH:=dZ hf.closed (n:=8) (e:=7) (i:=1) (by kernel_rfl) ar;refine jc rfl (by rfl) (by go_simp) (axM (hT.xF gQ) (by omega) (by have:=cf xs;simp only [List.length_append];omega)) ?_;rintro e V2 ⟨v,rfl,ho,aY,hgx⟩;have hlen:1<listed.size:=by rw [hf.size];decide
  have Dc:W1.heap.size≤V.heap.size:=hT.gx.size;refine ⟨_,rfl,_,rfl,(fun _ _=>True.intro),True.intro,hT.gx.trans hgx,(fun h=>by rw [mO hlen] at h;cases h),(fun _ _=>aY),(fun h=>by rw [getD_set_ne false (by decide)] at h;rw [xK] at h;cases h),(fun _=>⟨v,uF (by rw [hs1];decide),ho.mono Dc,fun e=>by
   have h1:=(ho.lt e).1;obtain ⟨bv,h2,_⟩:=(hT.xF gQ).cell;have:=af h2;omega⟩),fun h=> ?_⟩
  obtain ⟨q,g1,g2,g3,g4⟩:=hT.al (by rw [getD_set_ne false (by decide)] at h;exact h);rw [getD_set_ne false (by decide)];exact ⟨q,ix (by decide) g1,g2,g3,hgx.heap g4 g3⟩
 ·intro listed a V hf ar ak
  have hs1:a.tmps.size=53:=hf.alike.size.trans hsz;have hT:=hf.world;obtain ⟨v,s1,hb,_⟩:=hT.zX (aJ ak 1 (by kernel_rfl));have G5:=ax s1 (by rw [hs1];decide);have hcv:=wN (cy hb);refine aX rfl (by rfl) (fun K' hK'=> ?_);go_simp;exact hK' _ _ ⟨_,rfl,(fun _ _=>rfl),True.intro,Al.next hT (by decide) (by decide) (Grow.refl _)⟩
 ·intro listed a V hf ar ak
  have hs1:a.tmps.size=53:=hf.alike.size.trans hsz;have hT:=hf.world;have G0:a.tmps[0]'(by rw [hs1];decide)= .pointer (some ⟨rb,0,none⟩):=ax ((hf.alike.same 0 (by decide)).trans F0) _;refine aX rfl (by rfl) (fun K' hK'=> ?_);go_simp;exact hK' _ _ ⟨_,rfl,(fun _ _=>rfl),True.intro,Al.next hT (by decide) (by decide) (Grow.refl _)⟩
 ·intro listed a V hf ar ak
  have hs1:a.tmps.size=53:=hf.alike.size.trans hsz;have hT:=hf.world;obtain ⟨v3,s3,q3⟩:=hf.slot 3 7 rfl (aJ ak 3 (by kernel_rfl));have qF:v3=_:=q3;subst qF;have G7:=ax s3 (by rw [hs1];decide);have xK:listed.getD 4 false=false:=by
   rw [fI] at ar ⊢;cases hx:listed[4]? with
   |none=>rw [hx] at ar;cases ar
   |some b=>rw [hx] at ar;exact ar
  have ui:=aJ ak 1 (by kernel_rfl);have CH:=dZ hf.closed (n:=8) (e:=7) (i:=4) (by kernel_rfl) ar;have axV:=hT.xG ui xK;refine jc rfl (by rfl) (by go_simp) (axL axV hs (by omega)) ?_;rintro e V2 ⟨rfl,aY,hgx⟩;have hlen:4<listed.size:=by rw [hf.size];decide
  refine ⟨_,rfl,_,rfl,(fun _ _=>rfl),True.intro,hT.gx.trans hgx,(fun h=>by rw [getD_set_ne false (by decide),ui] at h;cases h),(fun _ h=>by rw [mO hlen] at h;cases h),(fun _=>aY),(fun h=> ?_),fun h=> ?_⟩
  ·obtain ⟨u,g1,g2,g3⟩:=hT.zX ui
   exact ⟨u,ix (by decide) g1,g2.keep (fun g hg=>hgx.block g (g2.lt hg).2 (fun e=>g3 (by rw [hg,e]))),g3⟩
  ·obtain ⟨q,g1,g2,g3,g4⟩:=hT.al (by rw [getD_set_ne false (by decide)] at h;exact h)
   rw [getD_set_ne false (by decide)];exact ⟨q,ix (by decide) g1,g2,g3,hgx.heap g4 g3⟩
 ·intro listed a V hf ar ak
  have hs1:a.tmps.size=53:=hf.alike.size.trans hsz;have hT:=hf.world;obtain ⟨v2,s2,q2⟩:=hf.slot 2 6 rfl (aJ ak 2 (by kernel_rfl));have od:v2=_:=q2;subst od;have G6:=ax s2 (by rw [hs1];decide);obtain ⟨v4,s4,q4⟩:=hf.slot 4 8 rfl (aJ ak 4 (by kernel_rfl));have qi:v4=_:=q4;subst qi;have G8:=ax s4 (by rw [hs1];decide);refine aX rfl (by rfl) (fun K' hK'=> ?_);go_simp;exact hK' _ _ ⟨_,rfl,(fun _ _=>rfl),True.intro,Al.next hT (by decide) (by decide) (Grow.refl _)⟩
 ·intro listed a V hf ar ak
  have hs1:a.tmps.size=53:=hf.alike.size.trans hsz;have hT:=hf.world;have NI:listed.getD 6 false=false:=by
   rw [fI] at ar ⊢;cases hx:listed[6]? with
   |none=>rw [hx] at ar;cases ar
   |some b=>rw [hx] at ar;exact ar
  have CH:=dZ hf.closed (n:=8) (e:=7) (i:=6) (by kernel_rfl) ar;have hg2:Grow V (V.alloc (.cells #[.string ⟨#[]⟩,.int .u64 0,.bool false,.slice none 0 0] 60)):=Grow.alloc _ _;refine aX rfl (by rfl) (fun K' hK'=> ?_);go_simp;have hlen:6<listed.size:=by rw [hf.size];decide
  have ep:rb<W1.heap.size:=by
   obtain ⟨bv,h2,_⟩:=H1.out.cell;exact af h2
  have Dc:W1.heap.size≤V.heap.size:=hT.gx.size;exact hK' _ _ ⟨_,rfl,(fun _ _=>True.intro),True.intro,hT.gx.trans (GX.of hg2),(fun h=>(hT.xF (by rw [getD_set_ne false (by decide)] at h;exact h)).mz hg2),(fun h1 h2=>(hT.xG (by rw [getD_set_ne false (by decide)] at h1;exact h1) (by rw [getD_set_ne false (by decide)] at h2;exact h2)).mz hg2),
   (fun h=>(hT.xH (by rw [getD_set_ne false (by decide)] at h;exact h)).mz hg2),(fun h=>by
    obtain ⟨u,g1,g2,g3⟩:=hT.zX (by rw [getD_set_ne false (by decide)] at h;exact h);exact ⟨u,ix (by decide) g1,g2.grow hg2,g3⟩),(fun _=>⟨V.heap.size,uF (by rw [hs1];decide),Dc,by omega,by rw [getD_set_ne false (by decide),CH];exact aw _ _⟩)⟩
 ·intro listed a V hf ar ak
  have hs1:a.tmps.size=53:=hf.alike.size.trans hsz;have hT:=hf.world;obtain ⟨v5,s5,q5⟩:=hf.slot 5 9 rfl (aJ ak 5 (by kernel_rfl));have tk:v5=_:=q5;subst tk;have G9:=ax s5 (by rw [hs1];decide);have CH:listed.getD 7 false=false:=by
   rw [fI] at ar ⊢;cases hx:listed[7]? with
   |none=>rw [hx] at ar;cases ar
   |some b=>rw [hx] at ar;exact ar
  obtain ⟨q,g1,g2,g3,g4⟩:=hT.al (aJ ak 6 (by kernel_rfl));rw [CH] at g4;have Dd:V.heap[q]?=some (.cells #[.string ⟨#[]⟩,.int .u64 0,.bool false,.slice none 0 0] 60 (0,0)):=g4;have G3:=ax g1 (by rw [hs1];decide);have ui:=aJ ak 1 (by kernel_rfl);have h4l:=aJ ak 4 (by kernel_rfl);obtain ⟨e0,e1,e2,e3⟩:=cK Dd;have le:=af Dd;have fe:∀ i,V.frozen? ⟨q,i,none⟩=false:=fun i=>by simp [World.frozen?,Dd]
  have s2:=dN (v:= .bool false) (i:=2) Dd rfl;have Wf:=dN (v:= .slice none 0 0) (i:=3) Dd rfl;have y1:=zV (v0:= .string ⟨xk.data.toList.toArray⟩) (v1:= .int .u64 xs) (v2:= .bool false) (v3:= .slice none 0 0) Dd;have yo:=fun k (hk:k≠q)=>qR (w:=V) hk (.string ⟨xk.data.toList.toArray⟩) (.int .u64 xs) (.bool false) (.slice none 0 0)
  have dG:GX rb W1 (iG V q (.string ⟨xk.data.toList.toArray⟩) (.int .u64 xs) (.bool false) (.slice none 0 0)):=by
   obtain ⟨z1,z2,z3,z4,z5⟩:=hT.gx;exact ⟨z1,z2,z3,by simpa using z4,fun b hb hne=>(yo b (fun e=>by omega)).trans (z5 b hb hne)⟩
  have Pu:=hT.xH h4l;obtain ⟨ub,g5,g6,g7⟩:=hT.zX ui;have Pv:aG W1.heap.size (iG V q (.string ⟨xk.data.toList.toArray⟩) (.int .u64 xs) (.bool false) (.slice none 0 0)) ub xk.data.toList:=g6.keep (fun g hg=>yo g (fun e=>by
   obtain ⟨cur,hc⟩:=g6.block hg;rw [e,Dd] at hc;exact absurd (cA (bB hc)).2.1 (by decide)))
  have Pw:ja w0 (iG V q (.string ⟨xk.data.toList.toArray⟩) (.int .u64 xs) (.bool false) (.slice none 0 0)) rb R:=by
   obtain ⟨bv,h1,h2⟩:=Pu.cell;have hw0:w0.heap.size≤q:=aN H1.out.grow.size g2;exact ⟨⟨bv,(yo rb (Ne.symm g3)).trans h1,h2⟩,(((Pu.grow.setCell (p:=⟨q,0,none⟩) hw0 _).setCell (p:=⟨q,1,none⟩) hw0 _).setCell (p:=⟨q,2,none⟩) hw0 _).setCell (p:=⟨q,3,none⟩) hw0 _,Pu.new⟩
  have hlen:7<listed.size:=by rw [hf.size];decide
  have HT:=ae (ah y1 (ah dG (ah Pv Pw)));clear y1 dG Pv Pw Pu g6 s2 Wf;refine aX rfl (by rfl) (fun K' hK'=> ?_);go_simp;obtain ⟨y1,dG,Pv,Pw⟩:=HT.out;refine hK' _ _ ⟨undef,rfl,(fun _ _=>True.intro),True.intro,dG,(fun h=>by rw [getD_set_ne false (by decide),ui] at h;cases h),(fun _ h=>by rw [getD_set_ne false (by decide),h4l] at h;cases h),(fun _=>Pw),(fun _=>⟨ub,g5,Pv,g7⟩),fun _=>⟨q,g1,g2,g3,?_⟩⟩;rw [mO hlen];exact y1
theorem Tryz.axW:(Tryz.prog.info? 51).map (fun i=>(i.zero,i.size,i.bytes))=some (some (.agg #[.string ByteArray.empty,.bool false,.slice none 0 0]),3,48):=by kernel_rfl
def aaa (B:Nat) (N:Nat→Prop) (w:World) (v:Value) (xs:List Wv):Prop:=w.ownsRow B 51 3 v xs.length (xs.flatMap ma)∧∀ x∈xs,oL N w x
theorem aaa.es {N:Nat→Prop} {w:World} {v:Value} {xs:List Wv} {B:Nat} (h:aaa B N w v xs) (hN:∀ g,v.ownBlock=some g→N g):Ws N w v xs:=by
 refine ⟨?_,h.2⟩;rcases h.1.2 with ⟨h1,h0⟩|⟨g,cap,cur,h1,hB,h3,h4,h5,h6⟩
 ·have:xs= []:=jb h0
  subst this;exact ⟨none,0,h1,ay _,bk _,fun _=>rfl,.inl rfl⟩
 ·exact ⟨some ⟨g,0,none⟩,cap,h1,h4,h5,(fun e=>by cases e),.inr ⟨g,0,rfl,hN g (by rw [h1];rfl),af h3,wO aGu (h1 ▸ h.1)⟩⟩
def KF (N:Nat→Prop) (B:Nat) (W:World) (y:Wv):Prop:=
 Bv W y.v y.x.val∧(y.x.val= []∨∀ b,y.v.ownBlock=some b→N b∨(B≤b∧∃ cur f,W.heap[b]?=some (.cells cur 5 f)))
theorem KF.keep {N:Nat→Prop} {B:Nat} {W W':World} {y:Wv} (h:KF N B W y) (hs:W.heap.size≤W'.heap.size) (hN:∀ b,N b→W'.heap[b]?=W.heap[b]?)
  (hc:∀ (b:Nat) (cur:Array Value) (f:Nat×Nat),B≤b→W.heap[b]?=some (.cells cur 5 f)→W'.heap[b]?=some (.cells cur 5 f)):KF N B W' y:=by
 refine ⟨awS h.1 hs (fun hne b hb=> ?_),h.2.imp id (fun h2 b hb=>(h2 b hb).imp id (fun ⟨h3,cur,f,h4⟩=>⟨h3,cur,f,hc b cur f h3 h4⟩))⟩;rcases h.2 with h2|h2
 ·exact absurd h2 hne
 ·rcases h2 b hb with h3|⟨h3,cur,f,h4⟩
  ·exact hN b h3
  ·rw [hc b cur f h3 h4,h4]
theorem KF.slice {N:Nat→Prop} {B:Nat} {W:World} {y:Wv} (h:KF N B W y):∃ a c,y.v= .slice a y.x.val.length c:=h.1.slice
theorem KF.axZ {N M:Nat→Prop} {B:Nat} {W:World} {y:Wv} (h:KF N B W y) (hM:∀ b,N b∨B≤b→M b):oL M W y:=
 ⟨h.1,h.2.imp id (fun h2 b hb=>hM b ((h2 b hb).imp id (fun h3=>h3.1)))⟩
def oN (B:Nat) (N:Nat→Prop) (W:World) (v:Value) (ys:List Wv):Prop:=W.ownsRow B 51 3 v ys.length (ys.flatMap ma)∧∀ y∈ys,KF N B W y
theorem oN.ws {B:Nat} {N M:Nat→Prop} {W:World} {v:Value} {ys:List Wv} (h:oN B N W v ys) (hM:∀ b,N b∨B≤b→M b):Ws M W v ys:=
 aaa.es (B:=B) ⟨h.1,fun y hy=>(h.2 y hy).axZ hM⟩ (fun g hg=>by
  rcases h.1.2 with ⟨h1,_⟩|⟨g',cap,cur,h1,hB,_⟩
  ·rw [h1] at hg;cases hg
  ·rw [h1] at hg;cases hg;exact hM _ (.inr hB))
theorem KG {B:Nat} {N:Nat→Prop} {W:World} {v:Value} {ys:List Wv} (h:oN B N W v ys) {g:Nat} (hg:v.ownBlock=some g):B≤g∧∃ cur,W.heap[g]?=some (.cells cur 51 (0,0)):=by
 rcases h.1.2 with ⟨h1,h0⟩|⟨g',cap,cur,h1,hB,h3,_⟩
 ·rw [h1] at hg;cases hg
 ·rw [h1] at hg;cases hg;exact ⟨hB,cur,h3⟩
theorem oN.keep {B:Nat} {N:Nat→Prop} {W W':World} {v:Value} {ys:List Wv} (h:oN B N W v ys) (hs:W.heap.size≤W'.heap.size) (hN:∀ b,N b→W'.heap[b]?=W.heap[b]?)
  (hc:∀ (b:Nat) (cur:Array Value) (t:TypeId) (f:Nat×Nat),B≤b→(t=5∨t=51)→W.heap[b]?=some (.cells cur t f)→W'.heap[b]?=some (.cells cur t f)):oN B N W' v ys:=by
 refine ⟨⟨h.1.1,?_⟩,fun y hy=>(h.2 y hy).keep hs hN (fun b cur f hb hcb=>hc b cur _ f hb (.inl rfl) hcb)⟩;rcases h.1.2 with h1|⟨g,cap,cur,h1,h2,h3,h4⟩
 ·exact .inl h1
 ·exact .inr ⟨g,cap,cur,h1,h2,hc g cur _ _ h2 (.inr rfl) h3,h4⟩
theorem ahb {B:Nat} {N:Nat→Prop} {w:World} {v:Value} {ys:List Wv} (h:oN B N w v ys) {x:Wv} (hx:KF N B w x) (xD:∀ b,N b→b<B) (hB:B≤w.heap.size) (hl:ys.length≤1000000000):
  ∃ g cap w',(Builtin.append_ #[27,27] 27 #[v,.slice (some ⟨w.heap.size,0,none⟩) 1 1]).run Tryz.prog (w.alloc (.cells (Kz x) 51))= .ok (.slice (some ⟨g,0,none⟩) (ys.length+1) cap) w'∧
   oN B N w' (.slice (some ⟨g,0,none⟩) (ys.length+1) cap) (ys++ [x])∧w.grownBy w' v.ownBlock:=by
 obtain ⟨i0,bK,hz0,hz1,hz2⟩:=info_parts Tryz.axW;have nj:∀ u∈ma x,u.oneCell'=true:=fun u hu=>by
  obtain ⟨a,c,hv⟩:=hx.slice;simp only [ma,List.mem_cons,List.not_mem_nil,or_false] at hu;rcases hu with rfl|rfl|rfl
  ·rfl
  ·rfl
  ·rw [hv];rfl
 have dV:(w.alloc (.cells (Kz x) 51)).heap[w.heap.size]?=some (.cells (Kz x) 51 (0,0)):=aw _ _;obtain ⟨g,cap,w',hrun,hown,hgr,_,_⟩:=run_append_lies (P:=Tryz.prog) (w.alloc (.cells (Kz x) 51)) 27 27 B 51 i0 _ 3 48 Tryz.underlying27 bK hz0 hz1 hz2 rfl (by decide) _ _ _ (ek h.1 (Grow.alloc _ _))
  ⟨w.heap.size,0,none⟩ 1 1 (ma x) rfl (fun j u hu=>World.news_of_block dV j u (by simpa [ma] using hu)) nj (by decide) (by unfold maxLen;omega) (by omega) (by simp;omega) _ rfl
 have hgb:w.grownBy w' v.ownBlock:=by
  obtain ⟨a,b,c,d,e⟩:=hgr;exact ⟨a,b,c,aN (by simp) d,fun k hk hn=>by rw [e k (by simp;omega) hn];exact heap_alloc_old _ _ hk⟩
 refine ⟨g,cap,w',hrun,⟨?_,fun y hy=> ?_⟩,hgb⟩
 ·have wT:(ys++ [x]).flatMap ma=ys.flatMap ma++ma x:=by simp
  rw [List.length_append,wT];exact hown
 ·have hy':KF N B w y:=by
   rcases List.mem_append.1 hy with h1|h1
   ·exact h.2 y h1
   ·rw [cY.1 h1];exact hx
  refine hy'.keep hgb.size (fun b hb=> ?_) (fun b cur f hb hc=> ?_)
  ·refine hgb.block b (cj (xD b hb) hB) (fun e=> ?_)
   have:=(KG h e.symm).1;have:=xD b hb;omega
  ·rw [hgb.block b (af hc) (fun e=> ?_)]
   ·exact hc
   ·obtain ⟨_,cur',h2⟩:=KG h e.symm
    rw [hc] at h2;exact absurd (cA (bB h2)).2.1 (by decide)
structure Bx (w0 W:World) (xb:Nat) (l:List UInt8):Prop where
 cell:∃ bv,W.heap[xb]?=some (.cells #[bv] 49 (0,0))∧Bv w0 bv l
 grow:Grow w0 W
 new:w0.heap.size≤xb
theorem Bx.mz {w0 W W':World} {xb:Nat} {l:List UInt8} (h:Bx w0 W xb l) (hg:Grow W W'):Bx w0 W' xb l:=by
 obtain ⟨bv,h1,h2⟩:=h.cell;exact ⟨⟨bv,hg.heap h1,h2⟩,h.grow.trans hg,h.new⟩
theorem Bx.cut {w0 W:World} {xb:Nat} {ba:Option Addr} {bc:Nat} {l:List UInt8} (h:Bx w0 W xb l) (h1:W.heap[xb]?=some (.cells #[.slice ba l.length bc] 49 (0,0))) {n:Nat} (hn:n≤l.length) {ad:Option Addr} (had:(if bc=n then ba else ba.map (fun x=>x.add n))=ad):
  Bx w0 (W.setCell ⟨xb,0,none⟩ (.slice ad (l.length-n) (bc-n))) xb (l.drop n)∧GX xb W (W.setCell ⟨xb,0,none⟩ (.slice ad (l.length-n) (bc-n))):=by
 obtain ⟨bv,h2,h3⟩:=h.cell;rw [h1] at h2;cases h2;have hb':=arV h3 hn;rw [had] at hb';exact ⟨⟨⟨_,Go.Gl.aI h1 0 _,hb'⟩,Below.setCell h.grow (p:=⟨xb,0,none⟩) h.new _,h.new⟩,Go.Gl.iJ _ _ _ _⟩
theorem Wh {w0 W:World} {xb n:Nat} {r:List UInt8} (h:Bx w0 W xb (aA n++r)) (hn:n<18446744073709551616):
  Calls Tryz.prog 100 #[.pointer (some ⟨xb,0,none⟩)] W fun e w'=>e= .returned (.int .u64 n)∧Bx w0 w' xb r∧GX xb W w':=by
 obtain ⟨bv,h1,h2⟩:=h.cell;have eR:=GW (h2.grow h.grow);rw [MW hn r] at eR;have hk:=cf n;obtain ⟨ba,bc,rfl⟩:=h2.slice;have hle:(aA n++r).length≤bc:=by obtain ⟨a',c',e',hc',_⟩:=h2;cases e';omega
 obtain ⟨ad,had⟩:∃ ad,(if bc=(aA n).length then ba else ba.map (fun x=>x.add (aA n).length))=ad:=⟨_,rfl⟩
 obtain ⟨p1,p2⟩:=h.cut h1 (n:=(aA n).length) (by simp) had;rw [List.drop_left] at p1;have c0:W.cell? ⟨xb,0,none⟩=some (.slice ba (aA n++r).length bc):=by simp [World.cell?,h1]
 have f0:∀ i,W.frozen? ⟨xb,i,none⟩=false:=fun i=>by simp [World.frozen?,h1]
 have lx:=af h1;have gF:=ae eR;have eP:(aA n).length≤(aA n++r).length:=by simp
 have Hp:=ae (ah p1 p2);clear h h1 h2 eR p1 p2;generalize (aA n++r).length=L at*;generalize (aA n).length=k at*;go_enter Tryz.func100,Tryz.ntmps100
 go_wp2_with fail
 (with_reducible refine gF.out.mono ?_);rintro e w1 ⟨rfl,bS⟩;have hw2:=bS.symm;subst hw2;clear bS gF;go_wp2;go_ret;exact ⟨rfl,Hp.out⟩
theorem ahc {w0 W:World} {xb:Nat} {x r:List UInt8} (h:Bx w0 W xb (aU x++r)) (hx:x.length≤67108864) (hr:r.length≤900000000000):
  Calls Tryz.prog 102 #[.pointer (some ⟨xb,0,none⟩)] W fun e w'=>∃ v,e= .returned v∧aG W.heap.size w' v x∧Bx w0 w' xb r∧GX xb W w':=by
 obtain ⟨bv,h1,h2⟩:=h.cell;have ic:=lO x;have hk:=cf x.length;have hbl:(aU x).length=(aA x.length).length+x.length:=by simp [aU]
 have ep:=Tx (h2.grow h.grow) hx (by omega) (m:=(aU x++r).length) (by simp only [List.length_append];omega) (by simp only [List.length_append];omega);rw [←hbl] at ep;obtain ⟨ba,bc,rfl⟩:=h2.slice;have hle:(aU x++r).length≤bc:=by obtain ⟨a',c',e',hc',_⟩:=h2;cases e';omega
 obtain ⟨ad,had⟩:∃ ad,(if bc=(aU x).length then ba else ba.map (fun z=>z.add (aU x).length))=ad:=⟨_,rfl⟩
 have eP:(aU x).length≤(aU x++r).length:=by simp
 have c0:W.cell? ⟨xb,0,none⟩=some (.slice ba (aU x++r).length bc):=by simp [World.cell?,h1]
 have lx:=af h1;have kA:=ae ep;have H1:=ae h1;have Jp:=ae (fun (w1:World) (hg:Grow W w1)=>by
  have:=(h.mz hg).cut (hg.heap h1) eP had;rw [List.drop_left] at this;exact this)
 clear h h1 h2 ep hbl hk;generalize (aU x++r).length=L at*;generalize (aU x).length=k at*;go_enter Tryz.func102,Tryz.ntmps102
 go_wp2_with fail
 (with_reducible refine kA.out.mono ?_);rintro e w1 ⟨v,rfl,ho,hg1⟩;have tI:=hg1.heap H1.out;have c1:w1.cell? ⟨xb,0,none⟩=some (.slice ba L bc):=by simp [World.cell?,tI]
 have f1:∀ i,w1.frozen? ⟨xb,i,none⟩=false:=fun i=>by simp [World.frozen?,tI]
 have lx1:=af tI;obtain ⟨p1,p2⟩:=Jp.out w1 hg1;have rS:aG W.heap.size (w1.setCell ⟨xb,0,none⟩ (.slice ad (L-k) (bc-k))) v x:=ho.keep (fun b hb=>aK _ _ _ _ (fun e=>by
  have e':b=xb:=e;have:=(ho.lt hb).1;omega))
 have bG:=ae (ah rS (ah p1 ((GX.of hg1).trans p2)));obtain ⟨va,vc,rfl⟩:=ho.slice;clear ho p1 p2 rS hg1 c0 tI H1 Jp kA;go_wp2;go_ret;exact ⟨_,rfl,bG.out⟩
end Go.Proofs.YtoolkdapflaeeaaGreatDoor
