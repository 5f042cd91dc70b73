/- Helpers. -/
import Derived.Deep.CutRange
import Derived.Deep.DeepCutAuto
import Derived.Test.YtoolkdapflaeeaaGreatDoorW0K
import Derived.Test.YtoolkdapflaeeaaGreatDoorW0J
import Derived.MapKept
set_option maxRecDepth 100000
set_option maxHeartbeats 16000000
namespace Go.Proofs.YtoolkdapflaeeaaGreatDoor
open Go.RowKit Go.Gl Go.aH Mn
structure Bt (w W:World) (xb:Nat) (l:List UInt8) (lv:Value) (ys:List Wv):Prop where
 bx:Bx w W xb l
 row:oN w.heap.size (fun _=>False) W lv ys
theorem Bt.gx {w W W':World} {xb:Nat} {l l':List UInt8} {lv:Value} {ys:List Wv} (h:Bt w W xb l lv ys) (hb:Bx w W' xb l') (hg:GX xb W W'):Bt w W' xb l' lv ys:=by
 refine ⟨hb,h.row.keep hg.size (fun b hb=>hb.elim) (fun b cur t f _ ht hc=> ?_)⟩;obtain ⟨bv,h1,_⟩:=h.bx.cell;exact hg.heap hc (fun e=>by
  subst e;rw [hc] at h1;cases h1;rcases ht with h|h<;>exact absurd h (by decide))
theorem Bt.app {w W W':World} {xb:Nat} {l:List UInt8} {lv lv':Value} {ys ys':List Wv} (h:Bt w W xb l lv ys) (hg:W.grownBy W' lv.ownBlock) (hr:oN w.heap.size (fun _=>False) W' lv' ys'):Bt w W' xb l lv' ys':=by
 obtain ⟨bv,h1,h2⟩:=h.bx.cell;refine ⟨⟨⟨bv,(hg.block xb (af h1) (fun e=> ?_)).trans h1,h2⟩,h.bx.grow.grown hg h.bx.grow.size (fun k e=>(KG h.row e).1),h.bx.new⟩,hr⟩;obtain ⟨_,cur,hc⟩:=KG h.row e.symm;rw [h1] at hc;exact absurd (cA (bB hc)).2.1 (by decide)
def SBa (xb tb:Nat) (key:ByteArray) (j:Nat) (v:Value) (_W:World):Prop:=
 match j with
 |0=>v= .func (.func 102) #[] #[.pointer (some ⟨xb,0,none⟩)]
 |2=>v= .string key
 |3=>v= .func (.func 102) #[] #[.pointer (some ⟨xb,0,none⟩)]
 |5=>v= .pointer (some ⟨tb,0,none⟩)
 |7=>v= .pointer (some ⟨tb,2,none⟩)
 |_=>True
structure sH (w W0:World) (xb tb:Nat) (key:ByteArray) (g:Bool) (val r:List UInt8) (l:Array Bool) (a:Act) (W:World):Prop where
 gx:GX xb W0 W
 xF:l.getD 1 false=false→Bx w W xb (aU key.data.toList++(aU val++r))
 xG:l.getD 1 false=true→l.getD 4 false=false→Bx w W xb (aU val++r)
 xH:l.getD 4 false=true→Bx w W xb r
 kb:l.getD 1 false=true→∃ v,a.tmps[28]?=some v∧aG W0.heap.size W v key.data.toList
 vb:l.getD 4 false=true→∃ v,a.tmps[31]?=some v∧aG W0.heap.size W v val
 box:∃ c2,W.heap[tb]?=some (.cells #[if l.getD 6 false then .string key else .string ⟨#[]⟩,.bool g,c2] 51 (0,0))∧(l.getD 8 false=true→a.tmps[31]?=some c2)
theorem sH.next {w W0:World} {xb tb:Nat} {key:ByteArray} {g:Bool} {val r:List UInt8} {l:Array Bool} {a:Act} {W W':World} {i d:Nat} {v:Value} (h:sH w W0 xb tb key g val r l a W) (hi:i≠1∧i≠4∧i≠6∧i≠8) (hd:d≠28∧d≠31) (hg:Grow W W'):sH w W0 xb tb key g val r (l.setIfInBounds i true) (a.put (some d) v) W':=
 ⟨h.gx.trans (GX.of hg),fun h1=>(h.xF (by rw [getD_set_ne false hi.1] at h1;exact h1)).mz hg,fun h1 h2=>(h.xG (by rw [getD_set_ne false hi.1] at h1;exact h1) (by rw [getD_set_ne false hi.2.1] at h2;exact h2)).mz hg,
  fun h1=>(h.xH (by rw [getD_set_ne false hi.2.1] at h1;exact h1)).mz hg,
  fun h1=>by
   obtain ⟨u,g1,g2⟩:=h.kb (by rw [getD_set_ne false hi.1] at h1;exact h1);exact ⟨u,ix hd.1 g1,g2.grow hg⟩,
  fun h1=>by
   obtain ⟨u,g1,g2⟩:=h.vb (by rw [getD_set_ne false hi.2.1] at h1;exact h1);exact ⟨u,ix hd.2 g1,g2.grow hg⟩,
  by
   obtain ⟨c2,g1,g2⟩:=h.box;rw [getD_set_ne false hi.2.2.1];exact ⟨c2,hg.heap g1,fun h1=>ix hd.2 (g2 (by rw [getD_set_ne false hi.2.2.2] at h1;exact h1))⟩⟩
theorem sH.ahe {W0:World} {xb tb:Nat} {W:World} (h:GX xb W0 W) (ht:W0.heap.size≤tb) (j:Nat) (v:Value):GX xb W0 (W.setCell ⟨tb,j,none⟩ v):=by
 obtain ⟨a,b,c,d,e⟩:=h;exact ⟨a,b,c,by simpa using d,fun k hk hn=>(aK _ _ _ _ (fun e'=>by have e2:k=tb:=e';omega)).trans (e k hk hn)⟩
theorem Bx.FI {w W:World} {xb tb:Nat} {l:List UInt8} (h:Bx w W xb l) (ht:w.heap.size≤tb) {cs:Array Value} (hb:W.heap[tb]?=some (.cells cs 51 (0,0))) (j:Nat) (v:Value):Bx w (W.setCell ⟨tb,j,none⟩ v) xb l:=by
 obtain ⟨bv,h1,h2⟩:=h.cell;exact ⟨⟨bv,(aK _ _ _ _ (fun e=>by
  have e':xb=tb:=e;subst e';rw [h1] at hb;exact absurd (cA (bB hb)).2.1 (by decide))).trans h1,h2⟩,Below.setCell h.grow (p:=⟨tb,j,none⟩) ht _,h.new⟩
theorem aG.tQ {B tb:Nat} {W:World} {u:Value} {l:List UInt8} (h:aG B W u l) {cs:Array Value} (hb:W.heap[tb]?=some (.cells cs 51 (0,0))) (j:Nat) (v:Value):aG B (W.setCell ⟨tb,j,none⟩ v) u l:=
 h.keep (fun b iW=>aK _ _ _ _ (fun e=>by
  have e':b=tb:=e;obtain ⟨cur,hc⟩:=h.block iW;rw [e',hb] at hc;exact absurd (cA (bB hc)).2.1 (by decide)))
def Wi (w:World) (xb:Nat) (ws:List Wr) (lv nv:Value) (wr:World):Prop:=
 ∃ (i:Nat) (ys:List Wv),nv= .int .u64 ((ws.length-i:Nat):Int)∧i≤ws.length∧ys.map (·.x)=ws.take i∧Bt w wr xb ((ws.drop i).flatMap jM) lv ys
theorem oN.slice {B:Nat} {N:Nat→Prop} {W:World} {v:Value} {ys:List Wv} (h:oN B N W v ys):∃ a c,v= .slice a ys.length c:=by
 rcases h.1.2 with ⟨h1,h0⟩|⟨g,cap,cur,h1,_⟩
 ·exact ⟨none,0,by rw [h1,h0]⟩
 ·exact ⟨_,_,h1⟩
theorem ahf (B:Nat) (N:Nat→Prop) (W:World):oN B N W (.slice none 0 0) []:=⟨⟨rfl,.inl ⟨rfl,rfl⟩⟩,fun y h=>by cases h⟩
theorem axY {w:World} {bv:Value} {seq:Nat} {ws:List Wr} (h:Bv w bv (lF seq ws)) (hs:seq<18446744073709551616) (kD:ws.length≤100000000) (vA:bD ws≤60000000):
  Calls Tryz.prog 54 #[bv] w fun e w'=>∃ v ys,e= .returned (.tuple #[.int .u64 (seq:Int),v])∧ys.map (·.x)=ws∧oN w.heap.size (fun _=>False) w' v ys∧Grow w w':=by
 have ai:=Grow.alloc w (.cells #[bv] 49);have eO:Bx w (w.alloc (.cells #[bv] 49)) w.heap.size (aA seq++(aA ws.length++ws.flatMap jM)):=⟨⟨bv,aw _ _,by unfold lF at h;rw [List.append_assoc] at h;exact h⟩,ai,ay _⟩
 have hc1:=Wh eO hs;obtain ⟨ba,bc,rfl⟩:=h.slice;have pn:=ae hc1;have Hwn:=ae vA;clear h ai eO hc1 vA;generalize (lF seq ws).length=RL at*;go_enter Tryz.func54,Tryz.ntmps54
 go_wp2_with fail
 generalize w.alloc (.cells #[.slice ba RL bc] 49)=w1 at*;obtain ⟨xb,gi⟩:∃ xb,xb=w.heap.size:=⟨_,rfl⟩
 rw [←gi] at pn ⊢;have tZ:=ae gi;clear gi;(with_reducible refine pn.out.mono ?_);rintro e w2 ⟨rfl,hb2,hg2⟩;have BH:=ae (Wh hb2 (n:=ws.length) (by omega));clear hb2 hg2 pn
 go_wp2_with fail
 (with_reducible refine BH.out.mono ?_);rintro e w3 ⟨rfl,hb3,hg3⟩;have bI:Hid (Wi w xb ws (.slice none 0 0) (.int .u64 (ws.length:Int)) w3):=ae ⟨0,[],by simp,bk _,rfl,by simpa using hb3,ahf _ _ _⟩;clear hb3 hg3 BH
 go_wp2_with fail
 go_loopw [3,6] (fun lv nv wr=>Wi w xb ws lv nv wr) (fun _ nv _=>(intOf nv).toNat)
 case atStart=>exact bI.out
 case round=>
  clear bI;obtain ⟨i,ys,rfl,hi,bJ,dR⟩:=hrel;have dX:ys.length=i:=by
   have:=congrArg List.length bJ;rw [List.length_map,List.length_take] at this;omega
  obtain ⟨bxv,Wj,dm⟩:=dR.bx.cell;have c0:wr.cell? ⟨xb,0,none⟩=some bxv:=by simp [World.cell?,Wj]
  have lx:=af Wj;obtain ⟨xa,xc,rfl⟩:=dm.slice;obtain ⟨la,lc,rfl⟩:=dR.row.slice;clear Wj dm;by_cases hlt:i<ws.length
  ·obtain ⟨y,hy⟩:∃ y,ws[i]?=some y:=⟨ws[i],by simp [hlt]⟩
   have hdr:(ws.drop i).flatMap jM=jM y++(ws.drop (i+1)).flatMap jM:=by
    obtain ⟨h1,rfl⟩:=dQ.1 hy;rw [List.drop_eq_getElem_cons h1,List.flatMap_cons]
   have Db:=Pk (dY hy);have qj:((ws.drop (i+1)).flatMap jM).length≤4000000000:=by
    have h1:=Ph (ws.drop (i+1));have h2:bD (ws.drop (i+1))≤bD ws:=by
     have h:=KA (ws.take (i+1)) (ws.drop (i+1));rw [List.take_append_drop] at h;omega
    have:=Hwn.out;rw [List.length_drop] at h1;omega
   have cC:=take_one hy;have aGL:=Hwn.out;obtain ⟨yk,yg,yd⟩:=y;dsimp only at Db;have dA:yk.data.toList.length=yk.size:=by rw [Array.length_toList];rfl
   have yY:0<((ws.drop i).flatMap jM).length:=by rw [hdr,List.length_append];have:=anH (sF yg);simp only [jM,List.length_append];omega
   obtain ⟨n,hn⟩:∃ n,n=ws.length-i:=⟨_,rfl⟩
   rw [←hn];have gQ:(0:Int)<(n:Int):=by omega
   obtain ⟨XL,hXL⟩:∃ x,x=((ws.drop i).flatMap jM).length:=⟨_,rfl⟩
   rw [←hXL] at c0 yY;have hX1:(0:Int)<(XL:Int):=by omega
   have aGN:IntKind.u64.wrap ((n:Int)-1)=((n-1:Nat):Int):=by simp [IntKind.wrap,IntKind.bits,IntKind.signed];omega
   obtain ⟨R,hR⟩:∃ x,x=(ws.drop (i+1)).flatMap jM:=⟨_,rfl⟩
   rw [←hR] at qj hdr;have eO:=dR.bx;rw [hdr] at eO;have iI:jM ⟨yk,yg,yd⟩++R=aA (sF yg)++(aU yk.data.toList++(aU yd++R)):=by simp [jM]
   rw [iI] at eO;have lJ:=ae (Wh eO (n:=sF yg) (by unfold sF;split<;>omega));have xM:=ae dR;have HR:=ae hR;have Hn:=ae hn;have lz:=ae cC;have Wk:=ae bJ;clear dR eO iI hdr hR hn cC bJ hXL hy dA
   go_wp2_with fail
   (with_reducible refine lJ.out.mono ?_);rintro e W0 ⟨rfl,hb0,hg0⟩;have aya:=xM.out.gx hb0 hg0;have HB0:=ae aya;have hw0:w.heap.size≤W0.heap.size:=hb0.grow.size;have lx0:xb<W0.heap.size:=by obtain ⟨bv,h1,_⟩:=hb0.cell;exact af h1
   have heq:∀ z:Nat,((z:Int)==1)=decide (z=1):=fun z=>by
    by_cases h:z=1
    ·subst h;rfl
    ·have:¬ (z:Int)=1:=by omega
     simp [h,this]
   have hgq:decide ((sF yg:Int)=1)=yg:=by cases yg<;>rfl
   have aGQ:(((sF yg:Nat):Int)==1)=yg:=by cases yg<;>rfl
   clear hb0 hg0 lJ xM c0 lx heq
   go_upto_region 8 with fail
   have dp:(W0.alloc (.cells #[.string ⟨#[]⟩,.bool yg,.slice none 0 0] 51)).heap[W0.heap.size]?=some (.cells #[.string ⟨#[]⟩,.bool yg,.slice none 0 0] 51 (0,0)):=aw _ _;have aM:Grow W0 (W0.alloc (.cells #[.string ⟨#[]⟩,.bool yg,.slice none 0 0] 51)):=Grow.alloc _ _;generalize W0.alloc (.cells #[.string ⟨#[]⟩,.bool yg,.slice none 0 0] 51)=W1 at*;obtain ⟨tb,FJ⟩:∃ tb,tb=W0.heap.size:=⟨_,rfl⟩
   rw [←FJ] at dp ⊢;have Px:W0.heap.size≤tb:=Nat.le_of_eq FJ.symm;clear FJ;refine uD (fun a0 ha0=> ?_);have F5:a0.tmps[5]?=some (.func (.func 102) #[] #[.pointer (some ⟨xb,0,none⟩)]):=by rw [ha0];rfl
   have F7:a0.tmps[7]?=some (.pointer (some ⟨tb,0,none⟩)):=by rw [ha0];rfl
   have hsz:a0.tmps.size=40:=by rw [ha0];rfl
   have mC:=ae ha0;have hgd:=aM.trans (Grow.drew W1);have fw:=ae ((Grow.drew W1).heap dp);clear ha0 aM dp;refine uG (SBa xb tb yk) (sH w W0 xb tb yk yg yd R) (fun _ _=>True) [27,28,29,30,31,32,33] (by kernel_rfl) (by kernel_rfl) (by rw [hsz];rfl) (fun j v W W' _ h=>h) ⟨GX.of hgd,fun _=>HB0.out.bx.mz hgd,(fun h=>by cases h),(fun h=>by cases h),(fun h=>by cases h),(fun h=>by cases h),_,fw.out,(fun h=>by cases h)⟩ ?_ (fun a1 W2 hf=> ?_);rotate_left
   ·obtain ⟨c2,jZ,hc2⟩:=hf.world.box
    have CW:W2.heap[tb]?=some (.cells #[.string yk,.bool yg,c2] 51 (0,0)):=jZ;obtain ⟨vv,vM,sf⟩:=hf.world.vb rfl;have OI:=hc2 rfl;rw [vM] at OI;cases OI;have hgx:=hf.world.gx;have Py:=HB0.out.gx (hf.world.xH rfl) hgx;have e:=hf.alike.fill;rw [mC.out] at e;simp only [List.foldl_cons,List.foldl_nil,Act.put,List.setIfInBounds_toArray,List.set_cons_zero,List.set_cons_succ] at e;obtain ⟨u27,KB⟩:∃ u,a1.tmps.getD 27 undef=u:=⟨_,rfl⟩
    obtain ⟨u28,KC⟩:∃ u,a1.tmps.getD 28 undef=u:=⟨_,rfl⟩
    obtain ⟨u29,zA⟩:∃ u,a1.tmps.getD 29 undef=u:=⟨_,rfl⟩
    obtain ⟨u30,zB⟩:∃ u,a1.tmps.getD 30 undef=u:=⟨_,rfl⟩
    obtain ⟨u31,zC⟩:∃ u,a1.tmps.getD 31 undef=u:=⟨_,rfl⟩
    obtain ⟨u32,zD⟩:∃ u,a1.tmps.getD 32 undef=u:=⟨_,rfl⟩
    obtain ⟨u33,zE⟩:∃ u,a1.tmps.getD 33 undef=u:=⟨_,rfl⟩
    rw [KB,KC,zA,zB,zC,zD,zE] at e;clear hf jZ hc2 vM KB KC zA zB zC zD zE;rw [e];clear e mC F5 F7 hsz fw hgd;obtain ⟨t0,t1,t2⟩:=vP CW;have Ea:=af CW;have KH:aG w.heap.size W2 c2 yd:=sf.mono hw0;have UB:KF (fun _=>False) w.heap.size W2 ⟨⟨yk,yg,yd⟩,c2⟩:=⟨cy KH,.inr (fun b hb=> .inr ⟨(KH.lt hb).1,by obtain ⟨cur,hc⟩:=KH.block hb;exact ⟨cur,_,hc⟩⟩)⟩
    obtain ⟨gb,Wl,W3,hrun,hrow3,hg3⟩:=ahb Py.row UB (fun b hb=>hb.elim) (aN Py.bx.grow.size (ay _)) (by omega);have ahj:=Py.app hg3 hrow3;have bq:Hid (Wi w xb ws (.slice (some ⟨gb,0,none⟩) (i+1) Wl) (.int .u64 ((n-1:Nat):Int)) W3):=ae ⟨i+1,ys++ [⟨⟨yk,yg,yd⟩,c2⟩],by rw [Hn.out,Nat.sub_sub],hlt,by rw [List.map_append,Wk.out,lz.out];rfl,by rw [←HR.out,←dX];exact ahj⟩;rw [dX] at hrun;have dC:=ae hrun;have aGR:Hid (∀ u:Nat,u≤u):=ae (fun u=>ay u);obtain ⟨wa,wc,rfl⟩:=KH.slice;clear ahj hrow3 hg3 hrun Py sf KH UB CW hgx
    go_wp2_with (at_builtin;refine fC rfl rfl rfl rfl dC.out ?_)
    go_roundw
    case rel=>exact bq.out
    case measure=>simp [intOf];omega
   refine ⟨?_,?_,?_,?_,?_,?_,?_,?_,?_,True.intro⟩
   ·intro listed a V hf ar ak
    have hs1:a.tmps.size=40:=hf.alike.size.trans hsz;have hT:=hf.world;have G5:a.tmps[5]'(by rw [hs1];decide)= .func (.func 102) #[] #[.pointer (some ⟨xb,0,none⟩)]:=ax ((hf.alike.same 5 (by decide)).trans F5) _;refine aX rfl (by rfl) (fun K' hK'=> ?_);go_simp;exact hK' _ _ ⟨_,rfl,(fun _ _=>rfl),True.intro,sH.next hT (by decide) (by decide) (Grow.refl _)⟩
   ·intro listed a V hf ar ak
    have hs1:a.tmps.size=40:=hf.alike.size.trans hsz;have hT:=hf.world;obtain ⟨v0,s0,q0⟩:=hf.slot 0 27 rfl (aJ ak 0 (by kernel_rfl));have kZ:v0=_:=q0;subst kZ;have G27:=ax s0 (by rw [hs1];decide);have gQ:listed.getD 1 false=false:=by
     rw [fI] at ar ⊢;cases hx:listed[1]? with
     |none=>rw [hx] at ar;cases ar
     |some b=>rw [hx] at ar;exact ar
    have xK:=dZ hf.closed (n:=8) (e:=4) (i:=1) (by kernel_rfl) ar;refine jc rfl (by rfl) (by go_simp) (ahc (hT.xF gQ) (by rw [Array.length_toList];show yk.size≤_;omega) (by have:=lO yd;simp only [List.length_append];omega)) ?_;rintro e V2 ⟨v,rfl,ho,aY,hgx⟩;have hlen:1<listed.size:=by rw [hf.size];decide
    have Dc:W0.heap.size≤V.heap.size:=hT.gx.size;refine ⟨_,rfl,_,rfl,(fun _ _=>True.intro),True.intro,hT.gx.trans hgx,(fun h=>by rw [mO hlen] at h;cases h),(fun _ _=>aY),(fun h=>by rw [getD_set_ne false (by decide)] at h;rw [xK] at h;cases h),(fun _=>⟨v,uF (by rw [hs1];decide),ho.mono Dc⟩),(fun h=>by rw [getD_set_ne false (by decide)] at h;rw [xK] at h;cases h),?_⟩;obtain ⟨c2,g1,g2⟩:=hT.box;rw [getD_set_ne false (by decide)];refine ⟨c2,hgx.heap g1 (fun e=> ?_),fun h1=>ix (by decide) (g2 (by rw [getD_set_ne false (by decide)] at h1;exact h1))⟩;omega
   ·intro listed a V hf ar ak
    have hs1:a.tmps.size=40:=hf.alike.size.trans hsz;have hT:=hf.world;obtain ⟨v,s1,hb⟩:=hT.kb (aJ ak 1 (by kernel_rfl));have G28:=ax s1 (by rw [hs1];decide);have hcv:=wN (cy hb);have hka:(⟨yk.data.toList.toArray⟩:ByteArray)=yk:=by simp
    rw [hka] at hcv;refine aX rfl (by rfl) (fun K' hK'=> ?_);go_simp;exact hK' _ _ ⟨_,rfl,(fun _ _=>rfl),True.intro,sH.next hT (by decide) (by decide) (Grow.refl _)⟩
   ·intro listed a V hf ar ak
    have hs1:a.tmps.size=40:=hf.alike.size.trans hsz;have hT:=hf.world;have G5:a.tmps[5]'(by rw [hs1];decide)= .func (.func 102) #[] #[.pointer (some ⟨xb,0,none⟩)]:=ax ((hf.alike.same 5 (by decide)).trans F5) _;refine aX rfl (by rfl) (fun K' hK'=> ?_);go_simp;exact hK' _ _ ⟨_,rfl,(fun _ _=>rfl),True.intro,sH.next hT (by decide) (by decide) (Grow.refl _)⟩
   ·intro listed a V hf ar ak
    have hs1:a.tmps.size=40:=hf.alike.size.trans hsz;have hT:=hf.world;obtain ⟨v3,s3,q3⟩:=hf.slot 3 30 rfl (aJ ak 3 (by kernel_rfl));have qF:v3=_:=q3;subst qF;have G30:=ax s3 (by rw [hs1];decide);have xK:listed.getD 4 false=false:=by
     rw [fI] at ar ⊢;cases hx:listed[4]? with
     |none=>rw [hx] at ar;cases ar
     |some b=>rw [hx] at ar;exact ar
    have ui:=aJ ak 1 (by kernel_rfl);have jL:=dZ hf.closed (n:=8) (e:=8) (i:=4) (by kernel_rfl) ar;refine jc rfl (by rfl) (by go_simp) (ahc (hT.xG ui xK) (by omega) (by omega)) ?_;rintro e V2 ⟨v,rfl,ho,aY,hgx⟩;have hlen:4<listed.size:=by rw [hf.size];decide
    have Dc:W0.heap.size≤V.heap.size:=hT.gx.size;refine ⟨_,rfl,_,rfl,(fun _ _=>True.intro),True.intro,hT.gx.trans hgx,(fun h=>by rw [getD_set_ne false (by decide),ui] at h;cases h),(fun _ h=>by rw [mO hlen] at h;cases h),(fun _=>aY),(fun h=> ?_),(fun _=>⟨v,uF (by rw [hs1];decide),ho.mono Dc⟩),?_⟩
    ·obtain ⟨u,g1,g2⟩:=hT.kb ui
     exact ⟨u,ix (by decide) g1,g2.keep (fun b hb=>by
      obtain ⟨cur,hc⟩:=g2.block hb;obtain ⟨bv,hx1,_⟩:=(hT.xG ui xK).cell;exact (hgx.heap hc (fun e=>by
       rw [e,hx1] at hc;exact absurd (cA (bB hc)).2.1 (by decide))).trans hc.symm)⟩
    ·obtain ⟨c2,g1,g2⟩:=hT.box
     rw [getD_set_ne false (by decide)];refine ⟨c2,hgx.heap g1 (fun e=>by omega),fun h1=> ?_⟩;rw [getD_set_ne false (by decide),jL] at h1;cases h1
   ·intro listed a V hf ar ak
    have hs1:a.tmps.size=40:=hf.alike.size.trans hsz;have hT:=hf.world;have G7:a.tmps[7]'(by rw [hs1];decide)= .pointer (some ⟨tb,0,none⟩):=ax ((hf.alike.same 7 (by decide)).trans F7) _;obtain ⟨c2,g1,g2⟩:=hT.box;have lb:=af g1;refine aX rfl (by rfl) (fun K' hK'=> ?_);go_simp;exact hK' _ _ ⟨_,rfl,(fun _ _=>rfl),True.intro,sH.next hT (by decide) (by decide) (Grow.refl _)⟩
   ·intro listed a V hf ar ak
    have hs1:a.tmps.size=40:=hf.alike.size.trans hsz;have hT:=hf.world;obtain ⟨v5,s5,q5⟩:=hf.slot 5 32 rfl (aJ ak 5 (by kernel_rfl));have tk:v5=_:=q5;subst tk;have G32:=ax s5 (by rw [hs1];decide);obtain ⟨v2,s2,q2⟩:=hf.slot 2 29 rfl (aJ ak 2 (by kernel_rfl));have od:v2=_:=q2;subst od;have G29:=ax s2 (by rw [hs1];decide);have NI:listed.getD 6 false=false:=by
     rw [fI] at ar ⊢;cases hx:listed[6]? with
     |none=>rw [hx] at ar;cases ar
     |some b=>rw [hx] at ar;exact ar
    obtain ⟨c2,g1,g2⟩:=hT.box;have lb:=af g1;have fb:∀ i,V.frozen? ⟨tb,i,none⟩=false:=fun i=>by simp [World.frozen?,g1]
    obtain ⟨Ca,Cb,Cc⟩:=vP g1;have cE:=Go.Gl.aI g1 0 (.string yk);have hlen:6<listed.size:=by rw [hf.size];decide
    have hwt:w.heap.size≤tb:=aN hw0 Px;refine aX rfl (by rfl) (fun K' hK'=> ?_);go_simp;refine hK' _ _ ⟨undef,rfl,(fun _ h=>by cases h),True.intro,sH.ahe hT.gx Px 0 _,(fun h=>(hT.xF (by rw [getD_set_ne false (by decide)] at h;exact h)).FI hwt g1 0 _),(fun h1 h2=>(hT.xG (by rw [getD_set_ne false (by decide)] at h1;exact h1) (by rw [getD_set_ne false (by decide)] at h2;exact h2)).FI hwt g1 0 _),(fun h=>(hT.xH (by rw [getD_set_ne false (by decide)] at h;exact h)).FI hwt g1 0 _),(fun h=> ?_),(fun h=> ?_),c2,?_,(fun h=>g2 (by rw [getD_set_ne false (by decide)] at h;exact h))⟩
    ·obtain ⟨u,k1,k2⟩:=hT.kb (by rw [getD_set_ne false (by decide)] at h;exact h)
     exact ⟨u,k1,k2.tQ g1 0 _⟩
    ·obtain ⟨u,k1,k2⟩:=hT.vb (by rw [getD_set_ne false (by decide)] at h;exact h)
     exact ⟨u,k1,k2.tQ g1 0 _⟩
    ·rw [mO hlen,if_pos rfl]
     exact cE
   ·intro listed a V hf ar ak
    have hs1:a.tmps.size=40:=hf.alike.size.trans hsz;have hT:=hf.world;have G7:a.tmps[7]'(by rw [hs1];decide)= .pointer (some ⟨tb,0,none⟩):=ax ((hf.alike.same 7 (by decide)).trans F7) _;obtain ⟨c2,g1,g2⟩:=hT.box;have lb:=af g1;refine aX rfl (by rfl) (fun K' hK'=> ?_);go_simp;exact hK' _ _ ⟨_,rfl,(fun _ _=>rfl),True.intro,sH.next hT (by decide) (by decide) (Grow.refl _)⟩
   ·intro listed a V hf ar ak
    have hs1:a.tmps.size=40:=hf.alike.size.trans hsz;have hT:=hf.world;obtain ⟨v7,s7,q7⟩:=hf.slot 7 33 rfl (aJ ak 7 (by kernel_rfl));have BV:v7=_:=q7;subst BV;have G33:=ax s7 (by rw [hs1];decide);have jL:listed.getD 8 false=false:=by
     rw [fI] at ar ⊢;cases hx:listed[8]? with
     |none=>rw [hx] at ar;cases ar
     |some b=>rw [hx] at ar;exact ar
    obtain ⟨u,s4,ho⟩:=hT.vb (aJ ak 4 (by kernel_rfl));have G31:=ax s4 (by rw [hs1];decide);obtain ⟨ua,uc,rfl⟩:=ho.slice;obtain ⟨c2,g1,g2⟩:=hT.box;have lb:=af g1;have fb:∀ i,V.frozen? ⟨tb,i,none⟩=false:=fun i=>by simp [World.frozen?,g1]
    obtain ⟨Ca,Cb,Cc⟩:=vP g1;have cE:=Go.Gl.aI g1 2 (.slice ua yd.length uc);have hlen:8<listed.size:=by rw [hf.size];decide
    have hwt:w.heap.size≤tb:=aN hw0 Px;refine aX rfl (by rfl) (fun K' hK'=> ?_);go_simp;refine hK' _ _ ⟨undef,rfl,(fun _ h=>by cases h),True.intro,sH.ahe hT.gx Px 2 _,(fun h=>(hT.xF (by rw [getD_set_ne false (by decide)] at h;exact h)).FI hwt g1 2 _),(fun h1 h2=>(hT.xG (by rw [getD_set_ne false (by decide)] at h1;exact h1) (by rw [getD_set_ne false (by decide)] at h2;exact h2)).FI hwt g1 2 _),(fun h=>(hT.xH (by rw [getD_set_ne false (by decide)] at h;exact h)).FI hwt g1 2 _),(fun h=> ?_),(fun h=> ?_),.slice ua yd.length uc,?_,(fun h=>s4)⟩
    ·obtain ⟨u,k1,k2⟩:=hT.kb (by rw [getD_set_ne false (by decide)] at h;exact h)
     exact ⟨u,k1,k2.tQ g1 2 _⟩
    ·exact ⟨_,s4,ho.tQ g1 2 _⟩
    ·rw [getD_set_ne false (by decide)]
     exact cE
  ·obtain rfl:i=ws.length:=by omega
   have gD:ws.length-ws.length=0:=Nat.sub_self _;rw [List.take_length] at bJ;have pL:=ae dR.row;have HG:=ae dR.bx.grow;have Wk:=ae bJ;rw [gD];clear dR bJ;go_wp2;refine bodyPost_ret (v:= .tuple #[.int .u64 (seq:Int),.slice la ys.length lc]) ?_ rfl ?_
   ·simp [results,Tryz.results54,go_sem]
   ·exact ⟨_,ys,rfl,Wk.out,pL.out,HG.out⟩
end Go.Proofs.YtoolkdapflaeeaaGreatDoor
namespace Go.Proofs.YtoolkdapflaeeaaGreatDoor
open Go.RowKit Go.Gl Go.aH Mn
attribute [local go_sem] Oper.semAt_some
theorem ayb {l:List En} {up:Nat} (h:∀ e∈l,e.seq≤up):gq ⟨⟨#[]⟩,up,false,[]⟩ l=l:=by
 unfold gq;cases l with
 |nil=>rfl
 |cons a l=>
  rw [List.dropWhile_cons,if_neg];simp only [decide_eq_true_eq];rw [Cu];rintro (h1|⟨_,h1⟩)
  ·simp at h1
  ·have:=h a (eQ ..)
   simp only at h1;omega
theorem ayc {N:Nat→Prop} {w:World} {tb ha:Nat} {ns:List Nd} {aM:Nat} {dv:Value} {ds:List Int} (h:cX N w tb ha ns aM dv ds) (hN:∀ b,N b→b<w.heap.size) (hlen:ns.length≤1000000000):
  Calls Tryz.prog 75 #[au tb] w fun e w'=>OX N w (ns.map (fun n=>n.x.e)) e w' 180:=by
 have Hf:=ae (axa h hN hlen ⟨#[]⟩);rw [ayb (l:=ns.map (fun n=>n.x.e)) (fun e he=>by
  obtain ⟨n,hn,rfl⟩:=List.mem_map.1 he;have:=(h.skip.vals n hn).2;omega)] at Hf
 clear h hN;go_enter Tryz.func75,Tryz.ntmps75
 go_wp2_with fail
 (with_reducible refine Hf.out.mono ?_);rintro e w' ⟨Bl,ys,v,rfl,h1⟩;have H1:=ae h1;clear h1;go_wp2;go_ret;exact ⟨Bl,ys,v,rfl,H1.out⟩
theorem Pz {F:Fence} {n:Nat} {P:Program} {fn:Func} {t t':Array Value} {R:Ending→World→Prop} (h:∀ w,(results fn t).run P w=(results fn t').run P w):∀ (ds:List Deferred) (u:FrameMode) (w:World),LeavesInM F n P fn t R ds u w→LeavesInM F n P fn t' R ds u w
 | [],.returning,w,hl=>by
  obtain ⟨v,h1,h2⟩:=hl;exact ⟨v,(h w).symm.trans h1,h2⟩
 | [],.panicking _,_,hl=>hl
 | [],.run,_,hl=>hl
 |d::ds,u,w,hl=>by
  obtain ⟨h0,hl⟩:=hl;refine ⟨h0,?_⟩;rcases hl with ⟨r,w',h1,h2,h3⟩|⟨h1,fv,cap,f,args,h2,h3,h4,h5⟩
  ·exact .inl ⟨r,w',h1,h2,Pz h ds u w' h3⟩
  ·refine .inr ⟨h1,fv,cap,f,args,h2,h3,h4,h5.mono fun e u' w' he=> ?_⟩
   cases e with
   |returned v=>exact Pz h ds _ _ he
   |panicked ch=>exact Pz h ds _ _ he
   |outgrown=>exact he
theorem ayd {R:Ending→World→Prop} {c:List PanicEntry} {a:Act} {d:Option Nat} {v:Value} {w:World} (h2:d≠some 6) (h3:d≠some 7)
  (h:bodyPostM Fence.wide 4 Tryz.prog Tryz.f272 R (.panic c) (a.put d v) w):bodyPostM Fence.wide 4 Tryz.prog Tryz.f272 R (.panic c) a w:=by
 cases d with
 |none=>exact h
 |some d=>
  have e2:d≠6:=fun e=>h2 (by rw [e])
  have e3:d≠7:=fun e=>h3 (by rw [e])
  refine Pz (fun w=> ?_) _ _ _ h;simp [results,Tryz.results272,Act.put,Array.getElem?_setIfInBounds,e2,e3]
def Wm (w:World) (b:Option En) (e:Ending) (w':World):Prop:=
 (match b with
  |none=>e= .returned (.tuple #[.agg #[.string ⟨#[]⟩,.int .u64 0,.bool false,.slice none 0 0],.bool false])
  |some x=>∃ sv,e= .returned (.tuple #[.agg (bQ ⟨x,sv⟩),.bool true])∧aG w.heap.size w' sv x.val)∧Grow w w'
theorem aye {N:Nat→Prop} {w:World} {tb ha:Nat} {ns:List Nd} {aM:Nat} {dv:Value} {ds:List Int} (h:cX N w tb ha ns aM dv ds) (hN:∀ b,N b→b<w.heap.size) (hval:∀ n∈ns,n.x.e.val.length≤1000000000000) (key:ByteArray) {up:Nat} (_hup:up<18446744073709551616):
  Calls Tryz.prog 272 #[au tb,.string key,.int .u64 up] w (Wm w (eK key up (ns.map (fun n=>n.x.e)))):=by
 refine (callsIn_wide (n:=4)).1 (callsIn_of_wp_marks Tryz.func272 rfl trivial ?_ rfl);simp only [Tryz.ntmps272,List.size_toArray,List.length_cons,List.length_nil,Nat.reduceAdd,Nat.reduceSub,Array.replicate_succ,Array.replicate_zero,List.push_toArray,List.append_toArray,List.nil_append,List.cons_append];refine wpIn_wide.2 ?_;have h1:=Grow.alloc w (.cells #[.string key] 9);have h2:=Grow.alloc (w.alloc (.cells #[.string key] 9)) (.cells #[.string ⟨#[]⟩,.int .u64 0,.bool false,.slice none 0 0] 60);have h3:=Grow.alloc ((w.alloc (.cells #[.string key] 9)).alloc (.cells #[.string ⟨#[]⟩,.int .u64 0,.bool false,.slice none 0 0] 60)) (.cells #[.bool false] 4);have a1:=h3.heap (h2.heap (aw w (.cells #[.string key] 9)));have a2:=h3.heap (aw (w.alloc (.cells #[.string key] 9)) (.cells #[.string ⟨#[]⟩,.int .u64 0,.bool false,.slice none 0 0] 60));have a3:=aw ((w.alloc (.cells #[.string key] 9)).alloc (.cells #[.string ⟨#[]⟩,.int .u64 0,.bool false,.slice none 0 0] 60)) (.cells #[.bool false] 4);simp only [World.size_alloc] at a2 a3;have hg3:=h1.trans (h2.trans h3);have Wn:(((w.alloc (.cells #[.string key] 9)).alloc (.cells #[.string ⟨#[]⟩,.int .u64 0,.bool false,.slice none 0 0] 60)).alloc (.cells #[.bool false] 4)).heap.size=w.heap.size+3:=by simp
 obtain ⟨w3,hw3⟩:∃ w3,((w.alloc (.cells #[.string key] 9)).alloc (.cells #[.string ⟨#[]⟩,.int .u64 0,.bool false,.slice none 0 0] 60)).alloc (.cells #[.bool false] 4)=w3:=⟨_,rfl⟩
 rw [hw3] at a1 a2 a3 hg3 Wn;have hM:=h.grow hg3;have ltb:=af hM.self;have k0:w3.cell? ⟨w.heap.size,0,none⟩=some (.string key):=by simp [World.cell?,a1]
 have lk:=af a1;have H:=ae (ah hM (ah hN (ah hval h.skip.ord)));have Ha:=ae (ah a1 (ah a2 (ah a3 (ah hg3 Wn))));clear h1 h2 h3 a1 a2 a3 hg3 Wn hM h hN hval
 go_upto_region 1 with fail
 clear hw3;have aQ:=Grow.cells (w:=w3);refine aww (fun V=>Below w3.heap.size w3 V) [(0,false),(1,false),(2,false),(3,false),(4,false),(5,false),(6,true)] (by kernel_rfl) (by kernel_rfl) (fun c a o v w ho hq=>by
  simp only [List.mem_cons,List.not_mem_nil,or_false] at ho;rcases ho with rfl|rfl|rfl|rfl|rfl|rfl|rfl<;>exact ayd (by decide) (by decide) hq) (by (repeat (first|exact Below.refl _ _|assumption|refine Below.drew ?_|refine cp ?_|refine Below.setCell ?_ (by first|omega|(simp<;>omega)) _|refine Below.alloc ?_ (by first|omega|(simp<;>omega)) _))) ?_
 simp only [aP,nth]
 repeat (first|(refine aB (v:= ?_) (by rfl) ?_ ?_;rotate_left;(rintro W hW;go_simp;with_reducible rfl);simp only [ag,List.set])|(refine aC (by rfl) ?_;simp only [ag,List.set]))
 refine bj (by rfl) (by go_simp) (agc w3.drew tb key up false none 0 0) ?_;rintro e w4 ⟨rfl,hw4⟩;have tY:Grow w3 w4:=by rw [hw4];exact (Grow.drew w3).trans ((Grow.alloc _ _).trans (Grow.alloc _ _))
 have hb1:w4.heap[w3.heap.size]?=some (.cells #[au tb] 286 (0,0)):=by
  rw [hw4];exact (heap_alloc_old _ _ (by simp)).trans (aw w3.drew _)
 have hb2:w4.heap[w3.heap.size+1]?=some (.cells (bQ (vN key up)) 60 (0,0)):=by
  rw [hw4];have:=aw (w3.drew.alloc (.cells #[au tb] 286)) (.cells (bQ (vN key up)) 60);simpa using this
 clear hw4 aQ;refine ⟨_,rfl,tY,?_⟩
 try first|simp only [ag,List.set]|simp only [aD]
 refine bm ?_;have hM4:=H.out.1.grow tY;have hseq:=afM hM4 (vN key up) (xa:=none) (xl:=0) (xc:=0) rfl hb1 hb2;have a1:=tY.heap Ha.out.1;have a2:=tY.heap Ha.out.2.1;have a3:=tY.heap Ha.out.2.2.1;have KI:=Ha.out.2.2.2.1.trans tY;have s4:=tY.size;have RS:=af hb2;have ayf:w3.drew.heap.size=w3.heap.size:=rfl;rw [ayf]
 go_wp2_with fail
 have tV:=H.out.2.2.2;have xO:eK key up (ns.map (fun n=>n.x.e))=match (fk ⟨key,up,false,[]⟩ ns).map Nd.x with| []=>none|y::_=>if y.e.key=key then some y.e else none:=by
  rw [aep tV];have h1:=CA (spot key up) ns;show (match gq (spot key up) (ns.map (fun n=>n.x.e)) with| []=>none|e::_=>if e.key=key then some e else none)=_;rw [←h1];show (match (fk (spot key up) ns).map (fun n=>n.x.e) with| []=>none|e::_=>if e.key=key then some e else none)=match (fk (spot key up) ns).map Nd.x with| []=>none|y::_=>if y.e.key=key then some y.e else none
  cases fk (spot key up) ns with
  |nil=>rfl
  |cons n r=>rfl
 have KJ:=ae xO;have ahl:∀ y∈(fk ⟨key,up,false,[]⟩ ns).map Nd.x,y.e.val.length≤1000000000000:=fun y hy=>by
  obtain ⟨n,hn,rfl⟩:=List.mem_map.1 hy;exact H.out.2.2.1 n (by rw [←iZ ⟨key,up,false,[]⟩ ns];exact mg _ hn)
 have HV:=ae ahl;clear xO tV ahl hM4 hb1 hb2;generalize eM:(fk ⟨key,up,false,[]⟩ ns).map Nd.x=xs at*;clear eM;refine afK (gf:=216) (lb:=#[.pointer (some ⟨w3.heap.size,0,none⟩),.pointer (some ⟨w3.heap.size+1,0,none⟩)]) rfl (enters_of Tryz.func216 (by kernel_rfl) rfl) (R:=Rt N) (N:=fun b=>N b∨FM tb ha ns b∨b=w3.heap.size∨b=w3.heap.size+1) (xs:=xs) hseq (Kp.refl _ _) (fun b hb=>by
   rcases hb with hb|hb|rfl|rfl
   ·have:=H.out.2.1 b hb;omega
   ·have:=H.out.1.lt hb;omega
   ·omega
   ·omega) (fun x v W h=>by rw [h.1];rfl) (fun x v=>agd (fun b hb=>by have:=H.out.2.1 b hb;omega) x v)
  (fun pre W=>pre= []∧W.heap[w.heap.size]?=some (.cells #[.string key] 9 (0,0))∧W.heap[w.heap.size+1]?=some (.cells #[.string ⟨#[]⟩,.int .u64 0,.bool false,.slice none 0 0] 60 (0,0))∧W.heap[w.heap.size+2]?=some (.cells #[.bool false] 4 (0,0))∧Below w.heap.size w W)
  (fun c pre W=>∃ x,pre= [x]∧Below w.heap.size w W∧((c= .exit 0∧x.e.key≠key∧W.heap[w.heap.size+1]?=some (.cells #[.string ⟨#[]⟩,.int .u64 0,.bool false,.slice none 0 0] 60 (0,0))∧W.heap[w.heap.size+2]?=some (.cells #[.bool false] 4 (0,0)))∨
   (c= .ret∧x.e.key=key∧∃ sv,W.heap[w.heap.size+1]?=some (.cells (bQ ⟨x.e,sv⟩) 60 (0,0))∧W.heap[w.heap.size+2]?=some (.cells #[.bool true] 4 (0,0))∧aG w.heap.size W sv x.e.val)))
  ?hI ?CR ⟨rfl,a1,a2,a3,KI⟩ ?round ?done ?stop
 case hI=>
  rintro pre W W' row ⟨rfl,h1,h2,h3,h4⟩ hg hr;exact ⟨rfl,sD hg hr h1,sD hg hr h2,sD hg hr h3,h4.grown hg h4.size (fun k e=>by have:=(hr k e).1;omega)⟩
 case CR=>
  rintro c pre W W' row ⟨x,rfl,h4,h5⟩ hg hr;refine ⟨x,rfl,h4.grown hg h4.size (fun k e=>by have:=(hr k e).1;omega),?_⟩;rcases h5 with ⟨h1,h2,h3,h5⟩|⟨h1,h2,sv,h3,h5,h6⟩
  ·exact .inl ⟨h1,h2,sD hg hr h3,sD hg hr h5⟩
  ·refine .inr ⟨h1,h2,sv,sD hg hr h3,sD hg hr h5,h6.keep (fun g hgb=> ?_)⟩
   obtain ⟨cur,hc⟩:=h6.block hgb;rw [sD hg hr hc,hc]
 case round=>
  rintro l pre x rest v W eM hl hW ⟨rfl,k1,k2,k3,k4⟩ ⟨rfl,dm⟩;obtain ⟨xa,xc,iH⟩:=dm.slice;obtain ⟨⟨xk,xs',xg,xd⟩,xv⟩:=x;simp only at iH;subst iH;have HW:=ae (ah k1 (ah k2 (ah k3 (ah k4 dm))));have oI:=ae eM;clear eM k1 k2 k3 k4 dm hseq a1 a2 a3 KI;gi_wp2;refine ⟨Grow.alloc _ _,fun W2 hs2 hc2 Ey Fw=> ?_⟩;have jg:=hc2 _ _ _ _ (aw W (.cells #[.string xk,.int .u64 xs',.bool xg,.slice xa xd.length xc] 60));obtain ⟨_,k1,k2,k3,k4⟩:=Ey;have dm:=Fw.2;have d0:W2.cell? ⟨w.heap.size,0,none⟩=some (.string key):=by simp [World.cell?,k1]
  have ld:=af k1;obtain ⟨q0,q1,q2,q3⟩:=cK jg;have lq:=af jg;by_cases hk:xk=key
  ·subst hk
   have ic:=HV.out ⟨⟨xk,xs',xg,xd⟩,.slice xa xd.length xc⟩ (by rw [oI.out];simp);have eG:=ae (aeC dm ic);have Hk:=ae (ah k2 (ah k3 (ah k4 True.intro)));clear k1 k2 k3 k4 dm ic jg hc2 Fw hs2
   gi_wp2_with (refine ⟨trivial,?_⟩;gi_at_call 181;refine (CallsIn.inRound l (callsIn_wide.2 eG.out)).mono ?_;rintro e w5 ⟨v',rfl,ho,aO⟩;obtain ⟨va,vc,rfl⟩:=Go.Gl.Row1.slice ho;rw [iL] at ho ⊢;have r2:=aO.heap Hk.out.1;have r3:=aO.heap Hk.out.2.1;obtain ⟨e0,e1,e2,e3⟩:=cK r2;have le:=af r2;have fe:∀ i,w5.frozen? ⟨w.heap.size+1,i,none⟩=false:=(fun i=>by simp [World.frozen?,r2]);have g0:w5.cell? ⟨w.heap.size+2,0,none⟩=some (.bool false):=(by simp [World.cell?,r3]);have lg:=af r3;have fg:w5.frozen? ⟨w.heap.size+2,0,none⟩=false:=(by simp [World.frozen?,r3]))
   have ayg:w.heap.size+2≠w.heap.size+1:=by omega
   have Sl:w.heap.size+1≠w.heap.size+2:=by omega
   have y1:=zV (v0:= .string xk) (v1:= .int .u64 xs') (v2:= .bool xg) (v3:= .slice va xd.length vc) r2;have y2:=(qR (w:=w5) ayg (.string xk) (.int .u64 xs') (.bool xg) (.slice va xd.length vc)).trans r3;have y3:=Go.Gl.aI y2 0 (.bool true);have y4:=(aK (iG w5 (w.heap.size+1) (.string xk) (.int .u64 xs') (.bool xg) (.slice va xd.length vc)) ⟨w.heap.size+2,0,none⟩ (.bool true) (w.heap.size+1) Sl).trans y1;have hle:w.heap.size≤w.heap.size+1:=by omega
   have ayh:w.heap.size≤w.heap.size+2:=by omega
   have dG:Below w.heap.size w w5:=Hk.out.2.2.1.trans (aO.mono Hk.out.2.2.1.size);have ayi:=((((dG.setCell (p:=⟨w.heap.size+1,0,none⟩) hle (.string xk)).setCell (p:=⟨w.heap.size+1,1,none⟩) hle (.int .u64 xs')).setCell (p:=⟨w.heap.size+1,2,none⟩) hle (.bool xg)).setCell (p:=⟨w.heap.size+1,3,none⟩) hle (.slice va xd.length vc)).setCell (p:=⟨w.heap.size+2,0,none⟩) ayh (.bool true);have iw:∀ k,k≠w.heap.size+1→k≠w.heap.size+2→((iG w5 (w.heap.size+1) (.string xk) (.int .u64 xs') (.bool xg) (.slice va xd.length vc)).setCell ⟨w.heap.size+2,0,none⟩ (.bool true)).heap[k]?=w5.heap[k]?:=fun k h1 h2=>(aK _ _ _ _ h2).trans (qR h1 _ _ _ _)
   have hown:aG w.heap.size ((iG w5 (w.heap.size+1) (.string xk) (.int .u64 xs') (.bool xg) (.slice va xd.length vc)).setCell ⟨w.heap.size+2,0,none⟩ (.bool true)) (.slice va xd.length vc) xd:=by
    have eU:aG W2.heap.size w5 (.slice va xd.length vc) xd:=ho;refine (eU.mono Hk.out.2.2.1.size).keep (fun g hgb=>iw g (fun e=> ?_) (fun e=> ?_))
    ·obtain ⟨cur,hc⟩:=eU.block hgb
     rw [e,r2] at hc;exact absurd (cA (bB hc)).2.1 (by decide)
    ·obtain ⟨cur,hc⟩:=eU.block hgb
     rw [e,r3] at hc;exact absurd (cA (bB hc)).2.1 (by decide)
   have FK:KeepsFrom w4.heap.size W2 ((iG w5 (w.heap.size+1) (.string xk) (.int .u64 xs') (.bool xg) (.slice va xd.length vc)).setCell ⟨w.heap.size+2,0,none⟩ (.bool true)):=by
    refine ⟨by simpa using aO.size,fun k o _ FO hc=> ?_⟩;rw [iw k (fun e=> ?_) (fun e=> ?_),aO.block k (af FO)]
    ·exact FO
    ·rw [e,Hk.out.1] at FO;cases FO;cases hc
    ·rw [e,Hk.out.2.1] at FO;cases FO;cases hc
   exact ⟨FK,⟨⟨xk,xs',xg,xd⟩,.slice xa xd.length xc⟩,rfl,ayi,.inr ⟨rfl,rfl,.slice va xd.length vc,y4,y3,hown⟩⟩
  ·have hkb:(xk.toList==key.toList)=false:=by
    simp only [beq_eq_false_iff_ne,ne_eq];intro e;rw [ByteArray.toList_eq,ByteArray.toList_eq] at e;exact hk (EW e)
   clear hc2 Fw hs2 dm;gi_wp2;exact ⟨KeepsFrom.refl _ _,⟨⟨xk,xs',xg,xd⟩,.slice xa xd.length xc⟩,rfl,k4,.inl ⟨rfl,hk,k2,k3⟩⟩
 case done=>
  rintro D W hD ⟨ahm,k1,k2,k3,k4⟩ hK;have oI:=ae ahm;clear ahm hseq a1 a2 a3 k1;obtain ⟨e0,e1,e2,e3⟩:=cK k2;have le:=af k2;have fe:∀ i,W.frozen? ⟨w.heap.size+1,i,none⟩=false:=fun i=>by simp [World.frozen?,k2]
  have g0:W.cell? ⟨w.heap.size+2,0,none⟩=some (.bool false):=by simp [World.cell?,k3]
  have lg:=af k3;have fg:W.frozen? ⟨w.heap.size+2,0,none⟩=false:=by simp [World.frozen?,k3]
  have s0:=dN (v:= .string ⟨#[]⟩) (i:=0) k2 rfl;have s1:=dN (v:= .int .u64 0) (i:=1) k2 rfl;have s2:=dN (v:= .bool false) (i:=2) k2 rfl;have Wf:=dN (v:= .slice none 0 0) (i:=3) k2 rfl;have s4':=dN (v:= .bool false) (i:=0) k3 rfl;have km:w.heap.size+1≠D:=fun e=>by rw [e,hK] at k2;cases k2
  have nJ:w.heap.size+2≠D:=fun e=>by rw [e,hK] at k3;cases k3
  have j2:=(World.putObj_heap_other (w:=W) (o:= .deferred none) km).trans k2;have j3:=(World.putObj_heap_other (w:=W) (o:= .deferred none) nJ).trans k3;obtain ⟨r0,r1,r2,r3⟩:=cK j2;have rg:(W.putObj D (.deferred none)).cell? ⟨w.heap.size+2,0,none⟩=some (.bool false):=by simp [World.cell?,j3]
  have iP:Grow w (W.putObj D (.deferred none)):=k4.grown (grownBy_putObj' W D (.deferred none)) k4.size (fun k e=>by cases e;have:=KI.size;omega);have bG:=ae (ah r0 (ah r1 (ah r2 (ah r3 (ah rg iP)))));clear k2 k3 k4 j2 j3 r0 r1 r2 r3 rg iP km nJ;go_wp2;refine ⟨by simp,.inl ⟨_,_,rfl,run_takeDeferred hK,?_⟩⟩;obtain ⟨r0,r1,r2,r3,rg,iP⟩:=bG.out;refine ⟨.tuple #[.agg #[.string ⟨#[]⟩,.int .u64 0,.bool false,.slice none 0 0],.bool false],by simp [results,Tryz.results272,go_sem,r0,r1,r2,r3,rg],?_,iP⟩;rw [KJ.out];rw [oI.out]
 case stop=>
  rintro D c pre x rest W hD eM ⟨y,gP,k4,hc⟩ hK;have hpx:pre= []∧x=y:=by
   cases pre with
   |nil=>exact ⟨rfl,by simpa using gP⟩
   |cons a pre=>simp at gP
  obtain ⟨rfl,rfl⟩:=hpx;have oI:=ae eM;clear eM gP hseq a1 a2 a3;rcases hc with ⟨rfl,hne,k2,k3⟩|⟨rfl,heq,sv,k2,k3,hown⟩
  ·have pD:=ae hne
   clear hne;obtain ⟨e0,e1,e2,e3⟩:=cK k2;have le:=af k2;have fe:∀ i,W.frozen? ⟨w.heap.size+1,i,none⟩=false:=fun i=>by simp [World.frozen?,k2]
   have g0:W.cell? ⟨w.heap.size+2,0,none⟩=some (.bool false):=by simp [World.cell?,k3]
   have lg:=af k3;have fg:W.frozen? ⟨w.heap.size+2,0,none⟩=false:=by simp [World.frozen?,k3]
   have s0:=dN (v:= .string ⟨#[]⟩) (i:=0) k2 rfl;have s1:=dN (v:= .int .u64 0) (i:=1) k2 rfl;have s2:=dN (v:= .bool false) (i:=2) k2 rfl;have Wf:=dN (v:= .slice none 0 0) (i:=3) k2 rfl;have s4':=dN (v:= .bool false) (i:=0) k3 rfl;have km:w.heap.size+1≠D:=fun e=>by rw [e,hK] at k2;cases k2
   have nJ:w.heap.size+2≠D:=fun e=>by rw [e,hK] at k3;cases k3
   have j2:=(World.putObj_heap_other (w:=W) (o:= .deferred none) km).trans k2;have j3:=(World.putObj_heap_other (w:=W) (o:= .deferred none) nJ).trans k3;obtain ⟨r0,r1,r2,r3⟩:=cK j2;have rg:(W.putObj D (.deferred none)).cell? ⟨w.heap.size+2,0,none⟩=some (.bool false):=by simp [World.cell?,j3]
   have iP:Grow w (W.putObj D (.deferred none)):=k4.grown (grownBy_putObj' W D (.deferred none)) k4.size (fun k e=>by cases e;have:=KI.size;omega);have bG:=ae (ah r0 (ah r1 (ah r2 (ah r3 (ah rg iP)))));clear k2 k3 k4 j2 j3 r0 r1 r2 r3 rg iP km nJ;go_wp2;refine ⟨by simp,.inl ⟨_,_,rfl,run_takeDeferred hK,?_⟩⟩;obtain ⟨r0,r1,r2,r3,rg,iP⟩:=bG.out;refine ⟨.tuple #[.agg #[.string ⟨#[]⟩,.int .u64 0,.bool false,.slice none 0 0],.bool false],by simp [results,Tryz.results272,go_sem,r0,r1,r2,r3,rg],?_,iP⟩;rw [KJ.out];rw [oI.out];simp only [List.nil_append];rw [if_neg pD.out];exact True.intro
  ·obtain ⟨va,vc,rfl⟩:=Go.Gl.Row1.slice hown
   rw [iL] at k2 hown;have km:w.heap.size+1≠D:=fun e=>by rw [e,hK] at k2;cases k2
   have nJ:w.heap.size+2≠D:=fun e=>by rw [e,hK] at k3;cases k3
   have j2:=(World.putObj_heap_other (w:=W) (o:= .deferred none) km).trans k2;have j3:=(World.putObj_heap_other (w:=W) (o:= .deferred none) nJ).trans k3;obtain ⟨r0,r1,r2,r3⟩:=cK j2;have rg:(W.putObj D (.deferred none)).cell? ⟨w.heap.size+2,0,none⟩=some (.bool true):=by simp [World.cell?,j3]
   have iP:Grow w (W.putObj D (.deferred none)):=k4.grown (grownBy_putObj' W D (.deferred none)) k4.size (fun k e=>by cases e;have:=KI.size;omega);have eU:aG w.heap.size (W.putObj D (.deferred none)) (.slice va x.e.val.length vc) x.e.val:=hown.keep (fun g hgb=>World.putObj_heap_other (fun e=>by
    obtain ⟨cur,hc⟩:=hown.block hgb;rw [e,hK] at hc;cases hc))
   have bG:=ae (ah r0 (ah r1 (ah r2 (ah r3 (ah rg (ah iP (ah heq eU)))))));clear k2 k3 k4 j2 j3 r0 r1 r2 r3 rg iP km nJ hown eU heq;go_wp2;refine ⟨by simp,.inl ⟨_,_,rfl,run_takeDeferred hK,?_⟩⟩;obtain ⟨r0,r1,r2,r3,rg,iP,heq,eU⟩:=bG.out;refine ⟨.tuple #[.agg (bQ ⟨x.e,.slice va x.e.val.length vc⟩),.bool true],by simp [results,Tryz.results272,go_sem,r0,r1,r2,r3,rg],?_,iP⟩;rw [KJ.out,oI.out];simp only [List.nil_append];rw [if_pos heq];exact ⟨_,rfl,eU⟩
end Go.Proofs.YtoolkdapflaeeaaGreatDoor
namespace Go.Proofs.YtoolkdapflaeeaaGreatDoor
open Go.RowKit Go.Gl Go.aH Mn
structure Od where
 mem:Int
 block:Int
 zero:Int
 base:Int
 table:Int
abbrev oO (sb:Nat) (o:Od) (drv lv:Value) (mb tm seq hm:Nat):Array Value:=
 #[.pointer (some ⟨sb,0,none⟩),.int .i64 o.mem,.int .i64 o.block,.int .i64 o.zero,.int .i64 o.base,.int .i64 o.table,drv,lv,.pointer (some ⟨mb,0,none⟩),.map (some tm),.int .u64 (seq:Int),.map (some hm)]
def dT (w:World) (db sb:Nat) (o:Od) (drv lv:Value) (mb tm seq hm:Nat):Prop:=w.heap[db]?=some (.cells (oO sb o drv lv mb tm seq hm) 93 (0,0))
section
variable {w w':World} {db sb:Nat} {o:Od} {drv lv:Value} {mb tm seq hm:Nat}
theorem dT.cells (h:dT w db sb o drv lv mb tm seq hm):w.cell? ⟨db,0,none⟩=some (.pointer (some ⟨sb,0,none⟩))∧w.cell? ⟨db,1,none⟩=some (.int .i64 o.mem)∧w.cell? ⟨db,7,none⟩=some lv∧w.cell? ⟨db,8,none⟩=some (.pointer (some ⟨mb,0,none⟩))∧w.cell? ⟨db,9,none⟩=some (.map (some tm))∧w.cell? ⟨db,10,none⟩=some (.int .u64 (seq:Int))∧w.cell? ⟨db,11,none⟩=some (.map (some hm))∧db<w.heap.size:=by
 unfold dT at h;refine ⟨?_,?_,?_,?_,?_,?_,?_,af h⟩<;>simp [World.cell?,h]
theorem dT.keep (h:dT w db sb o drv lv mb tm seq hm) (hk:w'.heap[db]?=w.heap[db]?):dT w' db sb o drv lv mb tm seq hm:=hk.trans h
theorem dT.grow (h:dT w db sb o drv lv mb tm seq hm) (hg:Grow w w'):dT w' db sb o drv lv mb tm seq hm:=hg.heap h
theorem ayl (h:dT w db sb o drv lv mb tm seq hm):Calls Tryz.prog 27 #[.pointer (some ⟨db,0,none⟩)] w fun e w'=>e= .returned (.int .u64 (seq:Int))∧w'=w:=by
 obtain ⟨_,_,_,_,_,c10,_,lt⟩:=h.cells;clear h;go_enter Tryz.func27,Tryz.ntmps27;go_wp2;go_ret;exact ⟨rfl,rfl⟩
end
theorem ahn (a b:List En):costs (a++b)=costs a+costs b:=by simp [costs]
theorem aym (x:En) (l:List En):costs (jt x l)≤costs l+iE x∧(jt x l).length≤l.length+1:=by
 have h:=tS x l;have h1:=congrArg costs h;have h2:=congrArg List.length h;rw [ahn] at h1;rw [List.length_append] at h2;unfold jt;generalize gp x l=a at*;generalize gq x l=b at*;rw [ahn,List.length_append];have hc:∀ (y:En) (m:List En),costs (y::m)=iE y+costs m:=fun y m=>by simp [costs]
 rw [hc,List.length_cons];cases b with
 |nil=>dsimp only;omega
 |cons e r=>
  rw [hc] at h1;rw [List.length_cons] at h2;dsimp only;split
  ·omega
  ·rw [hc,List.length_cons];omega
theorem ayn (s:Nat) (y:Wr):iE (ia s y)≤16+(y.key.size+y.val.length):=by
 unfold ia iE;dsimp only;split
 ·simp only [List.length_nil];omega
 ·omega
theorem PA (s:Nat) (l:List En):∀ ws:List Wr,costs (gw s ws l)≤costs l+16*ws.length+bD ws∧(gw s ws l).length≤l.length+ws.length:=by
 intro ws
 induction ws generalizing l with
 |nil=>simp [UX,bD]
 |cons y ws ih=>
  rw [aeZ];obtain ⟨h1,h2⟩:=ih (jt (ia s y) l);obtain ⟨h3,h4⟩:=aym (ia s y) l;have h5:=ayn s y;have h6:bD (y::ws)=y.key.size+y.val.length+bD ws:=by simp [bD]
  rw [List.length_cons,h6];omega
structure KL (N:Nat→Prop) (w:World) (db sb:Nat) (o:Od) (drv lv:Value) (mb tm seq hm ha:Nat) (ns:List Nd) (dv:Value) (ds:List Int) (s:Nat) (ws:List Wr) (N':Nat→Prop) (bE:List Nd) (wr:World):Prop where
 cell:dT wr db sb o drv lv mb tm seq hm
 mem:∃ dH,cX N' wr mb ha bE dH dv ds
 pV:bE.map (fun n=>n.x.e)=gw s ws (ns.map (fun n=>n.x.e))
 sub:∀ b,N b→N' b
 new:∀ b,N' b→N b∨w.heap.size≤b
 apart:∀ b,N' b→b<wr.heap.size∧¬ FM mb ha bE b
 sep:Sep (FL (FM mb ha ns) db) w wr (FL (FM mb ha bE) db)
 vQ:¬ FM mb ha bE db
def ayo (N:Nat→Prop) (w:World) (db sb:Nat) (o:Od) (drv lv:Value) (mb tm seq hm ha:Nat) (ns:List Nd) (dv:Value) (ds:List Int) (s:Nat) (ws:List Wr) (e:Ending) (w':World):Prop:=
 e= .returned (.tuple #[])∧∃ N' bE,KL N w db sb o drv lv mb tm (max seq s) hm ha ns dv ds s ws N' bE w'
def ayp (N:Nat→Prop) (w:World) (db sb:Nat) (o:Od) (drv lv:Value) (mb tm seq hm ha:Nat) (ns:List Nd) (dv:Value) (ds:List Int) (s:Nat) (ys:List Wv) (iv:Value) (wr:World):Prop:=
 ∃ (i:Nat) (N':Nat→Prop) (bE:List Nd),iv= .int .i64 (i:Int)∧i≤ys.length∧KL N w db sb o drv lv mb tm seq hm ha ns dv ds s ((ys.take i).map (·.x)) N' bE wr
theorem aho {N Na:Nat→Prop} {w:World} {db sb:Nat} {o:Od} {drv lv:Value} {mb tm seq hm ha:Nat} {ns:List Nd} {aM:Nat} {dv:Value} {ds:List Int} (hC:dT w db sb o drv lv mb tm seq hm) (hM:cX N w mb ha ns aM dv ds) (oz:¬ FM mb ha ns db) (hN:∀ b,N b→b<w.heap.size∧¬ FM mb ha ns b∧b≠db)
  {v:Value} {ys:List Wv} (FP:∀ b,Na b→b<w.heap.size∧¬ FM mb ha ns b∧b≠db) (hW:Ws Na w v ys) {s:Nat} (hs:s<18446744073709551616) (dX:ys.length≤1000000) (sG:bD (ys.map (·.x))≤100000000) (iB:ns.length≤100000000) (hcs:costs (ns.map (fun n=>n.x.e))≤100000000000):
  Calls Tryz.prog 43 #[.pointer (some ⟨db,0,none⟩),.int .u64 (s:Int),v] w (ayo N w db sb o drv lv mb tm seq hm ha ns dv ds s (ys.map (·.x))):=by
 obtain ⟨_,_,_,_,_,c10,_,lt⟩:=hC.cells;have ff:∀ i,w.frozen? ⟨db,i,none⟩=false:=fun i=>by unfold dT at hC;simp [World.frozen?,hC]
 obtain ⟨ya,yc,rfl⟩:=hW.slice;obtain ⟨w1,bS⟩:∃ w1,w1=w.setCell ⟨db,10,none⟩ (.int .u64 (max (seq:Int) (s:Int))):=⟨_,rfl⟩
 have hmx:max (seq:Int) (s:Int)=((max seq s:Nat):Int):=by omega
 have kR:Kp N w w1:=by rw [bS];exact ⟨by simp,fun b hb _=>aK _ _ _ _ (fun e=>(hN b hb).2.2 e)⟩
 have ahp:Kp Na w w1:=by rw [bS];exact ⟨by simp,fun b hb _=>aK _ _ _ _ (fun e=>(FP b hb).2.2 e)⟩
 have FQ:dT w1 db sb o drv lv mb tm (max seq s) hm:=by rw [bS,hmx];exact Go.Gl.aI hC 10 _
 have hM1:cX N w1 mb ha ns aM dv ds:=hM.keep (fun b hb=>by rw [bS];exact aK _ _ _ _ (fun e=>oz (by have e':b=db:=e;rw [←e'];exact hb))) kR;have hS1:Sep (FL (FM mb ha ns) db) w w1 (FL (FM mb ha ns) db):=by rw [bS];exact Sep.tQ _ _ _ _ _
 have FR:w1.heap.size=w.heap.size:=by rw [bS];simp
 have hst:KL N w db sb o drv lv mb tm (max seq s) hm ha ns dv ds s [] N ns w1:=⟨FQ,⟨aM,hM1⟩,by rw [UX],fun b h=>h,fun b h=> .inl h,fun b hb=>⟨by rw [FR];exact (hN b hb).1,(hN b hb).2.1⟩,hS1,oz⟩
 have bI:=ae hst;have nS:=ae (show db<w.heap.size from lt);have HW1:=ae (hW.kp ahp);have FU:=ae bS;have HN:=ae FP;have se:=ae oz;have VZ:=ae sG;have Wo:=ae hcs;have Hnl:=ae iB;clear hC hM oz hN FP hW kR ahp FQ hM1 hS1 hst bS sG hcs iB hmx;have ays:=ae FR;clear FR;go_enter Tryz.func43,Tryz.ntmps43
 go_upto_region 1 with fail
 rw [←FU.out];clear ff FU c10 lt;generalize hmv:Value.int IntKind.u64 (max (seq:Int) (s:Int))=mv;clear hmv
 go_wp2_with fail
 go_loopw [19] (fun iv wr=>ayp N w db sb o drv lv mb tm (max seq s) hm ha ns dv ds s ys iv wr) (fun iv _=>ys.length-(intOf iv).toNat)
 case atStart=>exact ⟨0,N,ns,rfl,bk _,bI.out⟩
 case round=>
  obtain ⟨i,N',bE,rfl,hi,hst⟩:=hrel;by_cases hlt:i<ys.length
  ·obtain ⟨y,hy⟩:∃ y,ys[i]?=some y:=⟨ys[i],by simp [hlt]⟩
   have iA:Kp Na w1 wr:=⟨by have:=hst.sep.size;have:=ays.out;omega,fun b hb hl=>by
    have hb1:=HN.out b hb;have hn:¬ FL (FM mb ha ns) db b:=fun h=>h.elim hb1.2.1 hb1.2.2
    rw [hst.sep.out b hb1.1 hn,bI.out.sep.out b hb1.1 hn]⟩
   have hW:=HW1.out.kp iA;obtain ⟨b,o',c,jN,hNb,hbl,aY⟩:=hW.addr hy;cases jN;have gu:oL Na wr y:=hW.get hy;have pQ:y.x∈ys.map (·.x):=List.mem_map.2 ⟨y,dY hy,rfl⟩;have Db:=Pk pQ;have df:(ys.take (i+1)).map (·.x)=(ys.take i).map (·.x)++ [y.x]:=by rw [take_one hy];simp
   obtain ⟨a0,a1,a2⟩:=FD aY hy;obtain ⟨⟨yk,yg,yd⟩,yv⟩:=y;dsimp only at a0 a1 a2 gu Db df;have FE:Bv wr yv yd:=gu.1;obtain ⟨xa,xc,rfl⟩:=FE.slice;have lb:b<wr.heap.size:=hbl;have dJ:(i:Int)<(ys.length:Int):=by omega
   have bK:(0:Int)≤(i:Int):=by omega
   have eE:IntKind.i64.wrap ((i:Int)+1)=(i:Int)+1:=aR _ (by omega);have dp:(wr.alloc (.cells #[.string yk,.bool yg,.slice xa yd.length xc] 51)).heap[wr.heap.size]?=some (.cells #[.string yk,.bool yg,.slice xa yd.length xc] 51 (0,0)):=aw _ _;have aM:Grow wr (wr.alloc (.cells #[.string yk,.bool yg,.slice xa yd.length xc] 51)):=Grow.alloc _ _;obtain ⟨dH,cO⟩:=hst.mem;obtain ⟨aQ,ml⟩:=PA s (ns.map (fun n=>n.x.e)) ((ys.take i).map (·.x));rw [←hst.pV] at aQ ml;have hwt:bD ((ys.take i).map (·.x))≤bD (ys.map (·.x)):=by rw [List.map_take];exact Pj _ _
   rw [List.length_map,List.length_take] at aQ;rw [List.length_map,List.length_map,List.length_map,List.length_take] at ml;have hcs:=Wo.out;have iB:=Hnl.out;have sG:=VZ.out;have FV:db<wr.heap.size:=by have:=hst.sep.size;have:=nS.out;omega
   have hput:=fun (W:World) (hg:Grow wr W)=>awz (cO.grow hg) (fun b hb=>⟨cj (hst.apart b hb).1 hg.size,(hst.apart b hb).2⟩) (by omega) ⟨⟨yk,s,yg,yd⟩,.slice xa yd.length xc⟩ (gu.kp (.bF hg)) hs (by unfold iE;dsimp only;omega)
   have ahr:=hst.vQ;have ayu:¬ FM mb ha bE wr.heap.size:=fun h=>by have:=cO.lt h;omega
   have aGS:=hst.sep.size;have Fp:=ae hput;have Hs:=ae hst;have lQ:=ae df;obtain ⟨_,_,_,c8,_,_,_,_⟩:=(hst.cell.grow aM).cells;obtain ⟨t0,t1,t2⟩:=vP dp;have im:=af dp;have bA:=cj FV aM.size;have Ci:=ae aM;have fw:=ae dp;have HC:=ae (hst.cell.grow aM);clear hst hput df gu FE cO aQ ml hwt hcs iB sG hW aY iA Db pQ hy aM
   go_upto_region 4 with fail
   clear a0 a1 a2 lb;generalize wr.alloc (.cells #[.string yk,.bool yg,.slice xa yd.length xc] 51)=w5 at*;generalize FJ:wr.heap.size=tb at*;have Wp:=ae FJ;clear FJ;refine bX (fun W=>W.cell? ⟨db,8,none⟩=some (.pointer (some ⟨mb,0,none⟩))∧db<W.heap.size∧W.cell? ⟨tb,0,none⟩=some (.string yk)∧W.cell? ⟨tb,1,none⟩=some (.bool yg)∧W.cell? ⟨tb,2,none⟩=some (.slice xa yd.length xc)∧tb<W.heap.size) [(0,false),(1,false),(2,false),(3,false),(4,false),(5,false),(6,false),(7,false),(8,false),(9,false),(10,false),(11,false),(12,true)] (by kernel_rfl) (by kernel_rfl) (fun c a d v w h=>by cases d<;>exact h) ⟨by simpa using c8,by simpa using bA,by simpa using t0,by simpa using t1,by simpa using t2,by simpa using im⟩ ?_;simp only [aP,nth];clear c8 bA t0 t1 t2 im
   repeat (first|(refine aB (v:= ?_) (by rfl) ?_ ?_;rotate_left;(rintro W ⟨hW0,hW1,hW2,hW3,mF,sj⟩;go_simp;with_reducible rfl);simp only [ag,List.set])|(refine aC (by rfl) ?_;simp only [ag,List.set]))
   have hgd:=Ci.out.trans (Grow.drew w5);refine bj (by rfl) (by go_simp) (Fp.out w5.drew hgd) ?_;rintro e w6 ⟨rfl,ns2,aht,iy,he2,hs2⟩;have PB:db<w5.drew.heap.size:=by have:=hgd.size;have:=Wp.out;omega
   have vR:=(HC.out.grow (Grow.drew w5)).keep (hs2.out db PB ahr);have vS:KL N w db sb o drv lv mb tm (max seq s) hm ha ns dv ds s ((ys.take (i+1)).map (·.x)) (fun b=>N' b∨(w5.drew.heap.size≤b∧b<w6.heap.size∧¬ FM mb ha ns2 b)) ns2 w6:=by
    refine ⟨vR,⟨aht,iy⟩,?_,fun b hb=> .inl (Hs.out.sub b hb),fun b hb=> ?_,fun b hb=> ?_,?_,fun hf=> ?_⟩
    ·rw [he2,lQ.out,aeY,Hs.out.pV];rfl
    ·rcases hb with hb|hb
     ·exact Hs.out.new b hb
     ·have:=hgd.size;have:=Wp.out;right;omega
    ·rcases hb with hb|hb
     ·have h1:=Hs.out.apart b hb
      have h2:=hgd.size;have h5:=Wp.out;have h3:=hs2.size;refine ⟨by omega,fun hf=> ?_⟩;rcases hs2.foot b hf with h4|h4
      ·exact h1.2 h4
      ·omega
     ·exact hb.2
    ·exact (Hs.out.sep.trans (Sep.bF hgd)).trans (hs2.wide db)
    ·rcases hs2.foot db hf with h4|h4
     ·exact ahr h4
     ·omega
   have Am:=ae vS;obtain ⟨_,_,_,c8,_,_,_,bA⟩:=vR.cells;have dR:=(hs2.out tb (af ((Grow.drew w5).heap fw.out)) ayu).trans ((Grow.drew w5).heap fw.out);obtain ⟨t0,t1,t2⟩:=vP dR;have Wq:=af dR;refine ⟨_,rfl,⟨c8,bA,t0,t1,t2,Wq⟩,?_⟩;clear vS vR iy he2 hs2 hgd c8 bA t0 t1 t2 Wq dR
   try first|simp only [ag,List.set]|simp only [aD]
   refine bm ?_;go_wp2;go_roundw
   case rel=>exact ⟨i+1,_,_,by simp,hlt,Am.out⟩
   case measure=>simp [intOf];omega
  ·obtain rfl:i=ys.length:=by omega
   rw [List.take_length] at hst;have Hs:=ae hst;clear hst;go_wp2;exact ⟨rfl,.tuple #[],by simp [results,Tryz.results43,go_sem],rfl,N',bE,Hs.out⟩
end Go.Proofs.YtoolkdapflaeeaaGreatDoor
namespace Go.Proofs.YtoolkdapflaeeaaGreatDoor
open Go.RowKit Go.Gl Go.aH Mn
open Go.MapKept (run_checkKey run_findKey IsKey)
theorem ahv (kd:IntKind) (k:Int):∀ (l:List (aF Int)) (i:Nat),Instr.findNow (.int kd) (.int kd k) (l.map (aF.raw (Value.int kd))) i=some (kL k l i)
 | [],_=>rfl
 |e::es,i=>by
  simp only [List.map_cons,Instr.findNow,aF.raw,Instr.sameNow,kL];by_cases h:k=e.key
  ·simp [h]
  ·have hb:(k==e.key)=false:=by simpa using h
   rw [hb,if_neg h];exact ahv kd k es (i+1)
theorem Wt:yD (κ:=Int) Tryz.prog 3 (Value.int .i64) where
 check:=fun b k w=>run_checkKey Tryz.underlying3 (by simp [IsKey]) b 9999
 same:=fun k=>by simp [Instr.sameBits]
 find:=fun k l w=>run_findKey Tryz.underlying3 (ahv .i64 k l 0)
def fA (w:World) (r:Nat) (enc:Int→Value) (g:Int→Option Value) (m:Nat):Prop:=
 ∃ (l:List (aF Int)) (c:Nat),Go.Gl.MapAt w r enc l c∧(l.map aF.key).Nodup∧(∀ e∈l,e.born<c)∧(l.map aF.born).Nodup∧l.length≤m∧∀ k,(l.find? (fun e=>decide (k=e.key))).map aF.val=g k
def vT (g:Int→Option Value) (k:Int) (v:Value):Int→Option Value:=fun j=>if j=k then some v else g j
section
variable {w w':World} {r:Nat} {enc:Int→Value} {g:Int→Option Value} {m:Nat}
theorem fA.keep (h:fA w r enc g m) (hk:w'.heap[r]?=w.heap[r]?):fA w' r enc g m:=by
 obtain ⟨l,c,h1,h2⟩:=h;exact ⟨l,c,hk.trans h1,h2⟩
theorem fA.lt (h:fA w r enc g m):r<w.heap.size:=by obtain ⟨l,c,h1,_⟩:=h;exact af h1
theorem fA.grow (h:fA w r enc g m) (hg:Grow w w'):fA w' r enc g m:=h.keep (hg.block r h.lt)
theorem ahw (w:World) (enc:Int→Value):fA (w.alloc (.map #[] 0)) w.heap.size enc (fun _=>none) 0:=
 ⟨[],0,aw _ _,List.nodup_nil,(fun e h=>by cases h),List.nodup_nil,ay _,fun _=>rfl⟩
theorem ahx {t kt et:TypeId} (K:yD Tryz.prog kt enc) (ht:Tryz.prog.underlying t=some (.map kt et)) {z:Value} (hz:(zeroValue et).run Tryz.prog w= .ok z w) (h:fA w r enc g m) (k:Int):
  (Instr.lookup t (.map (some r)) (enc k) false).run Tryz.prog w= .ok ((g k).getD z) w:=by
 obtain ⟨l,c,h1,h2,h3,h4,h5,h6⟩:=h;rw [Zo K ht hz h1 k,←h6 k];rfl
theorem ahy {o0 o:Obj} (_hr:w.heap[r]?=some o0):GX r w (cB w r o):=
 ⟨rfl,rfl,rfl,by simp [cB],fun b _ hb=>wC (fun e=>hb (by rw [e]))⟩
theorem ayv {t kt et:TypeId} (K:yD Tryz.prog kt enc) (ht:Tryz.prog.underlying t=some (.map kt et)) (h:fA w r enc g m) (k:Int) (v:Value):
  ∃ w',(Instr.mapUpdate t (.map (some r)) (enc k) v).run Tryz.prog w= .ok () w'∧fA w' r enc (vT g k v) (m+1)∧GX r w w':=by
 obtain ⟨l,c,h1,h2,h3,h4,h5,h6⟩:=h;by_cases hk:∃ e∈l,k=e.key
 ·refine ⟨_,Zp K ht h1 h2 k v hk,⟨kM k v l,c,yE (af h1),?_,?_,?_,?_,?_⟩,ahy h1⟩
  ·unfold kM;rw [List.map_map]
   have:(aF.key∘fun e:aF Int=>if k=e.key then {e with val:=v} else e)=aF.key:=funext fun e=>by dsimp only [Function.comp];split<;>rfl
   rw [this];exact h2
  ·intro e he
   obtain ⟨e0,he0,rfl⟩:=List.mem_map.1 he
   split<;>exact h3 e0 he0
  ·unfold kM;rw [List.map_map]
   have:(aF.born∘fun e:aF Int=>if k=e.key then {e with val:=v} else e)=aF.born:=funext fun e=>by dsimp only [Function.comp];split<;>rfl
   rw [this];exact h4
  ·unfold kM;rw [List.length_map];omega
  ·intro j
   unfold kM vT;rw [List.find?_map];have:((fun e:aF Int=>decide (j=e.key))∘fun e:aF Int=>if k=e.key then {e with val:=v} else e)=fun e=>decide (j=e.key):=funext fun e=>by dsimp only [Function.comp];split<;>rfl
   rw [this,Option.map_map];by_cases hj:j=k
   ·subst hj
    rw [if_pos rfl];obtain ⟨e,he,sS⟩:=hk;cases hf:l.find? (fun e=>decide (j=e.key)) with
    |none=>exact absurd (List.find?_eq_none.1 hf e he) (by simp [sS])
    |some e'=>
     have:=List.find?_some hf;have Wu:j=e'.key:=by simpa using this
     simp [Wu]
   ·rw [if_neg hj,←h6 j]
    cases hf:l.find? (fun e=>decide (j=e.key)) with
    |none=>rfl
    |some e'=>
     have:=List.find?_some hf;have Wu:j=e'.key:=by simpa using this
     have hne:¬ k=e'.key:=fun e=>hj (Wu.trans e.symm)
     simp [hne]
 ·have Oi:∀ e∈l,k≠e.key:=fun e he sS=>hk ⟨e,he,sS⟩
  refine ⟨_,Mo K ht h1 k v Oi,⟨l++ [(⟨k,v,c⟩:aF Int)],c+1,yE (af h1),?_,?_,?_,?_,?_⟩,ahy h1⟩
  ·rw [List.map_append,List.nodup_append]
   refine ⟨h2,by simp,fun a ha b hb=> ?_⟩;obtain ⟨e,he,rfl⟩:=List.mem_map.1 ha;simp only [List.map_cons,List.map_nil,cY] at hb;subst hb;exact fun hx=>Oi e he hx.symm
  ·intro e he
   rcases List.mem_append.1 he with he|he
   ·have:=h3 e he;omega
   ·rw [cY.1 he];exact Nat.lt_succ_self c
  ·rw [List.map_append,List.nodup_append]
   refine ⟨h4,by simp,fun a ha b hb=> ?_⟩;obtain ⟨e,he,rfl⟩:=List.mem_map.1 ha;simp only [List.map_cons,List.map_nil,cY] at hb;subst hb;have:=h3 e he;omega
  ·rw [List.length_append,List.length_singleton];omega
  ·intro j
   rw [List.find?_append];unfold vT;by_cases hj:j=k
   ·subst hj
    have:l.find? (fun e=>decide (j=e.key))=none:=List.find?_eq_none.2 (fun e he=>by simpa using Oi e he);rw [this];simp
   ·rw [if_neg hj,←h6 j]
    cases hf:l.find? (fun e=>decide (j=e.key)) with
    |none=>simp [hj]
    |some e'=>rfl
end
end Go.Proofs.YtoolkdapflaeeaaGreatDoor
