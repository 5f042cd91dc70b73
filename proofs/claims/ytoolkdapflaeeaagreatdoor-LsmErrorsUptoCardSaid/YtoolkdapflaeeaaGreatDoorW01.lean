/- Helpers. -/
import Derived.Deep.CutRange
import Derived.Deep.DeepCutAuto
import Derived.Test.YtoolkdapflaeeaaGreatDoorW00
import Derived.MapKept
import Derived.Shelf.Abstract
import Derived.Shelf.SlLaysF0
import Derived.Shelf.SlLaysE0
import Derived.Shelf.SlLaysH0
import Derived.Shelf.SlLaysN
import Derived.Shelf.Lays
import Derived.Test.YtoolkdapflaeeaaGreatDoorProg
import Derived.Sort.OwnSorted
import Derived.Shelf.Strings.Prefix
import Derived.Shelf.Sort.Plain
import Derived.Shelf.Slices.In.SortNone
import Derived.Sort.KeysCollected
set_option maxRecDepth 100000
set_option maxHeartbeats 16000000
open Go
variable {B b c i j k p qb r s : Nat} {F F' : Nat → Prop} {arr : Array Value} {born used : Int} {bv pv u v : Value} {f : Nat × Nat} {ks : List Int} {l x : List UInt8} {m : ByteArray} {t : TypeId} {w w' w1 w2 : World}
namespace Go.Proofs.YtoolkdapflaeeaaGreatDoor
open Go.RowKit Go.Gl Go.aF
theorem acm:∀ (r:List UInt8) (i v:Nat),(mo i v r).2.1≤i+r.length
 | [],i,v=>by simp [mo]
 |c::r,i,v=>by
  unfold mo;split
  ·simp
  ·split
   ·split
    ·simp
    ·simp
   ·have:=acm r (i+1) (v+(c.toNat-128)*128^i);simp at this ⊢;omega
theorem sS {a:Option Addr} (h:Bv w (.slice a l.length c) l) (pG:i≤j) (hj:j≤l.length):Bv w (.slice (if c=i then a else a.map (fun x=>x.add i)) (j-i) (c-i)) ((l.drop i).take (j-i)):=by
 obtain ⟨a',c',he,hlc,hm,hn,h⟩:=h;cases he;have hlen:((l.drop i).take (j-i)).length=j-i:=by simp;omega
 refine ⟨_,c-i,by rw [hlen],by rw [hlen];omega,by omega,?_,?_⟩
 ·intro h0
  split at h0
  ·omega
  ·cases a with
   |none=>have:=hn rfl;omega
   |some x=>cases h0
 ·by_cases hz:(l.drop i).take (j-i)= []
  ·exact .inl hz
  ·right
   have hlt:i<j:=by
    rcases Nat.lt_or_ge i j with h1|h1
    ·exact h1
    ·exfalso;apply hz;rw [show j-i=0 by omega];simp
   rcases h with rfl|⟨b,o,rfl,hb,hc⟩
   ·simp at hj;omega
   ·rw [if_neg (by omega)]
    refine ⟨b,o+i,by show some (Addr.add ⟨b,o,none⟩ i)=_;rw [Addr.add_lit],hb,fun q k hk=> ?_⟩;rw [List.getElem?_take] at hk
    split at hk
    ·rw [List.getElem?_drop] at hk
     have:=hc (i+q) k hk;rw [Nat.add_assoc];exact this
    ·cases hk
def CC (ba:Option Addr) (bc len:Nat) (at' fr tt:Nat) (A P:List UInt8) (i:Nat) (v:Value) (W:World):Prop:=
 match i with
 |0=>v= .slice ba len bc
 |1=>v= .int .i64 at'
 |2=>v= .int .i64 fr
 |3=>Bv W v A
 |4=>v= .slice ba len bc
 |5=>v= .int .i64 fr
 |6=>v= .int .i64 tt
 |7=>Bv W v P
 |8=>∃ b pv,v= .slice (some ⟨b,0,none⟩) 1 1∧W.heap[b]?=some (.cells #[pv] 49 (0,0))∧Bv W pv P
 |9=>v= .int .u32 ((eF aq P:Nat):Int)
 |10=>v= .int .u64 ((eF aq P:Nat):Int)
 |11=>Bv W v (cD 4 (eF aq P))
 |12=>v= .bool (decide (A=cD 4 (eF aq P)))
 |13=>v= .bool (!decide (A=cD 4 (eF aq P)))
 |_=>True
theorem CC.keep {ba:Option Addr} {bc len at' fr tt:Nat} {A P:List UInt8}:∀ (j:Nat) (v:Value) (W W':World),Grow W W'→CC ba bc len at' fr tt A P j v W→CC ba bc len at' fr tt A P j v W':=by
 intro j v W W' hR h;unfold CC at h
 split at h<;>first
  |exact h
  |exact Bv.grow h hR
  |(obtain ⟨b,pv,hv,hc,hp⟩:=h;exact ⟨b,pv,hv,hR.heap hc,hp.grow hR⟩)
  |(unfold CC;split<;>first|trivial|(exfalso;simp_all))
theorem acn {l:List UInt8} (h:Bv w bv l) (hl:l.length≤1000000000000):
  Calls Tryz.prog 152 #[bv] w fun e w'=>e= .returned (.tuple #[.int .i64 ((ix aq l).1:Nat),.int .i64 ((ix aq l).2.1:Nat),.int .i64 ((ix aq l).2.2:Nat)])∧Grow w w':=by
 have fV:=Jt h;obtain ⟨ba,bc,rfl⟩:=h.slice;have H:=ae h;have iz:=ae fV;clear h fV;go_enter Tryz.func152,Tryz.ntmps152
 go_wp2_with fail
 (with_reducible refine iz.out.mono ?_);rintro e w1 ⟨rfl,cp⟩;have hw2:=cp.symm;subst hw2;clear cp iz;have oA:Hid (ix aq l=_):=ae (by unfold ix;rfl);generalize hr:fu l=r at*;have hat:=acm l 0 0;rw [show mo 0 0 l=r from hr] at hat;obtain ⟨n,at',e⟩:=r;dsimp only at oA hat ⊢;clear hr;by_cases h1:e≠0
 ·rw [if_pos h1] at oA
  have e1:((e:Int) != 0)=true:=by simp;omega
  have e2:e≠0:=h1;clear h1;go_wp2;go_ret3;rw [oA.out];exact ⟨rfl,aV _⟩
 rw [if_neg h1] at oA;have e1:((e:Int) != 0)=false:=by simp;omega
 obtain rfl:e=0:=by omega
 clear h1;by_cases h2:67108864<n
 ·rw [if_pos h2] at oA
  have e2:decide ((67108864:Int)<(n:Int))=true:=by simp;omega
  go_wp2;go_ret3;rw [oA.out];exact ⟨rfl,aV _⟩
 rw [if_neg h2] at oA;have e2:decide ((67108864:Int)<(n:Int))=false:=by simp;omega
 by_cases h3:l.length<at'+(n+4)
 ·rw [if_pos h3] at oA
  have e3:decide ((l.length:Int)-(at':Int)<(n:Int)+4)=true:=by simp;omega
  go_wp2;go_ret3;rw [oA.out];exact ⟨rfl,aV _⟩
 rw [if_neg h3] at oA;have e3:decide ((l.length:Int)-(at':Int)<(n:Int)+4)=false:=by simp;omega
 have hbc:l.length≤bc:=by obtain ⟨_,_,he,hlc,_⟩:=H.out;cases he;exact hlc
 generalize hPd:(l.drop (at'+4)).take n=P at*;generalize hAd:(l.drop at').take 4=A at*;have HP:=ae hPd;have HA:=ae hAd;clear hPd hAd
 go_upto_region 10 with fail
 obtain ⟨fr,eY⟩:∃ fr:Nat,fr=at'+4:=⟨_,rfl⟩
 obtain ⟨tt,sT⟩:∃ tt:Nat,tt=fr+n:=⟨_,rfl⟩
 rw [show ((at':Int)+4)=(fr:Int) by omega];rw [show ((fr:Int)+(n:Int))=(tt:Int) by omega];rw [←eY] at HP oA;rw [←sT] at oA;have b1:at'≤fr:=by omega
 have b2:fr≤tt:=by omega
 have b3:tt≤l.length:=by omega
 have oz:=ae eY;have Htt:=ae sT;clear eY sT h3
 go_cut [48] from 35 to 48 (fun c wx=>c= .bool (!decide (A=cD 4 (eF aq P)))∧Grow w wx)
 case first=>
  rename_i J K hJ hK
  refine uB (fun a0 ha0=> ?_);have F0:a0.tmps[0]?=some (.slice ba l.length bc):=by rw [ha0];rfl
  have F2:a0.tmps[2]?=some (.int .i64 fr):=by rw [ha0];rfl
  have F3:a0.tmps[3]?=some (.int .i64 tt):=by rw [ha0];rfl
  have F6:a0.tmps[6]?=some (.int .i64 at'):=by rw [ha0];rfl
  have hsz:a0.tmps.size=51:=by rw [ha0];rfl
  have uH:Hid (∀ a1 wx,rA [35,36,37,38,39,40,41,42,43,44,45,46,47,48] a0 a1→a1.tmps[48]?=some (.bool (!decide (A=cD 4 (eF aq P))))→Grow w wx→K a1 wx):=ae (fun a1 wx ha h48 r0=>by
   refine hK _ _ (hJ _ _ ?_);refine ⟨a1.tmps.getD 35 undef,a1.tmps.getD 36 undef,a1.tmps.getD 37 undef,a1.tmps.getD 38 undef,a1.tmps.getD 39 undef,a1.tmps.getD 40 undef,a1.tmps.getD 41 undef,a1.tmps.getD 42 undef,a1.tmps.getD 43 undef,a1.tmps.getD 44 undef,a1.tmps.getD 45 undef,a1.tmps.getD 46 undef,a1.tmps.getD 47 undef,a1.tmps.getD 48 undef,⟨by rw [eQ,h48];rfl,r0⟩,ha.fill.trans ?_⟩;subst ha0;kernel_rfl)
  clear ha0 hK hJ e1 e2 e3;refine uD (CC ba bc l.length at' fr tt A P) (fun _ _ W=>Below w.heap.size w W) Grow [35,36,37,38,39,40,41,42,43,44,45,46,47,48] (by kernel_rfl) (by kernel_rfl) (by rw [hsz];rfl) CC.keep (az _) ?_ (fun a1 W hf=> ?_);rotate_left
  ·obtain ⟨v48,acr,arP⟩:=hf.slot 13 48 (by rfl) (by rfl)
   have arQ:v48=_:=arP;rw [arQ] at acr;exact uH.out a1 W hf.alike acr hf.world
  clear uH;refine ⟨?_,?_,?_,?_,?_,?_,?_,?_,?_,?_,?_,?_,?_,?_,True.intro⟩
  ·intro listed a W hf ak aj
   have hs1:=hf.sz hsz;have G0:=hf.got (by decide) F0 (by rw [hs1];decide);refine aR rfl (by rfl) (fun K' hK'=> ?_);go_simp;exact hK' _ _ ⟨_,rfl,(fun _ _=>rfl),aV _,hf.world⟩
  ·intro listed a W hf ak aj
   have hs1:=hf.sz hsz;have G6:=hf.got (by decide) F6 (by rw [hs1];decide);refine aR rfl (by rfl) (fun K' hK'=> ?_);go_simp;exact hK' _ _ ⟨_,rfl,(fun _ _=>rfl),aV _,hf.world⟩
  ·intro listed a W hf ak aj
   have hs1:=hf.sz hsz;have G2:=hf.got (by decide) F2 (by rw [hs1];decide);refine aR rfl (by rfl) (fun K' hK'=> ?_);go_simp;exact hK' _ _ ⟨_,rfl,(fun _ _=>rfl),aV _,hf.world⟩
  ·intro listed a W hf ak aj
   have hs1:=hf.sz hsz;have hB:Below w.heap.size w W:=hf.world;have G35:=aO (hf.sv 0 35 rfl (aH aj 0 (by kernel_rfl)) fun _ _ h=>h) (by rw [hs1];decide);have G36:=aO (hf.sv 1 36 rfl (aH aj 1 (by kernel_rfl)) fun _ _ h=>h) (by rw [hs1];decide);have G37:=aO (hf.sv 2 37 rfl (aH aj 2 (by kernel_rfl)) fun _ _ h=>h) (by rw [hs1];decide);have c1:fr≤bc:=by omega
   have c2:at'≤fr:=by omega
   refine aR rfl (by rfl) (fun K' hK'=> ?_);go_simp;exact hK' _ _ ⟨_,rfl,(fun _ _=>by have:=sS (H.out.grow hB) (i:=at') (j:=fr) (by omega) (by omega);rw [show fr-at'=4 by (have:=oz.out;omega),HA.out] at this;rw [show fr-at'=4 by (have:=oz.out;omega)];exact this),aV _,hf.world⟩
  ·intro listed a W hf ak aj
   have hs1:=hf.sz hsz;have G0:=hf.got (by decide) F0 (by rw [hs1];decide);refine aR rfl (by rfl) (fun K' hK'=> ?_);go_simp;exact hK' _ _ ⟨_,rfl,(fun _ _=>rfl),aV _,hf.world⟩
  ·intro listed a W hf ak aj
   have hs1:=hf.sz hsz;have G2:=hf.got (by decide) F2 (by rw [hs1];decide);refine aR rfl (by rfl) (fun K' hK'=> ?_);go_simp;exact hK' _ _ ⟨_,rfl,(fun _ _=>rfl),aV _,hf.world⟩
  ·intro listed a W hf ak aj
   have hs1:=hf.sz hsz;have G3:=hf.got (by decide) F3 (by rw [hs1];decide);refine aR rfl (by rfl) (fun K' hK'=> ?_);go_simp;exact hK' _ _ ⟨_,rfl,(fun _ _=>rfl),aV _,hf.world⟩
  ·intro listed a W hf ak aj
   have hs1:=hf.sz hsz;have hB:Below w.heap.size w W:=hf.world;have G39:=aO (hf.sv 4 39 rfl (aH aj 4 (by kernel_rfl)) fun _ _ h=>h) (by rw [hs1];decide);have G40:=aO (hf.sv 5 40 rfl (aH aj 5 (by kernel_rfl)) fun _ _ h=>h) (by rw [hs1];decide);have G41:=aO (hf.sv 6 41 rfl (aH aj 6 (by kernel_rfl)) fun _ _ h=>h) (by rw [hs1];decide);have c1:tt≤bc:=by omega
   have c2:fr≤tt:=by omega
   refine aR rfl (by rfl) (fun K' hK'=> ?_);go_simp;exact hK' _ _ ⟨_,rfl,(fun _ _=>by have:=sS (H.out.grow hB) (i:=fr) (j:=tt) (by omega) (by omega);rw [show tt-fr=n by (have:=Htt.out;omega),HP.out] at this;rw [show tt-fr=n by (have:=Htt.out;omega)];exact this),aV _,hf.world⟩
  ·intro listed a W hf ak aj
   have hs1:=hf.sz hsz;have hB:Below w.heap.size w W:=hf.world;obtain ⟨v7,s7,q7⟩:=hf.slot 7 42 rfl (aH aj 7 (by kernel_rfl));have G42:=aO s7 (by rw [hs1];decide);obtain ⟨xa,xc,rfl⟩:=Bv.slice q7;refine aR rfl (by rfl) (fun K' hK'=> ?_);go_simp;exact hK' _ (W.alloc (.cells #[.slice xa P.length xc] 49)) ⟨_,rfl,(fun _ _=>⟨W.heap.size,_,rfl,ax _ _,Bv.grow q7 (ar _ _)⟩),(ar _ _),hB.trans ((ar _ _).mono hB.size)⟩
  ·intro listed a W hf ak aj
   have hs1:=hf.sz hsz;have hB:Below w.heap.size w W:=hf.world;obtain ⟨v8,s8,q8⟩:=hf.slot 8 43 rfl (aH aj 8 (by kernel_rfl));obtain ⟨b8,p8,q8,c8,d8⟩:=q8;have q8':v8=_:=q8;subst q8';have G43:=aO s8 (by rw [hs1];decide);refine jE rfl (by rfl) (by go_simp) (Oi c8 d8) ?_;rintro e w7 ⟨rfl,cG⟩;exact ⟨_,rfl,_,rfl,(fun _ _=>rfl),cG,hB.trans (cG.mono hB.size)⟩
  ·intro listed a W hf ak aj
   have hs1:=hf.sz hsz;have hB:Below w.heap.size w W:=hf.world;have G44:=aO (hf.sv 9 44 rfl (aH aj 9 (by kernel_rfl)) fun _ _ h=>h) (by rw [hs1];decide);have hwr:IntKind.u64.wrap ((eF aq P:Nat):Int)=((eF aq P:Nat):Int):=by have:=zV P;simp [IntKind.wrap,IntKind.bits,IntKind.signed];omega
   refine aR rfl (by rfl) (fun K' hK'=> ?_);go_simp;exact hK' _ _ ⟨_,rfl,(fun _ _=>rfl),aV _,hf.world⟩
  ·intro listed a W hf ak aj
   have hs1:=hf.sz hsz;have hB:Below w.heap.size w W:=hf.world;have G45:=aO (hf.sv 10 45 rfl (aH aj 10 (by kernel_rfl)) fun _ _ h=>h) (by rw [hs1];decide);refine jE rfl (by rfl) (by go_simp) (acg (B:=W.heap.size) (l:= []) (nO _ _ W) (aw _) (by simp) _ (zV P)) ?_;rintro e w7 ⟨v7,rfl,jT,cG⟩;exact ⟨_,rfl,_,rfl,(fun _ _=>cI jT),cG,hB.trans (cG.mono hB.size)⟩
  ·intro listed a W hf ak aj
   have hs1:=hf.sz hsz;have hB:Below w.heap.size w W:=hf.world;obtain ⟨v3,s3,q3⟩:=hf.slot 3 38 rfl (aH aj 3 (by kernel_rfl));have G38:=aO s3 (by rw [hs1];decide);obtain ⟨v11,CD,FB⟩:=hf.slot 11 46 rfl (aH aj 11 (by kernel_rfl));have G46:=aO CD (by rw [hs1];decide);have q3b:Bv W v3 A:=q3;have asa:Bv W v11 (cD 4 (eF aq P)):=FB;refine jE rfl (by rfl) (by go_simp) (TV q3b asa) ?_;rintro e w7 ⟨rfl,cG⟩;exact ⟨_,rfl,_,rfl,(fun _ _=>rfl),cG,hB.trans (cG.mono hB.size)⟩
  ·intro listed a W hf ak aj
   have hs1:=hf.sz hsz;have hB:Below w.heap.size w W:=hf.world;have G47:=aO (hf.sv 12 47 rfl (aH aj 12 (by kernel_rfl)) fun _ _ h=>h) (by rw [hs1];decide);refine aR rfl (by rfl) (fun K' hK'=> ?_);go_simp;exact hK' _ _ ⟨_,rfl,(fun _ _=>rfl),aV _,hf.world⟩
 case rest=>
  obtain ⟨rfl,hg⟩:=hcut;by_cases h4:A=cD 4 (eF aq P)
  ·rw [if_neg (by simpa using h4)] at oA
   have e4:decide (A=cD 4 (eF aq P))=true:=by simpa using h4
   rw [e4];clear h4 e4;go_wp2;go_ret3;rw [oA.out];exact ⟨rfl,hg⟩
  ·rw [if_pos h4] at oA
   have e4:decide (A=cD 4 (eF aq P))=false:=by simpa using h4
   rw [e4];clear h4 e4;go_wp2;go_ret3;rw [oA.out];exact ⟨rfl,hg⟩
def lG (B:Nat) (w:World) (v:Value) (ps:List (List UInt8)):Prop:=
 ∃ vals,Row1 49 B w v vals∧vals.length=ps.length∧∀ (i:Nat) (u:Value) (p:List UInt8),vals[i]?=some u→ps[i]?=some p→aI B w u p
theorem asc (B:Nat) (w:World):lG B w (.slice none 0 0) []:=⟨[],nO _ _ _,rfl,fun i u p h=>by simp at h⟩
theorem lG.slice {ps:List (List UInt8)} (h:lG B w v ps):∃ a c,v= .slice a ps.length c:=by
 obtain ⟨vals,h1,h2,_⟩:=h;obtain ⟨a,c,h3⟩:=h1.slice;exact ⟨a,c,by rw [h3,h2]⟩
theorem lG.grow {ps:List (List UInt8)} (h:lG B w v ps) (hg:Grow w w'):lG B w' v ps:=by
 obtain ⟨vals,h1,h2,h3⟩:=h;exact ⟨vals,h1.grow hg,h2,fun i u p hu hp=>(h3 i u p hu hp).grow hg⟩
theorem lG.rv {ps:List (List UInt8)} (h:lG B w v ps):Rv w v ps:=by
 obtain ⟨vals,h1,h2,h3⟩:=h;rcases h1 with ⟨rfl,rfl⟩|⟨g,cap,cur,rfl,hB,hg,hn,hc,hm,ht⟩
 ·have:ps= []:=iI h2.symm
  subst this;exact ⟨none,0,rfl,.inl rfl⟩
 ·have hrow:Row1 49 B w (.slice (some ⟨g,0,none⟩) vals.length cap) vals:= .inr ⟨g,cap,cur,rfl,hB,hg,hn,hc,hm,ht⟩
  refine ⟨some ⟨g,0,none⟩,cap,by rw [h2],.inr ⟨g,0,rfl,af hg,fun j p hp=> ?_⟩⟩;obtain ⟨u,hu⟩:∃ u,vals[j]?=some u:=by
   have:=(dG.1 hp).1;exact ⟨vals[j]'(by omega),by simp [show j<vals.length by omega]⟩
  exact ⟨u,by rw [Nat.zero_add];exact hrow.cells rfl hu,cI (h3 j u p hu hp)⟩
theorem aI.acy (h:aI B w v l):v.oneCell'=true:=by
 obtain ⟨a,c,rfl⟩:=h.slice;rfl
theorem acz {ps:List (List UInt8)} {p:List UInt8} (h:lG B w v ps) (hu:aI B w u p) (hB:B≤w.heap.size) (hlen:ps.length+1≤1000000000000):
  ∃ v' w',(Builtin.append_ #[131,131] 131 #[v,.slice (some ⟨w.heap.size,0,none⟩) 1 1]).run Tryz.prog (w.alloc (.cells #[u] 49))= .ok v' w'∧lG B w' v' (ps++ [p])∧Below B w w':=by
 obtain ⟨vals,h1,h2,h3⟩:=h;have ah:Grow w (w.alloc (.cells #[u] 49)):=ar _ _;have lH:Src Tryz.prog 1 131 (.slice (some ⟨w.heap.size,0,none⟩) 1 1) 1 [u] (w.alloc (.cells #[u] 49)):=
  Src.ofSlice _ Tryz.underlying131 _ _ _ _ rfl (cell_one_new w u _) (fun x hx=>by rw [cY.1 hx];exact hu.acy)
 obtain ⟨v',w',r1,r2,r3,r4⟩:=yb (ty:=131) Tryz.underlying131 Tryz.ye rfl (h1.grow ah) lH (by simp;omega) (by rw [h2];unfold maxLen;omega) (by rw [h2];omega);have hne:∀ b x q,aI B w x q→x.ownBlock=some b→w'.heap[b]?=w.heap[b]?:=fun b x q hx hb=>by
  have Ol:aI B (w.alloc (.cells #[u] 49)) x q:=hx.grow ah;obtain ⟨cur,hc⟩:=Ol.block hb;rw [r3.block b (af hc) (fun he=>(h1.grow ah).apart hc (by decide) he.symm)];exact ah.block b (hx.lt hb).2
 refine ⟨v',w',r1,⟨vals++ [u],r2,by simp [h2],fun i x q hx hq=> ?_⟩,below_grown (ah.mono hB) (by simp;omega) (h1.grow ah) r3⟩;by_cases hi:i<vals.length
 ·rw [sO hi] at hx
  rw [sO (by omega)] at hq;exact (h3 i x q hx hq).keep (fun b hb=>hne b x q (h3 i x q hx hq) hb)
 ·have hiv:i=vals.length:=by
   have:=(dG.1 hx).1;simp at this;omega
  subst hiv;simp at hx;rw [h2] at hq;simp at hq;subst hx hq;exact hu.keep (fun b hb=>hne b u p hu hb)
theorem asf (T:List Nat) (b:List UInt8) (h:(ix T b).2.2=0):0<(ix T b).2.1∧(ix T b).1≤(ix T b).2.1∧(ix T b).2.1≤b.length:=by
 unfold ix at h ⊢;split
 ·rename_i h1;rw [if_pos h1] at h;exact absurd h h1
 ·rename_i h1
  rw [if_neg h1] at h;split
  ·rename_i h2;rw [if_pos h2] at h;cases h
  ·rename_i h2
   rw [if_neg h2] at h;split
   ·rename_i h3;rw [if_pos h3] at h;cases h
   ·rename_i h3
    rw [if_neg h3] at h;split
    ·rename_i h4;rw [if_pos h4] at h;cases h
    ·simp;omega
def TW (w:World) (l:List UInt8) (ov av:Value) (wr:World):Prop:=
 ∃ (k at':Nat) (ps:List (List UInt8)),av= .int .i64 at'∧at'≤l.length∧lG w.heap.size wr ov ps∧ps.length≤at'∧(l.drop at').length<k∧lF aq l=(ps++(qB aq k (l.drop at')).1,at'+(qB aq k (l.drop at')).2.1,(qB aq k (l.drop at')).2.2)∧Grow w wr
theorem acA (h:Bv w bv l) (hl:l.length≤900000000000):
  Calls Tryz.prog 97 #[bv] w fun e w'=>∃ rv,e= .returned (.tuple #[rv,.int .i64 ((lF aq l).2.1:Nat),.int .i64 ((lF aq l).2.2:Nat)])∧lG w.heap.size w' rv (lF aq l).1∧Grow w w':=by
 obtain ⟨ba,bc,rfl⟩:=h.slice;have hbc:l.length≤bc:=by obtain ⟨_,_,he,hlc,_⟩:=h;cases he;exact hlc
 have H:=ae h;clear h;go_enter Tryz.func97,Tryz.ntmps97
 go_wp2_with fail
 go_loopw [5,6] (fun ov av wr=>TW w l ov av wr) (fun _ av _=>l.length-(intOf av).toNat)
 case atStart=>exact ⟨l.length+1,0,[],rfl,aY _,asc _ _,aw _,by simp,by simp [lF],aV _⟩
 case round=>
  obtain ⟨k,at',ps,rfl,hat,hown,hpl,hk,pL,hg⟩:=hrel;obtain ⟨k,rfl⟩:∃ k',k=k'+1:=⟨k-1,by omega⟩
  rw [qB] at pL;by_cases hlt:at'<l.length
  ·have hne:¬ l.drop at'= []:=by intro h0;have:=congrArg List.length h0;simp at this;omega
   rw [if_neg hne] at pL;have hcut:=sS (H.out.grow hg) (i:=at') (j:=l.length) (by omega) (aw _);rw [show (l.drop at').take (l.length-at')=l.drop at' from List.take_of_length_le (by simp),if_neg (by omega)] at hcut;have eY:=acn hcut (by simp;omega);have hle:=asf aq (l.drop at');have hlen:(l.drop at').length=l.length-at':=by simp
   have eB:(at':Int)<(l.length:Int):=by omega
   have c1:at'≤bc:=by omega
   have oz:=ae eY;have mD:=ae pL;have fX:=ae hown;have Hg:=ae hg;obtain ⟨oa,oc,rfl⟩:=hown.slice;clear hcut eY pL hown hg hne
   go_wp2_with fail
   (with_reducible refine oz.out.mono ?_);rintro e w2 ⟨rfl,hg2⟩;generalize ix aq (l.drop at')=R at*;obtain ⟨fr,tt,er⟩:=R;dsimp only at hle mD ⊢;by_cases her:er=0
   ·subst her
    obtain ⟨pM,qD,ib⟩:=hle rfl;rw [if_neg (by simp)] at mD;obtain ⟨i1,acB⟩:∃ i:Nat,i=at'+fr:=⟨_,rfl⟩
    obtain ⟨j1,Om⟩:∃ j:Nat,j=at'+tt:=⟨_,rfl⟩
    have s1:(at':Int)+(fr:Int)=(i1:Int):=by omega
    have s2:(at':Int)+(tt:Int)=(j1:Int):=by omega
    have hg3:=Hg.out.trans hg2;have hcut:=sS (H.out.grow hg3) (i:=i1) (j:=j1) (by omega) (by omega);have hP:(l.drop i1).take (j1-i1)=((l.drop at').drop fr).take (tt-fr):=by rw [List.drop_drop,acB,Om,show at'+tt-(at'+fr)=tt-fr by omega]
    rw [hP] at hcut;have uI:l.drop j1=(l.drop at').drop tt:=by rw [List.drop_drop,Om]
    have aHE:(((l.drop at').drop fr).take (tt-fr)).length≤900000000000:=by simp;omega
    generalize ((l.drop at').drop fr).take (tt-fr)=p at*;have b1:i1≤j1:=by omega
    have b2:j1≤bc:=by omega
    have b3:j1≤l.length:=by omega
    have b4:at'<j1:=by omega
    have e0:((0:Int) != 0)=false:=rfl;have Ju:=ae uI;have Jv:=ae (fX.out.grow hg2);have iQ:=ae hg3;have TX:=ae Om;clear hP uI hg3 hg2 acB Om oz hle qD ib pM fX;by_cases hb:bc=i1
    ·subst hb
     rw [if_pos rfl,Nat.sub_self,show j1-bc=0 by omega] at hcut;have Jw:=vX hcut (by omega);have TY:=ae Jw;clear Jw hcut
     go_wp2_with fail
     (with_reducible refine TY.out.mono ?_);rintro e w4 ⟨cv,rfl,sU,hg4⟩;have br:=iQ.out.trans hg4;obtain ⟨v',w',r1,r2,r3⟩:=acz (Jv.out.grow hg4) (sU.mono iQ.out.size) br.size (by omega);obtain ⟨ca,cc,rfl⟩:=sU.slice;have hrel:TW w l v' (.int .i64 j1) w':=by
      refine ⟨k,j1,ps++ [p],rfl,b3,r2,by simp;omega,?_,?_,Below.trans br r3⟩
      ·simp at hk ⊢;omega
      ·rw [mD.out,Ju.out,TX.out]
       refine Prod.ext (by simp) (Prod.ext ?_ rfl);simp;omega
     have aX:=ae hrel;have cW:=ae r1;clear hrel r1 r2 r3 sU hg4 br
     go_wp2_with (at_builtin;refine fI rfl rfl rfl rfl cW.out ?_)
     go_roundw
     case rel=>exact aX.out
     case measure=>simp [intOf];omega
    ·skip
     rw [if_neg hb] at hcut;have Jw:=vX hcut (by omega);have TY:=ae Jw;clear Jw hcut
     go_wp2_with fail
     (with_reducible refine TY.out.mono ?_);rintro e w4 ⟨cv,rfl,sU,hg4⟩;have br:=iQ.out.trans hg4;obtain ⟨v',w',r1,r2,r3⟩:=acz (Jv.out.grow hg4) (sU.mono iQ.out.size) br.size (by omega);obtain ⟨ca,cc,rfl⟩:=sU.slice;have hrel:TW w l v' (.int .i64 j1) w':=by
      refine ⟨k,j1,ps++ [p],rfl,b3,r2,by simp;omega,?_,?_,Below.trans br r3⟩
      ·simp at hk ⊢;omega
      ·rw [mD.out,Ju.out,TX.out]
       refine Prod.ext (by simp) (Prod.ext ?_ rfl);simp;omega
     have aX:=ae hrel;have cW:=ae r1;clear hrel r1 r2 r3 sU hg4 br
     go_wp2_with (at_builtin;refine fI rfl rfl rfl rfl cW.out ?_)
     go_roundw
     case rel=>exact aX.out
     case measure=>simp [intOf];omega
   ·have e0:((er:Int) != 0)=true:=by simp;omega
    rw [if_pos her] at mD;have aHF:er≠0:=her;clear her;go_wp2;refine bodyPost_ret (v:= .tuple #[.slice oa ps.length oc,.int .i64 ((lF aq l).2.1:Nat),.int .i64 ((lF aq l).2.2:Nat)]) ?_ rfl ⟨_,rfl,?_,Hg.out.trans hg2⟩
    ·rw [mD.out]
     simp [results,Tryz.results97,go_sem]
    ·rw [mD.out]
     simp only [List.append_nil];exact fX.out.grow hg2
  ·have hdr:l.drop at'= []:=List.drop_eq_nil_of_le (by omega)
   rw [if_pos hdr] at pL;have mD:=ae pL;have fX:=ae hown;obtain ⟨oa,oc,rfl⟩:=hown.slice;have TR:l.length≤at':=by omega
   clear pL hown hdr hk;go_wp2;refine bodyPost_ret (v:= .tuple #[.slice oa ps.length oc,.int .i64 ((lF aq l).2.1:Nat),.int .i64 ((lF aq l).2.2:Nat)]) ?_ rfl ⟨_,rfl,?_,hg⟩
   ·rw [mD.out]
    simp [results,Tryz.results97,go_sem]
   ·rw [mD.out]
    simp only [List.append_nil];exact fX.out
end Go.Proofs.YtoolkdapflaeeaaGreatDoor
namespace Go.Proofs.YtoolkdapflaeeaaGreatDoor
open Go.RowKit Go.Gl Go.aF
open Go.MapKept (bytes_beq run_checkKey run_findKey IsKey)
section
theorem acC (k:ByteArray):∀ (l:List (aG ByteArray)) (i:Nat),Instr.findNow .string (.string k) (l.map (aG.raw Value.string)) i=some (mi k l i)
 | [],_=>rfl
 |e::es,i=>by
  simp only [cg,Instr.findNow,aG.raw,Instr.sameNow,mi];by_cases h:k=e.key
  ·have:(k==e.key)=true:=(bytes_beq _ _).2 h
   rw [this,if_pos h]
  ·have:(k==e.key)=false:=by
    cases hb:(k==e.key) with
    |false=>rfl
    |true=>exact absurd ((bytes_beq _ _).1 hb) h
   simp only [this,if_neg h];exact acC k es (i+1)
theorem zW:vT (κ:=ByteArray) Tryz.prog 9 Value.string where
 check:=fun b k w=>run_checkKey Tryz.underlying9 (by simp [IsKey]) b 9999
 same:=fun k=>by simp [Instr.sameBits,bytes_beq]
 find:=fun k l w=>run_findKey Tryz.underlying9 (acC k l 0)
theorem asg (w:World):(zeroValue 162).run Tryz.prog w= .ok (.pointer none) w:=by kernel_rfl
structure Fe where
 name:ByteArray
 born:Nat
 fb:Nat
 bv:Value
 b:List UInt8
 synced:Nat
def Fe.ay (f:Fe):aG ByteArray:=⟨f.name,.pointer (some ⟨f.fb,0,none⟩),f.born⟩
structure ash (B:Nat) (w:World) (f:Fe):Prop where
 cell:w.heap[f.fb]?=some (.cells #[f.bv,.int .i64 f.synced] 165 (0,0))
 row:aI B w f.bv f.b
 base:B≤f.fb
 sync:f.synced≤f.b.length
structure bU (B:Nat) (w:World) (p r:Nat) (size used born:Int) (fs:List Fe):Prop where
 self:w.heap[p]?=some (.cells #[.int .i64 size,.int .i64 used,.int .i64 born,.map (some r)] 125 (0,0))
 map:∃ clock,MapAt w r Value.string (fs.map Fe.ay) clock∧∀ f∈fs,f.born<clock
 names:(fs.map Fe.name).Nodup
 sV:(fs.map Fe.born).Nodup
 sW:(fs.map Fe.fb).Nodup
 rows:∀ f∈fs,∀ g∈fs,∀ b,f.bv.ownBlock=some b→g.bv.ownBlock=some b→f.name=g.name
 files:∀ f∈fs,ash B w f
 base:B≤p∧B≤r∧B≤w.heap.size
def dt (p r:Nat) (fs:List Fe) (b:Nat):Prop:=b=p∨b=r∨∃ f∈fs,b=f.fb∨f.bv.ownBlock=some b
structure Sep (F:Nat→Prop) (w w':World) (F':Nat→Prop):Prop where
 os:w'.os=w.os
 tape:w'.tape=w.tape
 output:w'.output=w.output
 size:w.heap.size≤w'.heap.size
 out:∀ b,b<w.heap.size→¬ F b→w'.heap[b]?=w.heap[b]?
 foot:∀ b,F' b→F b∨w.heap.size≤b
theorem Sep.refl (F:Nat→Prop) (w:World):Sep F w w F:=⟨rfl,rfl,rfl,aw _,fun _ _ _=>rfl,fun _ h=> .inl h⟩
theorem Sep.trans {vY:Nat→Prop} {w w' w'':World} (h:Sep F w w' F') (k:Sep F' w' w'' vY):Sep F w w'' vY:=
 ⟨k.os.trans h.os,k.tape.trans h.tape,k.output.trans h.output,aM h.size k.size,fun b hb hn=>by
  have mE:¬ F' b:=fun hf=>by
   rcases h.foot b hf with h1|h1
   ·exact hn h1
   ·omega
  rw [k.out b (cf hb h.size) mE,h.out b hb hn],fun b hb=>by
  rcases k.foot b hb with h1|h1
  ·exact h.foot b h1
  ·exact .inr (aM h.size h1)⟩
theorem Sep.bT {w w':World} (h:Grow w w'):Sep F w w' F:=
 ⟨h.os,h.tape,h.output,h.size,fun b hb _=>h.block b hb,fun _ h=> .inl h⟩
theorem Sep.free {w w':World} (h:Sep F w w' F') (hb:b<w.heap.size) (hn:¬ F b):w'.heap[b]?=w.heap[b]?∧b<w'.heap.size∧¬ F' b:=
 ⟨h.out b hb hn,cf hb h.size,fun hf=>by
  rcases h.foot b hf with h1|h1
  ·exact hn h1
  ·omega⟩
theorem Sep.below {w w':World} {B:Nat} (h:Sep F w w' F') (hB:∀ b,F b→B≤b) (hs:B≤w.heap.size):Below B w w':=
 ⟨h.os,h.tape,h.output,h.size,fun b hb=>h.out b (by omega) (fun hf=>by have:=hB b hf;omega)⟩
section
variable {B:Nat} {w w':World} {p r:Nat} {size used born:Int} {fs:List Fe}
theorem bU.acD (h:bU B w p r size used born fs) (hb:dt p r fs b):B≤b∧b<w.heap.size:=by
 obtain ⟨c,hm,_⟩:=h.map;rcases hb with rfl|rfl|⟨f,hf,rfl|hr⟩
 ·exact ⟨h.base.1,af h.self⟩
 ·exact ⟨h.base.2.1,af hm⟩
 ·exact ⟨(h.files f hf).base,af (h.files f hf).cell⟩
 ·exact (h.files f hf).row.lt hr
theorem bU.apart (h:bU B w p r size used born fs) (hb:w.heap[b]?=some (.cells arr t f)) (h1:t≠125) (h2:t≠165) (h3:t≠5):¬ dt p r fs b:=by
 obtain ⟨c,hm,_⟩:=h.map;rintro (rfl|rfl|⟨g,hg,rfl|hr⟩)
 ·rw [h.self] at hb;cases hb;exact h1 rfl
 ·rw [hm] at hb;cases hb
 ·rw [(h.files g hg).cell] at hb;cases hb;exact h2 rfl
 ·exact (h.files g hg).row.apart hb h3 hr
theorem bU.grow (h:bU B w p r size used born fs) (hg:Grow w w'):bU B w' p r size used born fs:=by
 obtain ⟨c,hm,hc⟩:=h.map;exact ⟨hg.heap h.self,⟨c,hg.heap hm,hc⟩,h.names,h.sV,h.sW,h.rows,fun f hf=>⟨hg.heap (h.files f hf).cell,(h.files f hf).row.grow hg,(h.files f hf).base,(h.files f hf).sync⟩,h.base.1,h.base.2.1,aM h.base.2.2 hg.size⟩
def fileOf (n:ByteArray) (fs:List Fe):Option Fe:=fs.find? (fun f=>decide (n=f.name))
def nP (n:ByteArray) (fs:List Fe):Value:=match fileOf n fs with|none=> .pointer none|some f=> .pointer (some ⟨f.fb,0,none⟩)
theorem sX {n:ByteArray} {f:Fe} (h:fileOf n fs=some f):f∈fs∧f.name=n:=by
 have:=List.find?_some h;exact ⟨List.mem_of_find?_eq_some h,by simpa using (by simpa using this:n=f.name).symm⟩
theorem CE {n:ByteArray} (h:fileOf n fs=none):∀ f∈fs,n≠f.name:=fun f hf=>by
 have:=List.find?_eq_none.1 h f hf;simpa using this
theorem asi (n:ByteArray) (fs:List Fe):Ct n (.pointer none) (fs.map Fe.ay)=nP n fs:=by
 unfold Ct nP fileOf
 induction fs with
 |nil=>rfl
 |cons f fs ih=>
  simp only [cg,List.find?_cons];by_cases h:n=f.name
  ·simp [Fe.ay,h]
  ·have h':n≠f.ay.key:=h
   simp only [h,h',decide_false];exact ih
theorem bU.lookup (h:bU B w p r size used born fs) (n:ByteArray):(Instr.lookup 123 (.map (some r)) (.string n) false).run Tryz.prog w= .ok (nP n fs) w:=by
 obtain ⟨c,hm,_⟩:=h.map;rw [abC zW Tryz.underlying123 (asg w) hm n,asi]
theorem bU.cells (h:bU B w p r size used born fs):w.cell? ⟨p,0,none⟩=some (.int .i64 size)∧w.cell? ⟨p,1,none⟩=some (.int .i64 used)∧w.cell? ⟨p,2,none⟩=some (.int .i64 born)∧w.cell? ⟨p,3,none⟩=some (.map (some r)):=by
 simp [World.cell?,h.self]
end
end
end Go.Proofs.YtoolkdapflaeeaaGreatDoor
namespace Go.Proofs.YtoolkdapflaeeaaGreatDoor
open Go.RowKit Go.Gl Go.aF
theorem asj (size:Int) (w:World) (h1:1≤size) (h2:size≤1073741824):
  Calls Tryz.prog 20 #[.int .i64 size] w fun e w'=>e= .returned (.tuple #[.pointer (some ⟨w.heap.size+1,0,none⟩),.int .i64 0])∧bU w.heap.size w' (w.heap.size+1) w.heap.size size 0 0 []∧Grow w w':=by
 have kA:= @run_makeMap Tryz.prog;go_enter Tryz.func20,Tryz.ntmps20;go_wp2;go_ret2;refine ⟨rfl,⟨?_,⟨0,?_,(fun f hf=>by cases hf)⟩,List.nodup_nil,List.nodup_nil,List.nodup_nil,(fun f hf=>by cases hf),(fun f hf=>by cases hf),by omega,aw _,by simp;omega⟩,by ((repeat (first|exact bS _ _|assumption|refine cz ?_|refine cA ?_|refine cj ?_ ?_ _|refine cy ?_ ?_ _))<;>try (first|omega|(simp<;>omega)))⟩
 ·have:=ax (w.alloc (.map #[] 0)) (.cells #[.int .i64 size,.int .i64 0,.int .i64 0,.map (some w.heap.size)] 125)
  simpa using this
 ·exact (heap_alloc_old _ _ (by simp)).trans (ax _ _)
def zX (c:UInt8):Bool:=(decide (97≤c.toNat)&&decide (c.toNat≤122))||(decide (48≤c.toNat)&&decide (c.toNat≤57))||decide (c.toNat=45)||decide (c.toNat=46)
def kC (s:ByteArray):Prop:=1≤s.size∧s.size≤64∧∀ (i:Nat) (h:i<s.size),zX s[i]=true
def asl (w:World) (s:ByteArray) (iv:Value) (wr:World):Prop:=∃ i:Nat,iv= .int .i64 i∧i≤s.size∧wr=w
theorem FC {s:ByteArray} (h:kC s) (w:World):Calls Tryz.prog 125 #[.string s] w fun e w'=>e= .returned (.bool true)∧w'=w:=by
 obtain ⟨hs1,hs2,hall⟩:=h;have gj:=ae hall;have e1:decide ((s.size:Int)<1)=false:=by simp;omega
 have e2:decide ((64:Int)<(s.size:Int))=false:=by simp;omega
 clear hall;go_enter Tryz.func125,Tryz.ntmps125
 go_wp2_with fail
 go_loopw [15] (fun iv wr=>asl w s iv wr) (fun iv _=>s.size-(intOf iv).toNat)
 case atStart=>exact ⟨0,rfl,aY _,rfl⟩
 case round=>
  obtain ⟨i,rfl,hi,hwr⟩:=hrel;have yf:=hwr.symm;subst yf;clear hwr;by_cases hlt:i<s.size
  ·have eB:(i:Int)<(s.size:Int):=by omega
   have bO:(0:Int)≤(i:Int):=by omega
   have fE:IntKind.i64.wrap ((i:Int)+1)=(i:Int)+1:=aS _ (by omega);have hc:=gj.out i hlt;have iR:(97≤s[i].toNat∧s[i].toNat≤122)∨(48≤s[i].toNat∧s[i].toNat≤57)∨s[i].toNat=45∨s[i].toNat=46:=by
    simp only [zX,Bool.or_eq_true,Bool.and_eq_true,decide_eq_true_eq] at hc;rcases hc with ((h|h)|h)|h
    ·exact .inl h
    ·exact .inr (.inl h)
    ·exact .inr (.inr (.inl h))
    ·exact .inr (.inr (.inr h))
   clear hc
   go_upto_region 7 with fail
   generalize s[i].toNat=k at*;rcases iR with h|h|h|h
   ·have Hk:=ae h
    have f1:decide ((97:Int)≤(k:Int))=true:=by simp;omega
    have f2:decide ((k:Int)≤122)=true:=by simp;omega
    clear h;go_wp2;go_roundw
    case rel=>exact ⟨i+1,by simp,hlt,rfl⟩
    case measure=>simp [intOf];omega
   ·have Hk:=ae h
    have f1:decide ((97:Int)≤(k:Int))=false:=by simp;omega
    have f3:decide ((48:Int)≤(k:Int))=true:=by simp;omega
    have f4:decide ((k:Int)≤57)=true:=by simp;omega
    clear h;go_wp2;go_roundw
    case rel=>exact ⟨i+1,by simp,hlt,rfl⟩
    case measure=>simp [intOf];omega
   ·have Hk:=ae h
    have f1:decide ((97:Int)≤(k:Int))=false:=by simp;omega
    have f3:decide ((48:Int)≤(k:Int))=false:=by simp;omega
    have f5:((k:Int)==45)=true:=by simp;omega
    clear h;go_wp2;go_roundw
    case rel=>exact ⟨i+1,by simp,hlt,rfl⟩
    case measure=>simp [intOf];omega
   ·have Hk:=ae h
    have f1:decide ((97:Int)≤(k:Int))=false:=by simp;omega
    have f3:decide ((48:Int)≤(k:Int))=false:=by simp;omega
    have f5:((k:Int)==45)=false:=by simp;omega
    have f6:((k:Int)==46)=true:=by simp;omega
    clear h;go_wp2;go_roundw
    case rel=>exact ⟨i+1,by simp,hlt,rfl⟩
    case measure=>simp [intOf];omega
  ·obtain rfl:i=s.size:=by omega
   go_wp2;go_ret;exact ⟨rfl,rfl⟩
theorem acE {size:Int} {fs:List Fe} (h:bU B w p r size used born fs) (n:ByteArray) (hb:∀ f∈fs,f.b.length≤140737488355328):
  Calls Tryz.prog 34 #[.pointer (some ⟨p,0,none⟩),.string n] w fun e w'=>
   (match fileOf n fs with
    |none=>e= .returned (.tuple #[.slice none 0 0,.int .i64 4])
    |some f=>∃ v,e= .returned (.tuple #[v,.int .i64 0])∧aI w.heap.size w' v f.b)∧Grow w w':=by
 have hlk:=h.lookup n;obtain ⟨c0,c1,c2,c3⟩:=h.cells;have lp:=af h.self;cases hf:fileOf n fs with
 |none=>
  simp only [nP,hf] at hlk;have Hf:=ae hf;clear hf;go_enter Tryz.func34,Tryz.ntmps34;go_wp2;go_ret2;exact ⟨rfl,aV _⟩
 |some f=>
  simp only [nP,hf] at hlk;obtain ⟨hm,hn⟩:=sX hf;have bq:=h.files f hm;have aQ:=vX (cI bq.row) (hb f hm);obtain ⟨ba,bc,bC⟩:=bq.row.slice;have q0:w.cell? ⟨f.fb,0,none⟩=some (.slice ba (dE f.b).length bc):=by simp [World.cell?,bq.cell,bC]
  have lf:=af bq.cell;rw [bC] at aQ;have gp:=ae aQ;clear aQ hf bq bC;go_enter Tryz.func34,Tryz.ntmps34
  go_wp2_with fail
  (with_reducible refine gp.out.mono ?_);rintro e w1 ⟨v1,rfl,oB,hg1⟩;go_wp2;go_ret2;exact ⟨⟨_,rfl,oB⟩,hg1⟩
section
abbrev Vw:=List (ByteArray×List UInt8×Nat)
def vw (fs:List Fe):Vw:=fs.map fun f=>(f.name,f.b,f.synced)
section
variable {B:Nat} {w w':World} {p r:Nat} {size used born:Int} {fs:List Fe}
theorem Oo (h:(fs.map Fe.name).Nodup) {a b:Fe} (ha:a∈fs) (hb:b∈fs) (hk:a.name=b.name):a=b:=by
 induction fs with
 |nil=>cases ha
 |cons x fs ih=>
  simp only [cg,List.nodup_cons,aZ,not_exists,not_and] at h;rcases bE.1 ha with rfl|ha'<;>rcases bE.1 hb with rfl|hb'
  ·rfl
  ·exact absurd hk.symm (h.1 b hb')
  ·exact absurd hk (h.1 a ha')
  ·exact ih h.2 ha' hb'
theorem TZ (h:(fs.map Fe.fb).Nodup) {a b:Fe} (ha:a∈fs) (hb:b∈fs) (hk:a.fb=b.fb):a=b:=by
 induction fs with
 |nil=>cases ha
 |cons x fs ih=>
  simp only [cg,List.nodup_cons,aZ,not_exists,not_and] at h;rcases bE.1 ha with rfl|ha'<;>rcases bE.1 hb with rfl|hb'
  ·rfl
  ·exact absurd hk.symm (h.1 b hb')
  ·exact absurd hk (h.1 a ha')
  ·exact ih h.2 ha' hb'
theorem bU.CF (h:bU B w p r size used born fs):p≠r:=by
 obtain ⟨c,hm,_⟩:=h.map;rintro rfl;rw [MapAt,h.self] at hm;cases hm
theorem bU.zY (h:bU B w p r size used born fs) {f:Fe} (hf:f∈fs):f.fb≠p∧f.fb≠r:=by
 obtain ⟨c,hm,_⟩:=h.map;have hc:=(h.files f hf).cell;constructor
 ·intro e;rw [e,h.self] at hc;simp at hc
 ·intro e;rw [e,hm] at hc;cases hc
theorem bU.uJ (h:bU B w p r size used born fs) {f:Fe} (hf:f∈fs) (hb:f.bv.ownBlock=some b):b≠p∧b≠r∧∀ g∈fs,b≠g.fb:=by
 obtain ⟨c,hm,_⟩:=h.map;obtain ⟨cur,hc⟩:=(h.files f hf).row.block hb;refine ⟨fun e=> ?_,fun e=> ?_,fun g hg e=> ?_⟩
 ·rw [e,h.self] at hc;cases hc
 ·rw [e,hm] at hc;cases hc
 ·rw [e,(h.files g hg).cell] at hc;cases hc
theorem bU.FD (h:bU B w p r size used born fs) (sY:Int):bU B (w.setCell ⟨p,1,none⟩ (.int .i64 sY)) p r size sY born fs∧Sep (dt p r fs) w (w.setCell ⟨p,1,none⟩ (.int .i64 sY)) (dt p r fs):=by
 obtain ⟨c,hm,hc⟩:=h.map;have ho:∀ b,b≠p→(w.setCell ⟨p,1,none⟩ (.int .i64 sY)).heap[b]?=w.heap[b]?:=fun b hb=>aP _ _ _ _ hb
 refine ⟨⟨aK h.self 1 _,⟨c,(ho r (Ne.symm h.CF)).trans hm,hc⟩,h.names,h.sV,h.sW,h.rows,fun f hf=> ?_,h.base.1,h.base.2.1,by simpa using h.base.2.2⟩,⟨rfl,rfl,rfl,by simp,fun b _ hn=>ho b (fun e=>hn (.inl e)),fun b hb=> .inl hb⟩⟩;have bq:=h.files f hf;exact ⟨(ho _ (h.zY hf).1).trans bq.cell,bq.row.keep (fun b hb=>ho b (h.uJ hf hb).1),bq.base,bq.sync⟩
theorem bU.acF (h:bU B w p r size used born fs) {n:ByteArray} (hn:fileOf n fs=none) (hm:MapAt w r Value.string (fs.map Fe.ay) c) (hc:∀ f∈fs,f.born<c):
  bU B (cV (w.alloc (.cells #[.slice none 0 0,.int .i64 0] 165)) r (.map (((fs.map Fe.ay)++ [(⟨n,.pointer (some ⟨w.heap.size,0,none⟩),c⟩:aG ByteArray)]).map (aG.raw Value.string)).toArray (c+1))) p r size used born (fs++ [⟨n,c,w.heap.size,.slice none 0 0,[],0⟩])∧
  Sep (dt p r fs) w (cV (w.alloc (.cells #[.slice none 0 0,.int .i64 0] 165)) r (.map (((fs.map Fe.ay)++ [(⟨n,.pointer (some ⟨w.heap.size,0,none⟩),c⟩:aG ByteArray)]).map (aG.raw Value.string)).toArray (c+1))) (dt p r (fs++ [⟨n,c,w.heap.size,.slice none 0 0,[],0⟩])):=by
 have ng:=af hm;have hne:=CE hn;generalize hw2:cV (w.alloc (.cells #[.slice none 0 0,.int .i64 0] 165)) r (.map (((fs.map Fe.ay)++ [(⟨n,.pointer (some ⟨w.heap.size,0,none⟩),c⟩:aG ByteArray)]).map (aG.raw Value.string)).toArray (c+1))=w2;have ho:∀ b,b<w.heap.size→b≠r→w2.heap[b]?=w.heap[b]?:=fun b hb hbr=>by
  rw [←hw2,xW hbr];exact heap_alloc_old _ _ hb
 have hr2:MapAt w2 r Value.string ((fs++ [(⟨n,c,w.heap.size,.slice none 0 0,[],0⟩:Fe)]).map Fe.ay) (c+1):=by
  rw [←hw2];unfold MapAt;rw [xV (by simp;omega)];simp [Fe.ay]
 have fP:w2.heap[w.heap.size]?=some (.cells #[.slice none 0 0,.int .i64 0] 165 (0,0)):=by
  rw [←hw2,xW (by omega)];exact ax _ _
 have hsz:w2.heap.size=w.heap.size+1:=by rw [←hw2];simp [cV]
 refine ⟨⟨(ho p (af h.self) h.CF).trans h.self,⟨c+1,hr2,fun f hf=> ?_⟩,?_,?_,?_,?_,?_,h.base.1,h.base.2.1,by have:=h.base.2.2;omega⟩,⟨by rw [←hw2];rfl,by rw [←hw2];rfl,by rw [←hw2];rfl,by omega,fun b hb CG=>ho b hb (fun e=>CG (.inr (.inl e))),?_⟩⟩
 ·rcases cU.1 hf with h1|h1
  ·have:=hc f h1;omega
  ·obtain rfl:=cY.1 h1;simp
 ·rw [dD]
  refine List.nodup_append.2 ⟨h.names,by simp,fun a ha b hb=> ?_⟩;simp only [cg,List.map_nil,cY] at hb;subst hb;obtain ⟨f,hf,rfl⟩:=aZ.1 ha;exact Ne.symm (hne f hf)
 ·rw [dD]
  refine List.nodup_append.2 ⟨h.sV,by simp,fun a ha b hb=> ?_⟩;simp only [cg,List.map_nil,cY] at hb;subst hb;obtain ⟨f,hf,rfl⟩:=aZ.1 ha;have:=hc f hf;omega
 ·rw [dD]
  refine List.nodup_append.2 ⟨h.sW,by simp,fun a ha b hb=> ?_⟩;simp only [cg,List.map_nil,cY] at hb;subst hb;obtain ⟨f,hf,rfl⟩:=aZ.1 ha;have:=af (h.files f hf).cell;omega
 ·intro f hf g hg b hb1 hb2
  rcases cU.1 hf with h1|h1
  ·rcases cU.1 hg with h2|h2
   ·exact h.rows f h1 g h2 b hb1 hb2
   ·obtain rfl:=cY.1 h2;cases hb2
  ·obtain rfl:=cY.1 h1;cases hb1
 ·intro f hf
  rcases cU.1 hf with h1|h1
  ·have bq:=h.files f h1
   exact ⟨(ho _ (af bq.cell) (h.zY h1).2).trans bq.cell,bq.row.keep (fun b hb=>ho b (bq.row.lt hb).2 (h.uJ h1 hb).2.1),bq.base,bq.sync⟩
  ·obtain rfl:=cY.1 h1
   exact ⟨fP,nO _ _ _,h.base.2.2,aw _⟩
 ·rintro b (rfl|rfl|⟨f,hf,hb⟩)
  ·exact .inl (.inl rfl)
  ·exact .inl (.inr (.inl rfl))
  ·rcases cU.1 hf with h1|h1
   ·exact .inl (.inr (.inr ⟨f,h1,hb⟩))
   ·obtain rfl:=cY.1 h1
    rcases hb with rfl|hb
    ·exact .inr (aw _)
    ·cases hb
def jU (n:ByteArray) (v:Value) (x:List UInt8) (s:Nat) (fs:List Fe):List Fe:=fs.map fun g=>if g.name=n then {g with bv:=v,b:=x,synced:=s} else g
theorem Jy {n:ByteArray} {g:Fe} (h:g∈jU n v x s fs):∃ g0∈fs,g.name=g0.name∧g.fb=g0.fb∧g.born=g0.born∧((g0.name=n∧g.bv=v∧g.b=x∧g.synced=s)∨(g0.name≠n∧g=g0)):=by
 obtain ⟨g0,h0,rfl⟩:=aZ.1 h;refine ⟨g0,h0,?_⟩;by_cases hn:g0.name=n
 ·rw [if_pos hn];exact ⟨rfl,rfl,rfl,.inl ⟨hn,rfl,rfl,rfl⟩⟩
 ·rw [if_neg hn];exact ⟨rfl,rfl,rfl,.inr ⟨hn,rfl⟩⟩
theorem asm (n:ByteArray) (v:Value) (x:List UInt8) (s:Nat) (fs:List Fe):(jU n v x s fs).map Fe.ay=fs.map Fe.ay:=by
 unfold jU;rw [eX];refine iJ fun g _=> ?_
 simp only [Function.comp]
 split<;>rfl
theorem asn (n:ByteArray) (v:Value) (x:List UInt8) (s:Nat) (fs:List Fe):(jU n v x s fs).map Fe.name=fs.map Fe.name:=by
 unfold jU;rw [eX];refine iJ fun g _=> ?_
 simp only [Function.comp]
 split<;>rfl
theorem aso (n:ByteArray) (v:Value) (x:List UInt8) (s:Nat) (fs:List Fe):(jU n v x s fs).map Fe.born=fs.map Fe.born:=by
 unfold jU;rw [eX];refine iJ fun g _=> ?_
 simp only [Function.comp]
 split<;>rfl
theorem asp (n:ByteArray) (v:Value) (x:List UInt8) (s:Nat) (fs:List Fe):(jU n v x s fs).map Fe.fb=fs.map Fe.fb:=by
 unfold jU;rw [eX];refine iJ fun g _=> ?_
 simp only [Function.comp]
 split<;>rfl
theorem bU.put (h:bU B w p r size used born fs) {f:Fe} (hf:f∈fs) (hrow:aI B w1 v x) (hgr:w.grownBy w1 f.bv.ownBlock) (hown:∀ b,v.ownBlock=some b→f.bv.ownBlock=some b∨w.heap.size≤b)
  (h2:w2.heap[f.fb]?=some (.cells #[v,.int .i64 s] 165 (0,0))) (FE:w1.grownBy w2 (some f.fb)) (hs:s≤x.length):
  bU B w2 p r size used born (jU f.name v x s fs)∧Sep (dt p r fs) w w2 (dt p r (jU f.name v x s fs)):=by
 obtain ⟨c,hm,hc⟩:=h.map;have ho:∀ b,b<w.heap.size→f.bv.ownBlock≠some b→b≠f.fb→w2.heap[b]?=w.heap[b]?:=fun b hb h1 h3=>by
  rw [FE.block b (cf hb hgr.size) (fun e=>h3 (bk e)),hgr.block b hb (fun e=>h1 e.symm)]
 have asq:f.bv.ownBlock≠some p:=fun e=>(h.uJ hf e).1 rfl
 have asr:f.bv.ownBlock≠some r:=fun e=>(h.uJ hf e).2.1 rfl
 have jG:∀ b,v.ownBlock=some b→b≠f.fb:=fun b hb e=>by
  rcases hown b hb with h1|h1
  ·exact (h.uJ hf h1).2.2 f hf e
  ·have:=af (h.files f hf).cell;omega
 have hsz:w.heap.size≤w2.heap.size:=aM hgr.size FE.size;refine ⟨⟨(ho p (af h.self) asq (Ne.symm (h.zY hf).1)).trans h.self,⟨c,by rw [asm];exact (ho r (af hm) asr (Ne.symm (h.zY hf).2)).trans hm,fun g hg=> ?_⟩,by rw [asn];exact h.names,by rw [aso];exact h.sV,by rw [asp];exact h.sW,?_,?_,h.base.1,h.base.2.1,aM h.base.2.2 hsz⟩,
  ⟨FE.os.trans hgr.os,FE.tape.trans hgr.tape,FE.output.trans hgr.output,hsz,fun b hb hn=>ho b hb (fun e=>hn (.inr (.inr ⟨f,hf,.inr e⟩))) (fun e=>hn (.inr (.inr ⟨f,hf,.inl e⟩))),?_⟩⟩
 ·obtain ⟨g0,h0,_,_,hb,_⟩:=Jy hg
  rw [hb];exact hc g0 h0
 ·intro g hg g' eR b hb1 hb2
  obtain ⟨g0,h0,iy,Jz,_,hc0⟩:=Jy hg;obtain ⟨g1,h1,iO,aHG,_,hc1⟩:=Jy eR;rw [iy,iO];rcases hc0 with ⟨e0,hv0,_,_⟩|⟨e0,rfl⟩<;>rcases hc1 with ⟨e1,hv1,_,_⟩|⟨e1,rfl⟩
  ·rw [e0,e1]
  ·exfalso
   rw [hv0] at hb1;rcases hown b hb1 with h3|h3
   ·exact e1 (h.rows g' h1 f hf b hb2 h3)
   ·have:=((h.files g' h1).row.lt hb2).2;omega
  ·exfalso
   rw [hv1] at hb2;rcases hown b hb2 with h3|h3
   ·exact e0 (h.rows g h0 f hf b hb1 h3)
   ·have:=((h.files g h0).row.lt hb1).2;omega
  ·exact h.rows g h0 g' h1 b hb1 hb2
 ·intro g hg
  obtain ⟨g0,h0,iy,Jz,_,hc0⟩:=Jy hg;rcases hc0 with ⟨e0,hv0,hb0,hs0⟩|⟨e0,rfl⟩
  ·have iT:g0=f:=Oo h.names h0 hf e0
   subst iT;refine ⟨by rw [Jz,hv0,hs0];exact h2,?_,by rw [Jz];exact (h.files g0 h0).base,by rw [hs0,hb0];exact hs⟩;rw [hv0,hb0];exact hrow.keep (fun b hb=>FE.block b (hrow.lt hb).2 (fun e=>jG b hb (bk e)))
  ·have bq:=h.files g h0
   have hne:∀ b,g.bv.ownBlock=some b→f.bv.ownBlock≠some b:=fun b hb e=>e0 (h.rows g h0 f hf b hb e)
   have ass:g.fb≠f.fb:=fun e=>e0 (by rw [TZ h.sW h0 hf e])
   exact ⟨(ho _ (af bq.cell) (fun e=>(h.uJ hf e).2.2 g h0 rfl) ass).trans bq.cell,bq.row.keep (fun b hb=>ho b (bq.row.lt hb).2 (hne b hb) ((h.uJ h0 hb).2.2 f hf)),bq.base,bq.sync⟩
 ·rintro b (rfl|rfl|⟨g,hg,hb⟩)
  ·exact .inl (.inl rfl)
  ·exact .inl (.inr (.inl rfl))
  ·obtain ⟨g0,h0,iy,Jz,_,hc0⟩:=Jy hg
   rcases hb with rfl|hb
   ·exact .inl (.inr (.inr ⟨g0,h0,.inl Jz⟩))
   ·rcases hc0 with ⟨e0,hv0,_,_⟩|⟨e0,rfl⟩
    ·rw [hv0] at hb
     rcases hown b hb with h3|h3
     ·exact .inl (.inr (.inr ⟨f,hf,.inr h3⟩))
     ·exact .inr h3
    ·exact .inl (.inr (.inr ⟨g,h0,.inr hb⟩))
end
end
theorem Bv.keep (h:Bv w v l) (hs:w.heap.size≤w'.heap.size) (hk:∀ (b:Nat) (arr:Array Value) (t:TypeId) (f:Nat×Nat),w.heap[b]?=some (.cells arr t f)→w'.heap[b]?=w.heap[b]?):Bv w' v l:=by
 obtain ⟨a,c,hv,hl,hm,hn,h⟩:=h;refine ⟨a,c,hv,hl,hm,hn,?_⟩;rcases h with h|⟨b,o,ha,hb,hc⟩
 ·exact .inl h
 ·refine .inr ⟨b,o,ha,by omega,fun j k hj=> ?_⟩
  have h1:=hc j k hj;have:w'.heap[b]?=w.heap[b]?:=by
   unfold World.cell? at h1
   split at h1
   ·rename_i arr t f iU
    exact hk b _ _ _ iU
   ·cases h1
  rw [←h1];simp only [World.cell?,this]
def sZ (n:ByteArray) (x:List UInt8) (V:Vw):Vw:=if V.any (fun e=>decide (e.1=n))=true then V.map (fun e=>if e.1=n then (e.1,e.2.1++x,e.2.2) else e) else V++ [(n,x,0)]
theorem ast {fs:List Fe} (h:(fs.map Fe.name).Nodup) {f:Fe} (hf:f∈fs) (v:Value) (x:List UInt8):vw (jU f.name v (f.b++x) f.synced fs)=sZ f.name x (vw fs):=by
 unfold sZ;have asu:(vw fs).any (fun e=>decide (e.1=f.name))=true:=List.any_eq_true.2 ⟨_,aZ.2 ⟨f,hf,rfl⟩,by simp⟩;rw [if_pos asu];unfold vw jU;rw [eX,eX];refine iJ fun g hg=> ?_
 simp only [Function.comp];by_cases hn:g.name=f.name
 ·have:=Oo h hg hf hn
  subst this;simp
 ·simp [hn]
theorem asv {fs:List Fe} {n:ByteArray} (h:fileOf n fs=none) (c b:Nat) (v:Value) (x:List UInt8):vw (fs++ [(⟨n,c,b,v,x,0⟩:Fe)])=sZ n x (vw fs):=by
 unfold sZ;rw [if_neg]
 ·simp [vw]
 ·intro hc
  obtain ⟨e,he,h2⟩:=List.any_eq_true.1 hc;obtain ⟨f,hf,rfl⟩:=aZ.1 he;exact CE h f hf (by simpa using h2:f.name=n).symm
def JA (B:Nat) (w:World) (p r:Nat) (size used born:Int) (fs:List Fe) (n:ByteArray) (x:List UInt8) (e:Ending) (w':World):Prop:=
 e= .returned (.int .i64 0)∧∃ bH,bU B w' p r size (used+x.length) born bH∧Sep (dt p r fs) w w' (dt p r bH)∧vw bH=sZ n x (vw fs)
theorem asw {size:Int} {fs:List Fe} (h:bU B w p r size used born fs) {n:ByteArray} {f:Fe} (fQ:fileOf n fs=some f) (hn:kC n) (hq:w.heap[qb]?=some (.cells #[pv] 49 (0,0))) (hx:Bv w pv x) (hu:0≤used) (hroom:used+x.length≤size) (hsz:size≤1073741824) (ed:f.b.length≤1073741824):
  Calls Tryz.prog 78 #[.pointer (some ⟨p,0,none⟩),.string n,.slice (some ⟨qb,0,none⟩) 1 1] w (JA B w p r size used born fs n x):=by
 obtain ⟨c0,c1,c2,c3⟩:=h.cells;have lp:=af h.self;have p0:w.cell? ⟨qb,0,none⟩=some pv:=by simp [World.cell?,hq]
 have lq:=af hq;obtain ⟨xa,xc,rfl⟩:=hx.slice;have acH:¬ size<used+(x.length:Int):=by omega
 have Ua:decide (size<used+(x.length:Int))=false:=by simpa using hroom
 have cp:IntKind.i64.wrap (used+(x.length:Int))=used+(x.length:Int):=aS _ (by omega);have H:=ae h;have Hx:=ae hx;have lI:=ae fQ;have Hq:=ae hq;have aQ:=Grow.cells (w:=w);clear h hx fQ hq;go_enter Tryz.func78,Tryz.ntmps78
 go_wp2_with fail
 refine wp_loop_rounds 2 ?_;rw [rounds_succ]
 go_wp2_with fail
 rw [rounds_succ]
 go_wp2_with ((with_reducible refine (FC hn _).mono ?_);rintro e w1 ⟨rfl,hw⟩;have hw':=hw.symm;subst hw';clear hw)
 refine dz (fun W=>Below w.heap.size w W) [] (by kernel_rfl) (bK fun _ _ _ _ _ h=>h) (az _) ?_;simp only [cF]
 repeat ((first|(refine aA (v:= ?_) (by rfl) ?_ ?_;rotate_left;rintro W hW;go_simp;with_reducible rfl)|refine aB (by rfl) ?_);simp only [ai,List.set])
 refine bj ?_;have hgd:Grow w w.drew:=az w;have h1:=H.out.grow hgd;have hx1:=Hx.out.grow hgd;have zZ:=ae (hgd.heap Hq.out);clear c0 c1 c2 c3 lp p0 lq aQ;have hd:w.drew=w.drew:=rfl;generalize JB:w.drew=w1 at*;clear hd;have hlk:=h1.lookup n;obtain ⟨c0,c1,c2,c3⟩:=h1.cells;have lp:=af h1.self;obtain ⟨hm,iA⟩:=sX lI.out;simp only [nP,lI.out] at hlk;have bq:=h1.files f hm;have p0:w1.cell? ⟨qb,0,none⟩=some (.slice xa x.length xc):=by simp [World.cell?,zZ.out]
 have lq:=af zZ.out;obtain ⟨v',w2,r1,r2,r3,r4⟩:=rB bq.row hx1 h1.base.2.2 (by omega);obtain ⟨vV,vW,rfl⟩:=r2.slice;obtain ⟨ba,bc,bC⟩:=bq.row.slice;have q0:w1.cell? ⟨f.fb,0,none⟩=some (.slice ba (dE f.b).length bc):=by simp [World.cell?,bq.cell,bC]
 have lf:=af bq.cell;have asx:f.bv.ownBlock≠some f.fb:=fun e=>(h1.uJ hm e).2.2 f hm rfl
 have JC:w2.heap[f.fb]?=some (.cells #[f.bv,.int .i64 f.synced] 165 (0,0)):=by rw [r3.block _ lf (fun e=>asx e.symm)];exact bq.cell
 have hput:=h1.put hm (w2:=w2.setCell ⟨f.fb,0,none⟩ (.slice vV (dE (f.b++x)).length vW)) (s:=f.synced) r2 r3 (fun b hb=>by
  rcases r4 with h3|h3
  ·exact .inl (h3 ▸ hb)
  ·rw [h3] at hb;cases hb;exact .inr (aw _)) (aK JC 0 _) (je _ _ _ _) (by have:=bq.sync;simp;omega)
 obtain ⟨cP,hs2⟩:=hput;obtain ⟨fZ,hs3⟩:=cP.FD (used+x.length);have gP:Hid (JA B w p r size used born fs n x (.returned (.int .i64 0)) ((w2.setCell ⟨f.fb,0,none⟩ (.slice vV (dE (f.b++x)).length vW)).setCell ⟨p,1,none⟩ (.int .i64 (used+x.length)))):=ae ⟨rfl,_,fZ,((Sep.bT hgd).trans hs2).trans hs3,by rw [ast H.out.names hm,iA]⟩;obtain ⟨e0,e1,e2,e3⟩:=cP.cells;have l2:=af JC;have JD:=af cP.self;have f2:=bG JC;have z0:w2.cell? ⟨f.fb,0,none⟩=some f.bv:=by simp [World.cell?,JC]
 have f3:=bG cP.self;rw [bC] at r1;have cW:=ae r1;clear r1 r2 r3 r4 cP hs2 fZ hs3 JC bq bC h1 hx1 hm iA JB hgd
 go_wp2_with fail
 refine wp_loop_rounds 2 ?_;rw [rounds_succ]
 go_wp2_with (at_builtin;refine fI rfl rfl rfl rfl cW.out ?_)
 rw [rounds_succ];go_wp2;go_ret;exact gP.out
theorem asy {size:Int} {fs:List Fe} (h:bU B w p r size used born fs) {n:ByteArray} (fQ:fileOf n fs=none) (hn:kC n) (hq:w.heap[qb]?=some (.cells #[pv] 49 (0,0))) (hx:Bv w pv x) (hu:0≤used) (hroom:used+x.length≤size) (hsz:size≤1073741824):
  Calls Tryz.prog 78 #[.pointer (some ⟨p,0,none⟩),.string n,.slice (some ⟨qb,0,none⟩) 1 1] w (JA B w p r size used born fs n x):=by
 obtain ⟨c0,c1,c2,c3⟩:=h.cells;have lp:=af h.self;have p0:w.cell? ⟨qb,0,none⟩=some pv:=by simp [World.cell?,hq]
 have lq:=af hq;obtain ⟨xa,xc,rfl⟩:=hx.slice;have acH:¬ size<used+(x.length:Int):=by omega
 have Ua:decide (size<used+(x.length:Int))=false:=by simpa using hroom
 have cp:IntKind.i64.wrap (used+(x.length:Int))=used+(x.length:Int):=aS _ (by omega);have H:=ae h;have Hx:=ae hx;have lI:=ae fQ;have Hq:=ae hq;have aQ:=Grow.cells (w:=w);clear h hx fQ hq;go_enter Tryz.func78,Tryz.ntmps78
 go_wp2_with fail
 refine wp_loop_rounds 2 ?_;rw [rounds_succ]
 go_wp2_with fail
 rw [rounds_succ]
 go_wp2_with ((with_reducible refine (FC hn _).mono ?_);rintro e w1 ⟨rfl,hw⟩;have hw':=hw.symm;subst hw';clear hw)
 refine dz (fun W=>Below w.heap.size w W) [] (by kernel_rfl) (bK fun _ _ _ _ _ h=>h) (az _) ?_;simp only [cF]
 repeat ((first|(refine aA (v:= ?_) (by rfl) ?_ ?_;rotate_left;rintro W hW;go_simp;with_reducible rfl)|refine aB (by rfl) ?_);simp only [ai,List.set])
 refine bj ?_;have hgd:Grow w w.drew:=az w;have h1:=H.out.grow hgd;have hx1:=Hx.out.grow hgd;have zZ:=ae (hgd.heap Hq.out);clear c0 c1 c2 c3 lp p0 lq aQ;generalize JB:w.drew=w1 at*;have hlk:=h1.lookup n;obtain ⟨c0,c1,c2,c3⟩:=h1.cells;have lp:=af h1.self;simp only [nP,lI.out] at hlk;obtain ⟨ck,hmap,jH⟩:=h1.map;obtain ⟨cP,hs2⟩:=h1.acF lI.out hmap jH;have ah:Grow w1 (w1.alloc (.cells #[.slice none 0 0,.int .i64 0] 165)):=ar _ _;have Oq:=NU zW Tryz.underlying123 (ah.heap hmap) n (.pointer (some ⟨w1.heap.size,0,none⟩)) (fun e he=>by
  obtain ⟨f,hf,rfl⟩:=aZ.1 he;exact CE lI.out f hf)
 have acI:(w1.alloc (.cells #[.slice none 0 0,.int .i64 0] 165)).cell? ⟨p,3,none⟩=some (.map (some r)):=by rw [World.cell?_alloc_lt _ _ _ lp];exact c3
 have hro:∀ (b:Nat) (arr:Array Value) (t:TypeId) (f:Nat×Nat),w1.heap[b]?=some (.cells arr t f)→(cV (w1.alloc (.cells #[.slice none 0 0,.int .i64 0] 165)) r (.map (((fs.map Fe.ay)++ [(⟨n,.pointer (some ⟨w1.heap.size,0,none⟩),ck⟩:aG ByteArray)]).map (aG.raw Value.string)).toArray (ck+1))).heap[b]?=w1.heap[b]?:=fun b arr t f hb=>by
  rw [xW (fun e=>by rw [e,hmap] at hb;cases hb)];exact heap_alloc_old _ _ (af hb)
 have hx2:=hx1.keep (by simp [cV]) hro;have iV:=(hro _ _ _ _ zZ.out).trans zZ.out;have aHH:=iV;clear hro;have lp1:p<(w1.alloc (.cells #[.slice none 0 0,.int .i64 0] 165)).heap.size:=cf lp ah.size;generalize Ub:cV (w1.alloc (.cells #[.slice none 0 0,.int .i64 0] 165)) r (.map (((fs.map Fe.ay)++ [(⟨n,.pointer (some ⟨w1.heap.size,0,none⟩),ck⟩:aG ByteArray)]).map (aG.raw Value.string)).toArray (ck+1))=w2 at*;clear Ub;have qE:=ae ((Sep.bT hgd).trans hs2);have td:=ae cP;have Hx2:=ae hx2;have Hq2:=ae iV;clear hmap jH h1 hx1 hs2 cP hx2 iV ah JB hgd zZ
 go_upto_region 15 with fail
 clear Oq acI lp1 c0 c1 c2 c3 lp hlk;generalize w1.heap.size=fb at*;have cP:=td.out;have hm:(⟨n,ck,fb,.slice none 0 0,[],0⟩:Fe)∈fs++ [(⟨n,ck,fb,.slice none 0 0,[],0⟩:Fe)]:=by simp
 have bq:=cP.files _ hm;have p0:w2.cell? ⟨qb,0,none⟩=some (.slice xa x.length xc):=by simp [World.cell?,Hq2.out]
 have lq:=af Hq2.out;obtain ⟨v',w3,r1,r2,r3,r4⟩:=rB bq.row Hx2.out cP.base.2.2 (by simp;omega);obtain ⟨vV,vW,rfl⟩:=r2.slice;have Ot:w2.heap[fb]?=some (.cells #[.slice none 0 0,.int .i64 0] 165 (0,0)):=bq.cell;have q0:w2.cell? ⟨fb,0,none⟩=some (.slice none 0 0):=by simp [World.cell?,Ot]
 have lf:=af Ot;have JE:w3.heap[fb]?=some (.cells #[.slice none 0 0,.int .i64 0] 165 (0,0)):=by rw [r3.block _ lf (fun e=>by cases e)];exact Ot
 obtain ⟨fZ,hs3⟩:=cP.put hm (w2:=w3.setCell ⟨fb,0,none⟩ (.slice vV (dE ([]++x)).length vW)) (s:=0) r2 r3 (fun b hb=>by
  rcases r4 with h3|h3
  ·exact .inl (h3 ▸ hb)
  ·rw [h3] at hb;cases hb;exact .inr (aw _)) (aK JE 0 _) (je _ _ _ _) (aY _)
 obtain ⟨jV,jW⟩:=fZ.FD (used+x.length);have FH:vw (jU n (.slice vV (dE ([]++x)).length vW) ([]++x) 0 (fs++ [(⟨n,ck,fb,.slice none 0 0,[],0⟩:Fe)]))=sZ n x (vw fs):=by
  rw [←asv lI.out ck fb (.slice none 0 0) x];unfold vw jU;rw [eX,dD,dD];congr 1
  ·refine iJ fun g hg=> ?_
   have:g.name≠n:=Ne.symm (CE lI.out g hg);simp [Function.comp,this]
  ·simp
 have gP:Hid (JA B w p r size used born fs n x (.returned (.int .i64 0)) ((w3.setCell ⟨fb,0,none⟩ (.slice vV (dE ([]++x)).length vW)).setCell ⟨p,1,none⟩ (.int .i64 (used+x.length)))):=ae ⟨rfl,_,jV,(qE.out.trans hs3).trans jW,FH⟩;generalize lJ:(dE ([]++x)).length=ln at*;obtain ⟨e0,e1,e2,e3⟩:=fZ.cells;have l2:=af JE;have JD:=af fZ.self;have f2:=bG JE;have z0:w3.cell? ⟨fb,0,none⟩=some (.slice none 0 0):=by simp [World.cell?,JE]
 have f3:=bG fZ.self;have cW:=ae r1;clear r1 r2 r3 r4 cP fZ hs3 jV jW JE bq hm Ot FH lJ
 go_wp2_with fail
 refine wp_loop_rounds 2 ?_;rw [rounds_succ]
 go_wp2_with (at_builtin;refine fI rfl rfl rfl rfl cW.out ?_)
 rw [rounds_succ];go_wp2;go_ret;exact gP.out
theorem asB {size:Int} {fs:List Fe} (h:bU B w p r size used born fs) {n:ByteArray} (fQ:fileOf n fs=none) (hn:kC n)
  (hu:0≤used) (hroom:used≤size) (hsz:size≤1073741824):
  Calls Tryz.prog 78 #[.pointer (some ⟨p,0,none⟩),.string n,.slice none 0 0] w fun e w'=>e= .returned (.int .i64 0)∧∃ bH,bU B w' p r size used born bH∧Sep (dt p r fs) w w' (dt p r bH)∧vw bH=vw fs++ [(n,[],0)]:=by
 obtain ⟨c0,c1,c2,c3⟩:=h.cells;have lp:=af h.self;have acH:¬ size<used:=by omega
 have Ua:decide (size<used)=false:=by simpa using hroom
 have cp:IntKind.i64.wrap used=used:=aS _ (by omega);have H:=ae h;have lI:=ae fQ;have aQ:=Grow.cells (w:=w);clear h fQ;go_enter Tryz.func78,Tryz.ntmps78
 go_wp2_with fail
 refine wp_loop_rounds 1 ?_;rw [rounds_succ]
 go_wp2_with ((with_reducible refine (FC hn _).mono ?_);rintro e w1 ⟨rfl,hw⟩;have hw':=hw.symm;subst hw';clear hw)
 refine dz (fun W=>Below w.heap.size w W) [] (by kernel_rfl) (bK fun _ _ _ _ _ h=>h) (az _) ?_;simp only [cF]
 repeat ((first|(refine aA (v:= ?_) (by rfl) ?_ ?_;rotate_left;rintro W hW;go_simp;with_reducible rfl)|refine aB (by rfl) ?_);simp only [ai,List.set])
 refine bj ?_;have hgd:Grow w w.drew:=az w;have h1:=H.out.grow hgd;clear c0 c1 c2 c3 lp aQ;generalize JB:w.drew=w1 at*;have hlk:=h1.lookup n;obtain ⟨c0,c1,c2,c3⟩:=h1.cells;have lp:=af h1.self;simp only [nP,lI.out] at hlk;obtain ⟨ck,hmap,jH⟩:=h1.map;obtain ⟨cP,hs2⟩:=h1.acF lI.out hmap jH;have ah:Grow w1 (w1.alloc (.cells #[.slice none 0 0,.int .i64 0] 165)):=ar _ _;have Oq:=NU zW Tryz.underlying123 (ah.heap hmap) n (.pointer (some ⟨w1.heap.size,0,none⟩)) (fun e he=>by
  obtain ⟨f,hf,rfl⟩:=aZ.1 he;exact CE lI.out f hf)
 have acI:(w1.alloc (.cells #[.slice none 0 0,.int .i64 0] 165)).cell? ⟨p,3,none⟩=some (.map (some r)):=by rw [World.cell?_alloc_lt _ _ _ lp];exact c3
 have lp1:p<(w1.alloc (.cells #[.slice none 0 0,.int .i64 0] 165)).heap.size:=cf lp ah.size;generalize Ub:cV (w1.alloc (.cells #[.slice none 0 0,.int .i64 0] 165)) r (.map (((fs.map Fe.ay)++ [(⟨n,.pointer (some ⟨w1.heap.size,0,none⟩),ck⟩:aG ByteArray)]).map (aG.raw Value.string)).toArray (ck+1))=w2 at*;clear Ub;obtain ⟨jV,jW⟩:=cP.FD used;obtain ⟨e0,e1,e2,e3⟩:=cP.cells;have JD:=af cP.self;have f3:=bG cP.self;have gP:Hid (∃ bH,bU B (w2.setCell ⟨p,1,none⟩ (.int .i64 used)) p r size used born bH∧Sep (dt p r fs) w (w2.setCell ⟨p,1,none⟩ (.int .i64 used)) (dt p r bH)∧vw bH=vw fs++ [(n,[],0)]):=ae ⟨_,jV,((Sep.bT hgd).trans hs2).trans jW,by simp [vw]⟩;clear hmap jH h1 hs2 cP ah JB hgd jV jW
 go_wp2_with fail
 refine wp_loop_rounds 1 ?_;rw [rounds_succ];go_wp2;go_ret;exact ⟨rfl,gP.out⟩
theorem asC {size:Int} {fs:List Fe} (h:bU B w p r size used born fs) (n:ByteArray) {bx:Nat} (hb:w.heap[bx]?=some (.cells #[.pointer (some ⟨p,0,none⟩)] 40 (0,0))):
  Calls Tryz.prog 163 #[.string n,.pointer (some ⟨bx,0,none⟩)] w fun e w'=>e= .returned (.bool (fileOf n fs).isNone)∧w'=w:=by
 have hlk:=h.lookup n;obtain ⟨c0,c1,c2,c3⟩:=h.cells;have lp:=af h.self;have b0:w.cell? ⟨bx,0,none⟩=some (.pointer (some ⟨p,0,none⟩)):=by simp [World.cell?,hb]
 have lb:=af hb;cases hf:fileOf n fs with
 |none=>
  simp only [nP,hf] at hlk;clear hf;go_enter Tryz.func163,Tryz.ntmps163;go_wp2;go_ret;exact ⟨rfl,rfl⟩
 |some f=>
  simp only [nP,hf] at hlk;clear hf;go_enter Tryz.func163,Tryz.ntmps163;go_wp2;go_ret;exact ⟨rfl,rfl⟩
theorem acL {w:World} {n:ByteArray} (hq:w.heap[qb]?=some (.cells #[.string n] 9 (0,0))) {fn:FuncId} {fv:Value} {b:Bool} (hfn:∃ F,Tryz.prog.funcs[fn]?=some F∧F.params.size=1)
  (hc:Calls Tryz.prog fn #[.string n,fv] w fun e w'=>e= .returned (.bool b)∧w'=w) (asD:∀ args w,(callFunc fn args).run Tryz.prog w= .ok (.enter fn args) w):
  Calls Tryz.prog 69 #[.slice (some ⟨qb,0,none⟩) 1 1,.func (.func fn) #[] #[fv]] w fun e w'=>e= .returned (.bool b)∧w'=w:=by
 have q0:w.cell? ⟨qb,0,none⟩=some (.string n):=by simp [World.cell?,hq]
 have lq:=af hq;have CH:Calls Tryz.prog 120 #[.slice (some ⟨qb,0,none⟩) 1 1,.func (.func fn) #[] #[fv]] w fun e w'=>e= .returned (.int .i64 (if b then 0 else -1))∧w'=w:=by
  have Hc:=ae hc;clear hc hq;go_enter Tryz.func120,Tryz.ntmps120
  go_wp2_with fail
  refine wp_loop_rounds 2 ?_;rw [rounds_succ]
  go_wp2_with fail
  (with_reducible refine Hc.out.mono ?_);rintro e w1 ⟨rfl,hw⟩;have hw':=hw.symm;subst hw';clear hw;cases b with
  |true=>
   go_wp2;go_ret;exact ⟨rfl,rfl⟩
  |false=>
   go_wp2_with fail
   rw [rounds_succ];go_wp2;go_ret;exact ⟨rfl,rfl⟩
 have FI:=ae CH;clear CH hc hq;go_enter Tryz.func69,Tryz.ntmps69
 go_wp2_with fail
 (with_reducible refine FI.out.mono ?_);rintro e w1 ⟨rfl,hw⟩;have hw':=hw.symm;subst hw';clear hw;cases b<;>(go_wp2;go_ret;exact ⟨rfl,rfl⟩)
theorem Uc {size:Int} {fs:List Fe} (h:bU B w p r size used born fs) (n:ByteArray) (hq:w.heap[qb]?=some (.cells #[.string n] 9 (0,0))):
  Calls Tryz.prog 113 #[.pointer (some ⟨p,0,none⟩),.slice (some ⟨qb,0,none⟩) 1 1] w fun e w'=>e= .returned (.bool (fileOf n fs).isSome)∧Grow w w':=by
 have ah:Grow w (w.alloc (.cells #[.pointer (some ⟨p,0,none⟩)] 40)):=ar _ _;have hb1:=ax w (.cells #[.pointer (some ⟨p,0,none⟩)] 40);have hcon:=acL (ah.heap hq) (fn:=163) ⟨_,Tryz.func163,by kernel_rfl⟩ (asC (h.grow ah) n hb1) (enters_of Tryz.func163 (by kernel_rfl) rfl);have uK:=ae hcon;have cQ:=ae ah;clear hcon ah hb1;go_enter Tryz.func113,Tryz.ntmps113
 go_wp2_with fail
 (with_reducible refine uK.out.mono ?_);rintro e w1 ⟨rfl,hw⟩;subst hw;cases hf:fileOf n fs<;>(have Hf:=ae hf;clear hf;go_wp2;go_ret;exact ⟨by rw [Hf.out];rfl,cQ.out⟩)
def tj (n:ByteArray) (V:Vw):Vw:=V.map (fun e=>if e.1=n then (e.1,e.2.1,e.2.1.length) else e)
theorem asE {fs:List Fe} (h:(fs.map Fe.name).Nodup) {f:Fe} (hf:f∈fs):vw (jU f.name f.bv f.b f.b.length fs)=tj f.name (vw fs):=by
 unfold tj vw jU;rw [eX,eX];refine iJ fun g hg=> ?_
 simp only [Function.comp];by_cases hn:g.name=f.name
 ·have:=Oo h hg hf hn
  subst this;simp
 ·simp [hn]
theorem asF {size:Int} {fs:List Fe} (h:bU B w p r size used born fs) {n:ByteArray} {f:Fe} (fQ:fileOf n fs=some f) (hq:w.heap[qb]?=some (.cells #[.string n] 9 (0,0))) (_hfl:f.b.length≤1073741824):
  Calls Tryz.prog 83 #[.pointer (some ⟨p,0,none⟩),.slice (some ⟨qb,0,none⟩) 1 1] w fun e w'=>e= .returned (.int .i64 0)∧∃ bH,bU B w' p r size used born bH∧Sep (dt p r fs) w w' (dt p r bH)∧vw bH=tj n (vw fs):=by
 have hall:=Uc h n hq;rw [fQ] at hall;have gj:=ae hall;have H:=ae h;have lI:=ae fQ;have Hq:=ae hq;clear hall h fQ hq;go_enter Tryz.func83,Tryz.ntmps83
 go_wp2_with fail
 (with_reducible refine gj.out.mono ?_);rintro e w1 ⟨rfl,hg1⟩;have h1:=H.out.grow hg1;have jX:=hg1.heap Hq.out;have q0:w1.cell? ⟨qb,0,none⟩=some (.string n):=by simp [World.cell?,jX]
 have lq:=af jX;have e0:(Option.some f).isSome=true:=rfl
 go_wp2_with fail
 refine wp_loop_rounds 2 ?_;rw [rounds_succ]
 go_upto_region 6 with fail
 obtain ⟨hm,iA⟩:=sX lI.out;have hlk:∀ W,Below w1.heap.size w1 W→(Instr.lookup 123 (.map (some r)) (.string n) false).run Tryz.prog W= .ok (.pointer (some ⟨f.fb,0,none⟩)) W:=fun W hW=>by
  have:=(h1.grow hW).lookup n;simpa only [nP,lI.out] using this
 obtain ⟨c0,c1,c2,c3⟩:=h1.cells;have lp:=af h1.self;have bq:=h1.files f hm;obtain ⟨ba,bc,bC⟩:=bq.row.slice;have z0:w1.cell? ⟨f.fb,0,none⟩=some (.slice ba (dE f.b).length bc):=by simp [World.cell?,bq.cell,bC]
 have z1:w1.cell? ⟨f.fb,1,none⟩=some (.int .i64 f.synced):=by simp [World.cell?,bq.cell]
 have lf:=af bq.cell;have ff:=bG bq.cell;have aQ:=Grow.cells (w:=w1);have hgd:Grow w1 w1.drew:=az w1;have jR:=h1.grow hgd;have hrow:aI B w1.drew f.bv f.b:=(jR.files f hm).row;obtain ⟨cP,hs2⟩:=jR.put hm (w1:=w1.drew) (w2:=w1.drew.setCell ⟨f.fb,1,none⟩ (.int .i64 f.b.length)) (s:=f.b.length) hrow ⟨rfl,rfl,rfl,aw _,fun _ _ _=>rfl⟩ (fun b hb=> .inl hb) (aK (jR.files f hm).cell 1 _) (je _ _ _ _) (aw _);have FH:=asE H.out.names hm;rw [iA] at FH cP hs2;have gP:Hid (∃ bH,bU B (w1.drew.setCell ⟨f.fb,1,none⟩ (.int .i64 f.b.length)) p r size used born bH∧Sep (dt p r fs) w (w1.drew.setCell ⟨f.fb,1,none⟩ (.int .i64 f.b.length)) (dt p r bH)∧vw bH=tj n (vw fs)):=ae ⟨_,cP,(Sep.bT (hg1.trans hgd)).trans hs2,FH⟩;have lJ:(dE f.b).length=f.b.length:=jF _;rw [lJ] at z0;clear cP hs2 FH hrow jR hgd bq bC h1 hm iA lJ jX c0 c1 c2;refine uz (fun W=>Below w1.heap.size w1 W) [(0,false),(1,false),(2,false),(3,false),(4,false),(5,false),(6,false),(7,false),(8,false),(9,false),(10,false),(11,false),(12,false),(13,false),(14,false),(15,false),(16,false),(17,false)] 18 (by kernel_rfl) (by kernel_rfl) (bK fun _ _ _ _ _ h=>h) (az _) ?_;simp only [cm,nth]
 repeat ((first|(refine aA (v:= ?_) (by rfl) ?_ ?_;rotate_left;rintro W hW;go_simp;with_reducible rfl)|refine aB (by rfl) ?_);simp only [ai,List.set])
 refine bj ?_;refine uA (by rfl) (fun K hK=> ?_);go_simp;refine hK _ _ ?_;clear hK K hlk aQ
 try simp only [ai,List.set,aC]
 go_wp2_with fail
 rw [rounds_succ];go_wp2;go_ret;exact ⟨rfl,gP.out⟩
section
def jY (n:ByteArray) (V:Vw):Vw:=V.filter (fun e=>decide (n≠e.1))
def pN (n:ByteArray) (fs:List Fe):List Fe:=fs.filter (fun f=>decide (n≠f.name))
theorem Ud (n:ByteArray) (fs:List Fe):vw (pN n fs)=jY n (vw fs):=by
 unfold vw pN jY;rw [List.filter_map];rfl
theorem acM (n:ByteArray) (fs:List Fe):(pN n fs).map Fe.ay=(fs.map Fe.ay).filter (fun e=>decide (n≠e.key)):=by
 unfold pN;rw [List.filter_map];rfl
section
variable {B:Nat} {w:World} {p r:Nat} {size used born:Int} {fs:List Fe}
theorem bU.del (h:bU B w p r size used born fs) (n:ByteArray) {c:Nat} (hm:MapAt w r Value.string (fs.map Fe.ay) c) (hc:∀ f∈fs,f.born<c):
  bU B (cV w r (.map (((fs.map Fe.ay).filter (fun e=>decide (n≠e.key))).map (aG.raw Value.string)).toArray c)) p r size used born (pN n fs)∧
  Sep (dt p r fs) w (cV w r (.map (((fs.map Fe.ay).filter (fun e=>decide (n≠e.key))).map (aG.raw Value.string)).toArray c)) (dt p r (pN n fs)):=by
 have ng:=af hm;rw [←acM];generalize hw2:cV w r (.map (((pN n fs).map Fe.ay).map (aG.raw Value.string)).toArray c)=w2;have ho:∀ b,b≠r→w2.heap[b]?=w.heap[b]?:=fun b hbr=>by rw [←hw2,xW hbr]
 have hr2:MapAt w2 r Value.string ((pN n fs).map Fe.ay) c:=by
  rw [←hw2];unfold MapAt;rw [xV ng]
 have hsz:w2.heap.size=w.heap.size:=by rw [←hw2];simp [cV]
 have mF:∀ f∈pN n fs,f∈fs:=fun f hf=>(List.mem_filter.1 hf).1
 refine ⟨⟨(ho p h.CF).trans h.self,⟨c,hr2,fun f hf=>hc f (mF f hf)⟩,h.names.sublist (List.filter_sublist.map _),h.sV.sublist (List.filter_sublist.map _),h.sW.sublist (List.filter_sublist.map _),fun f hf g hg=>h.rows f (mF f hf) g (mF g hg),fun f hf=> ?_,h.base.1,h.base.2.1,by rw [hsz];exact h.base.2.2⟩,⟨by rw [←hw2];rfl,by rw [←hw2];rfl,by rw [←hw2];rfl,by omega,fun b _ hn=>ho b (fun e=>hn (.inr (.inl e))),?_⟩⟩
 ·have bq:=h.files f (mF f hf)
  exact ⟨(ho _ (h.zY (mF f hf)).2).trans bq.cell,bq.row.keep (fun b hb=>ho b (h.uJ (mF f hf) hb).2.1),bq.base,bq.sync⟩
 ·rintro b (rfl|rfl|⟨f,hf,hb⟩)
  ·exact .inl (.inl rfl)
  ·exact .inl (.inr (.inl rfl))
  ·exact .inl (.inr (.inr ⟨f,mF f hf,hb⟩))
end
theorem asG {B:Nat} {w:World} {p r:Nat} {size used born:Int} {fs:List Fe} (h:bU B w p r size used born fs) {n:ByteArray} (fQ:fileOf n fs=none) (hq:w.heap[qb]?=some (.cells #[.string n] 9 (0,0))):
  Calls Tryz.prog 64 #[.pointer (some ⟨p,0,none⟩),.slice (some ⟨qb,0,none⟩) 1 1] w fun e w'=>e= .returned (.int .i64 4)∧Grow w w':=by
 have hall:=Uc h n hq;rw [fQ] at hall;have gj:=ae hall;clear hall h fQ hq;go_enter Tryz.func64,Tryz.ntmps64
 go_wp2_with fail
 (with_reducible refine gj.out.mono ?_);rintro e w1 ⟨rfl,hg1⟩;have e0:(none:Option Fe).isSome=false:=rfl;go_wp2;go_ret;exact ⟨rfl,hg1⟩
theorem asH {B:Nat} {w:World} {p r:Nat} {size used born:Int} {fs:List Fe} (h:bU B w p r size used born fs) {n:ByteArray} {f:Fe} (fQ:fileOf n fs=some f) (hq:w.heap[qb]?=some (.cells #[.string n] 9 (0,0))) (ed:f.b.length≤1073741824) (hu:0≤used) (JF:used≤1073741824):
  Calls Tryz.prog 64 #[.pointer (some ⟨p,0,none⟩),.slice (some ⟨qb,0,none⟩) 1 1] w fun e w'=>e= .returned (.int .i64 0)∧∃ bH,bU B w' p r size (used-f.b.length) born bH∧Sep (dt p r fs) w w' (dt p r bH)∧vw bH=jY n (vw fs):=by
 have hall:=Uc h n hq;rw [fQ] at hall;have gj:=ae hall;have H:=ae h;have lI:=ae fQ;have Hq:=ae hq;clear hall h fQ hq;go_enter Tryz.func64,Tryz.ntmps64
 go_wp2_with fail
 (with_reducible refine gj.out.mono ?_);rintro e w1 ⟨rfl,hg1⟩;have h1:=H.out.grow hg1;have jX:=hg1.heap Hq.out;have q0:w1.cell? ⟨qb,0,none⟩=some (.string n):=by simp [World.cell?,jX]
 have lq:=af jX;have e0:(Option.some f).isSome=true:=rfl;obtain ⟨hm,iA⟩:=sX lI.out;have hlk:(Instr.lookup 123 (.map (some r)) (.string n) false).run Tryz.prog w1= .ok (.pointer (some ⟨f.fb,0,none⟩)) w1:=by
  have:=h1.lookup n;simpa only [nP,lI.out] using this
 obtain ⟨c0,c1,c2,c3⟩:=h1.cells;have lp:=af h1.self;have bq:=h1.files f hm;obtain ⟨ba,bc,bC⟩:=bq.row.slice;have z0:w1.cell? ⟨f.fb,0,none⟩=some (.slice ba f.b.length bc):=by simp [World.cell?,bq.cell,bC,jF]
 have lf:=af bq.cell;have ff:=bG h1.self;have aQ:=Grow.cells (w:=w1);have hgd:Grow w1 w1.drew:=az w1;have cp:IntKind.i64.wrap (used-(f.b.length:Int))=used-(f.b.length:Int):=aS _ (by omega);obtain ⟨JG,JH⟩:=(h1.grow hgd).FD (used-f.b.length);obtain ⟨w2,hw2⟩:∃ x,x=(w1.setCell ⟨p,1,none⟩ (.int .i64 (used-f.b.length))).drew:=⟨_,rfl⟩
 have cP:bU B w2 p r size (used-f.b.length) born fs:=by rw [hw2];exact JG
 have hs2:Sep (dt p r fs) w1.drew w2 (dt p r fs):=by rw [hw2];exact JH
 clear JG JH;obtain ⟨ck,hmap,jH⟩:=cP.map;obtain ⟨fZ,hs3⟩:=cP.del n hmap jH;have hdel:=NV (ty:=0) (kt':=9) zW Tryz.underlying123 hmap (by have:=cP.names;rw [eX];exact this) n;obtain ⟨e0',FJ,e2',e3'⟩:=cP.cells;have JD:=af cP.self;have gP:Hid (∃ bH,bU B (cV w2 r (.map (((fs.map Fe.ay).filter (fun e=>decide (n≠e.key))).map (aG.raw Value.string)).toArray ck)) p r size (used-f.b.length) born bH∧Sep (dt p r fs) w (cV w2 r (.map (((fs.map Fe.ay).filter (fun e=>decide (n≠e.key))).map (aG.raw Value.string)).toArray ck)) (dt p r bH)∧vw bH=jY n (vw fs)):=ae ⟨_,fZ,((Sep.bT (hg1.trans hgd)).trans hs2).trans hs3,Ud n fs⟩;generalize hw3:cV w2 r (.map (((fs.map Fe.ay).filter (fun e=>decide (n≠e.key))).map (aG.raw Value.string)).toArray ck)=w3 at*;have qF:=ae hw2;clear hw2 hw3 cP hs2 fZ hs3 hmap jH hgd bq bC h1 hm iA jX c0 c2
 go_wp2_with fail
 refine wp_loop_rounds 2 ?_;rw [rounds_succ]
 go_upto_region 8 with fail
 refine uz (fun W=>Below w1.heap.size w1 W) [(0,false),(1,false),(2,false),(3,false),(4,false),(5,false),(6,false),(7,false),(8,false),(9,false),(10,false),(11,false)] 12 (by kernel_rfl) (by kernel_rfl) (bK fun _ _ _ _ _ h=>h) (az _) ?_;simp only [cm,nth]
 repeat ((first|(refine aA (v:= ?_) (by rfl) ?_ ?_;rotate_left;rintro W hW;go_simp;with_reducible rfl)|refine aB (by rfl) ?_);simp only [ai,List.set])
 refine bj ?_;refine uA (by rfl) (fun K hK=> ?_);go_simp;refine hK _ ((w1.setCell ⟨p,1,none⟩ (.int .i64 (used-f.b.length))).drew) ?_;clear hK K aQ
 try simp only [ai,List.set,aC]
 rw [←qF.out]
 go_wp2_with fail
 rw [rounds_succ];go_wp2;go_ret;exact ⟨rfl,gP.out⟩
end
section
def jZ (m n:ByteArray) (f:Fe) (fs:List Fe):List Fe:=(pN m fs).map fun g=>if g.name=n then {g with fb:=f.fb,bv:=f.bv,b:=f.b,synced:=f.synced} else g
def uL (m n:ByteArray) (b:List UInt8) (s:Nat) (V:Vw):Vw:=(jY m V).map fun e=>if e.1=n then (e.1,b,s) else e
theorem asJ (m n:ByteArray) (f:Fe) (fs:List Fe):vw (jZ m n f fs)=uL m n f.b f.synced (vw fs):=by
 unfold uL;rw [←Ud];unfold jZ vw;rw [eX,eX];refine iJ fun g _=> ?_
 simp only [Function.comp];by_cases h:g.name=n
 ·simp [h]
 ·simp [h]
theorem asK (m n:ByteArray) (f:Fe) (fs:List Fe) (_hmn:m≠n):(jZ m n f fs).map Fe.ay=((mj n (.pointer (some ⟨f.fb,0,none⟩)) (fs.map Fe.ay)).filter (fun e=>decide (m≠e.key))):=by
 unfold jZ pN mj;rw [eX,eX,List.filter_map];have:((fun e:aG ByteArray=>decide (m≠e.key))∘(fun e:aG ByteArray=>if n=e.key then {e with val:= .pointer (some ⟨f.fb,0,none⟩)} else e)∘Fe.ay)=(fun g:Fe=>decide (m≠g.name)):=by
  have hk:∀ e:aG ByteArray,(if n=e.key then {e with val:= .pointer (some ⟨f.fb,0,none⟩)} else e).key=e.key:=fun e=>by split<;>rfl
  funext g
  simp only [Function.comp,hk];rfl
 rw [this];refine iJ fun g _=> ?_
 simp only [Function.comp];by_cases h:g.name=n
 ·have h':n=g.ay.key:=h.symm
  rw [if_pos h,if_pos h'];rfl
 ·have h':¬ n=g.ay.key:=Ne.symm h
  rw [if_neg h,if_neg h']
theorem Ue {n:ByteArray} {f:Fe} {fs:List Fe} {g:Fe} (h:g∈jZ m n f fs):∃ g0∈fs,g0.name≠m∧g.name=g0.name∧g.born=g0.born∧((g0.name=n∧g.fb=f.fb∧g.bv=f.bv∧g.b=f.b∧g.synced=f.synced)∨(g0.name≠n∧g=g0)):=by
 obtain ⟨g0,h0,rfl⟩:=aZ.1 h;obtain ⟨h1,h2⟩:=List.mem_filter.1 h0;refine ⟨g0,h1,fun e=>by simp [e] at h2,?_⟩;by_cases hn:g0.name=n
 ·rw [if_pos hn];exact ⟨rfl,rfl,.inl ⟨hn,rfl,rfl,rfl,rfl⟩⟩
 ·rw [if_neg hn];exact ⟨rfl,rfl,.inr ⟨hn,rfl⟩⟩
section
variable {B:Nat} {w:World} {p r:Nat} {size used born:Int} {fs:List Fe}
theorem bU.ren (h:bU B w p r size used born fs) {n:ByteArray} {f:Fe} (hf:f∈fs) (kD:f.name=m) (_hmn:m≠n) (hm:MapAt w r Value.string (fs.map Fe.ay) c) (hc:∀ f∈fs,f.born<c):
  bU B (cV w r (.map (((jZ m n f fs).map Fe.ay).map (aG.raw Value.string)).toArray c)) p r size used born (jZ m n f fs)∧
  Sep (dt p r fs) w (cV w r (.map (((jZ m n f fs).map Fe.ay).map (aG.raw Value.string)).toArray c)) (dt p r (jZ m n f fs)):=by
 have ng:=af hm;generalize hw2:cV w r (.map (((jZ m n f fs).map Fe.ay).map (aG.raw Value.string)).toArray c)=w2;have ho:∀ b,b≠r→w2.heap[b]?=w.heap[b]?:=fun b hbr=>by rw [←hw2,xW hbr]
 have hr2:MapAt w2 r Value.string ((jZ m n f fs).map Fe.ay) c:=by
  rw [←hw2];unfold MapAt;rw [xV ng]
 have hsz:w2.heap.size=w.heap.size:=by rw [←hw2];simp [cV]
 have asL:(jZ m n f fs).map Fe.name=(pN m fs).map Fe.name:=by
  unfold jZ;rw [eX];refine iJ fun g _=> ?_
  simp only [Function.comp]
  split<;>rfl
 have asM:(jZ m n f fs).map Fe.born=(pN m fs).map Fe.born:=by
  unfold jZ;rw [eX];refine iJ fun g _=> ?_
  simp only [Function.comp]
  split<;>rfl
 have iB:((jZ m n f fs).map Fe.name).Nodup:=by rw [asL];exact h.names.sublist (List.filter_sublist.map _)
 have iP:∀ g∈jZ m n f fs,∃ g0∈fs,g.fb=g0.fb∧g.bv=g0.bv∧g.b=g0.b∧g.synced=g0.synced∧(g.name=n∧g0=f∨g.name≠n∧g0=g):=by
  intro g hg;obtain ⟨g0,h0,uM,iy,_,hc0⟩:=Ue hg;rcases hc0 with ⟨e0,e1,e2,e3,e4⟩|⟨e0,rfl⟩
  ·exact ⟨f,hf,e1,e2,e3,e4,.inl ⟨by rw [iy,e0],rfl⟩⟩
  ·exact ⟨g,h0,rfl,rfl,rfl,rfl,.inr ⟨e0,rfl⟩⟩
 have hfn:∀ g∈jZ m n f fs,g.name≠n→g.name≠m∧g∈fs:=by
  intro g hg jh;obtain ⟨g0,h0,uM,iy,_,hc0⟩:=Ue hg;rcases hc0 with ⟨e0,_⟩|⟨e0,rfl⟩
  ·exact absurd (iy.trans e0) jh
  ·exact ⟨uM,h0⟩
 refine ⟨⟨(ho p h.CF).trans h.self,⟨c,hr2,fun g hg=> ?_⟩,iB,by rw [asM];exact h.sV.sublist (List.filter_sublist.map _),?_,?_,fun g hg=> ?_,h.base.1,h.base.2.1,by rw [hsz];exact h.base.2.2⟩,⟨by rw [←hw2];rfl,by rw [←hw2];rfl,by rw [←hw2];rfl,by omega,fun b _ hn=>ho b (fun e=>hn (.inr (.inl e))),?_⟩⟩
 ·obtain ⟨g0,h0,_,_,hb,_⟩:=Ue hg
  rw [hb];exact hc g0 h0
 ·refine List.pairwise_map.2 ?_
  refine (List.pairwise_map.1 iB).imp_of_mem fun {a b} ha hb hab=> ?_
  intro e;obtain ⟨a0,ha0,ea,_,_,_,ca⟩:=iP a ha;obtain ⟨b0,hb0,eb,_,_,_,cb⟩:=iP b hb;have yi:a0=b0:=TZ h.sW ha0 hb0 (by rw [←ea,←eb,e]);rcases ca with ⟨an,xa⟩|⟨an,xa⟩<;>rcases cb with ⟨bn,xb⟩|⟨bn,xb⟩
  ·exact hab (an.trans bn.symm)
  ·exact (hfn b hb bn).1 (by rw [←xb,←yi,xa,kD])
  ·exact (hfn a ha an).1 (by rw [←xa,yi,xb,kD])
  ·exact hab (by rw [←xa,←xb,yi])
 ·intro a ha b hb x hx1 hx2
  obtain ⟨a0,ha0,_,ea,_,_,ca⟩:=iP a ha;obtain ⟨b0,hb0,_,eb,_,_,cb⟩:=iP b hb;have yi:=h.rows a0 ha0 b0 hb0 x (by rw [←ea];exact hx1) (by rw [←eb];exact hx2);rcases ca with ⟨an,xa⟩|⟨an,xa⟩<;>rcases cb with ⟨bn,xb⟩|⟨bn,xb⟩
  ·exact an.trans bn.symm
  ·exact absurd (by rw [←xb,←yi,xa,kD]) (hfn b hb bn).1
  ·exact absurd (by rw [←xa,yi,xb,kD]) (hfn a ha an).1
  ·rw [←xa,←xb];exact yi
 ·obtain ⟨g0,h0,e1,e2,e3,e4,_⟩:=iP g hg
  have bq:=h.files g0 h0;exact ⟨by rw [e1,e2,e4];exact (ho _ (h.zY h0).2).trans bq.cell,by rw [e2,e3];exact bq.row.keep (fun b hb=>ho b (h.uJ h0 hb).2.1),by rw [e1];exact bq.base,by rw [e3,e4];exact bq.sync⟩
 ·rintro b (rfl|rfl|⟨g,hg,hb⟩)
  ·exact .inl (.inl rfl)
  ·exact .inl (.inr (.inl rfl))
  ·obtain ⟨g0,h0,e1,e2,_,_,_⟩:=iP g hg
   rw [e1,e2] at hb;exact .inl (.inr (.inr ⟨g0,h0,hb⟩))
end
end
theorem asN {size:Int} {fs:List Fe} (h:bU B w p r size used born fs) {n:ByteArray} {f g:Fe} (fQ:fileOf m fs=some f) (hgo:fileOf n fs=some g) (gq:m≠n) (hn:kC n) (kQ:g.b.length≤1073741824) (hu:0≤used) (JF:used≤1073741824):
  Calls Tryz.prog 153 #[.pointer (some ⟨p,0,none⟩),.string m,.string n] w fun e w'=>e= .returned (.int .i64 0)∧∃ bH,bU B w' p r size (used-g.b.length) born bH∧Sep (dt p r fs) w w' (dt p r bH)∧vw bH=uL m n f.b f.synced (vw fs):=by
 have H:=ae h;obtain ⟨hm,kD⟩:=sX fQ;obtain ⟨Uf,jh⟩:=sX hgo;have asO:(Instr.lookup 123 (.map (some r)) (.string m) false).run Tryz.prog w= .ok (.pointer (some ⟨f.fb,0,none⟩)) w:=by
  have:=h.lookup m;simpa only [nP,fQ] using this
 have asP:(Instr.lookup 123 (.map (some r)) (.string n) false).run Tryz.prog w= .ok (.pointer (some ⟨g.fb,0,none⟩)) w:=by
  have:=h.lookup n;simpa only [nP,hgo] using this
 obtain ⟨c0,c1,c2,c3⟩:=h.cells;have lp:=af h.self;have ah:=h.files g Uf;obtain ⟨ba,bc,bC⟩:=ah.row.slice;have z0:w.cell? ⟨g.fb,0,none⟩=some (.slice ba g.b.length bc):=by simp [World.cell?,ah.cell,bC,jF]
 have lg:=af ah.cell;have ff:=bG h.self;have aQ:=Grow.cells (w:=w);have hgd:Grow w w.drew:=az w;have cp:IntKind.i64.wrap (used-(g.b.length:Int))=used-(g.b.length:Int):=aS _ (by omega);obtain ⟨JG,JH⟩:=(h.grow hgd).FD (used-g.b.length);obtain ⟨w2,hw2⟩:∃ x,x=(w.setCell ⟨p,1,none⟩ (.int .i64 (used-g.b.length))).drew:=⟨_,rfl⟩
 have cP:bU B w2 p r size (used-g.b.length) born fs:=by rw [hw2];exact JG
 have hs2:Sep (dt p r fs) w.drew w2 (dt p r fs):=by rw [hw2];exact JH
 clear JG JH;obtain ⟨ck,hmap,jH⟩:=cP.map;have tk:((fs.map Fe.ay).map aG.key).Nodup:=by have:=cP.names;rw [eX];exact this
 have Oq:=abD zW Tryz.underlying123 hmap tk n (.pointer (some ⟨f.fb,0,none⟩)) ⟨g.ay,aZ.2 ⟨g,Uf,rfl⟩,jh.symm⟩;have JI:MapAt (cV w2 r (.map ((mj n (.pointer (some ⟨f.fb,0,none⟩)) (fs.map Fe.ay)).map (aG.raw Value.string)).toArray ck)) r Value.string (mj n (.pointer (some ⟨f.fb,0,none⟩)) (fs.map Fe.ay)) ck:=by
  unfold MapAt;rw [xV (af hmap)]
 have JJ:((mj n (.pointer (some ⟨f.fb,0,none⟩)) (fs.map Fe.ay)).map aG.key).Nodup:=by
  have:(mj n (.pointer (some ⟨f.fb,0,none⟩)) (fs.map Fe.ay)).map aG.key=(fs.map Fe.ay).map aG.key:=by
   unfold mj;rw [eX];refine iJ fun e _=> ?_
   simp only [Function.comp]
   split<;>rfl
  rw [this];exact tk
 have hdel:=NV (ty:=0) (kt':=9) zW Tryz.underlying123 JI JJ m;rw [←asK m n f fs gq] at hdel;obtain ⟨fZ,hs3⟩:=cP.ren hm kD gq hmap jH;have CI:cV (cV w2 r (.map ((mj n (.pointer (some ⟨f.fb,0,none⟩)) (fs.map Fe.ay)).map (aG.raw Value.string)).toArray ck)) r (.map (((jZ m n f fs).map Fe.ay).map (aG.raw Value.string)).toArray ck)=cV w2 r (.map (((jZ m n f fs).map Fe.ay).map (aG.raw Value.string)).toArray ck):=by
  unfold cV;simp
 rw [CI] at hdel;have yj:(cV w2 r (.map ((mj n (.pointer (some ⟨f.fb,0,none⟩)) (fs.map Fe.ay)).map (aG.raw Value.string)).toArray ck)).heap[p]?=w2.heap[p]?:=xW cP.CF;have e3':(cV w2 r (.map ((mj n (.pointer (some ⟨f.fb,0,none⟩)) (fs.map Fe.ay)).map (aG.raw Value.string)).toArray ck)).cell? ⟨p,3,none⟩=some (.map (some r)):=by simp [World.cell?,yj,cP.self]
 have lp3:=af (yj.trans cP.self);obtain ⟨_,_,_,e3⟩:=cP.cells;have JD:=af cP.self;have gP:Hid (∃ bH,bU B (cV w2 r (.map (((jZ m n f fs).map Fe.ay).map (aG.raw Value.string)).toArray ck)) p r size (used-g.b.length) born bH∧Sep (dt p r fs) w (cV w2 r (.map (((jZ m n f fs).map Fe.ay).map (aG.raw Value.string)).toArray ck)) (dt p r bH)∧vw bH=uL m n f.b f.synced (vw fs)):=ae ⟨_,fZ,((Sep.bT hgd).trans hs2).trans hs3,asJ m n f fs⟩;generalize hw3:cV w2 r (.map ((mj n (.pointer (some ⟨f.fb,0,none⟩)) (fs.map Fe.ay)).map (aG.raw Value.string)).toArray ck)=w3 at*;generalize hw4:cV w2 r (.map (((jZ m n f fs).map Fe.ay).map (aG.raw Value.string)).toArray ck)=w4 at*;have qF:=ae hw2;clear hw2 hw3 hw4 cP hs2 fZ hs3 hmap jH hgd ah bC h hm Uf fQ hgo kD jh c0 c2 tk JJ JI CI yj;have hne:(m==n)=false:=by
  cases hb:(m==n) with
  |false=>rfl
  |true=>exact absurd ((Go.MapKept.bytes_beq _ _).1 hb) gq
 have Ug:(m.toList==n.toList)=false:=by
  cases hb:(m.toList==n.toList) with
  |false=>rfl
  |true=>exact absurd (ByteArray.ext (by simpa [jd] using hb)) gq
 go_enter Tryz.func153,Tryz.ntmps153
 go_wp2_with ((with_reducible refine (FC hn _).mono ?_);rintro e w1 ⟨rfl,hw⟩;have hw':=hw.symm;subst hw';clear hw)
 refine uz (fun W=>Below w.heap.size w W) [(0,false),(1,false),(2,false),(3,false),(4,false),(5,false),(6,false),(7,false),(8,false),(9,false),(10,false),(11,false)] 12 (by kernel_rfl) (by kernel_rfl) (bK fun _ _ _ _ _ h=>h) (az _) ?_;simp only [cm,nth]
 repeat ((first|(refine aA (v:= ?_) (by rfl) ?_ ?_;rotate_left;rintro W hW;go_simp;with_reducible rfl)|refine aB (by rfl) ?_);simp only [ai,List.set])
 refine bj ?_;refine uA (by rfl) (fun K hK=> ?_);go_simp;refine hK _ ((w.setCell ⟨p,1,none⟩ (.int .i64 (used-g.b.length))).drew) ?_;clear hK K aQ
 try simp only [ai,List.set,aC]
 rw [←qF.out];go_wp2;go_ret;exact ⟨rfl,gP.out⟩
end Go.Proofs.YtoolkdapflaeeaaGreatDoor
namespace Go.Proofs.YtoolkdapflaeeaaGreatDoor
open Go.Shelf
def Tryz.asR:Go.Shelf.Ren:=⟨fun|190=>71|125=>122|258=>121|128=>176|129=>177|302=>167|303=>168|304=>169|305=>170|306=>171|307=>172|308=>173|309=>174|310=>175|333=>210|329=>211|330=>212|334=>213|335=>214|336=>196|344=>229|n=>n,fun|31=>95|9=>9|3=>3|46=>229|0=>0|51=>247|53=>37|4=>4|183=>278|182=>277|131=>236|5=>5|218=>319|222=>322|228=>336|229=>337|n=>n,fun|n=>n⟩
theorem Tryz.acO:Go.Proofs.Lays.n190 Tryz.prog Tryz.asR:=by constructor<;>intros<;>kernel_rfl
def Tryz.asS:Go.Shelf.Ren:=⟨fun|99=>46|206=>85|n=>n,fun|9=>9|4=>4|3=>3|n=>n,fun|n=>n⟩
theorem Tryz.JK:Go.Proofs.Lays.n99 Tryz.prog Tryz.asS:=by constructor<;>intros<;>kernel_rfl
def Tryz.asT:Go.Shelf.Ren:=⟨fun|101=>91|208=>141|206=>85|n=>n,fun|9=>9|4=>4|3=>3|n=>n,fun|n=>n⟩
theorem Tryz.asU:Go.Proofs.Lays.n101 Tryz.prog Tryz.asT:=by constructor<;>intros<;>kernel_rfl
def Tryz.asV:Go.Shelf.Ren:=⟨fun|172=>90|244=>139|245=>140|247=>191|279=>192|280=>193|281=>194|282=>195|287=>219|316=>220|171=>123|205=>221|321=>234|322=>235|243=>178|246=>215|283=>230|284=>231|285=>232|286=>233|129=>177|317=>245|318=>246|319=>247|320=>248|337=>252|338=>253|n=>n,fun|9=>9|3=>3|75=>66|76=>186|4=>4|5=>5|167=>297|37=>49|0=>0|85=>298|2=>2|168=>300|53=>37|175=>326|46=>229|210=>330|127=>344|145=>347|143=>345|21=>21|171=>339|173=>341|212=>355|51=>247|20=>20|213=>356|232=>360|233=>361|80=>295|n=>n,fun|15=>0|16=>1|17=>2|18=>3|19=>4|n=>n⟩
theorem Tryz.atoi:Go.Proofs.Lays.n172 Tryz.prog Tryz.asV:=by constructor<;>intros<;>kernel_rfl
def Tryz.asW:Go.Shelf.Ren:=⟨fun|171=>123|243=>178|246=>215|283=>230|284=>231|285=>232|286=>233|129=>177|317=>245|318=>246|319=>247|320=>248|337=>252|338=>253|n=>n,fun|3=>3|9=>9|2=>2|4=>4|171=>339|0=>0|53=>37|37=>49|5=>5|173=>341|212=>355|51=>247|20=>20|213=>356|46=>229|232=>360|233=>361|n=>n,fun|17=>2|18=>3|19=>4|n=>n⟩
theorem Tryz.itoa:Go.Proofs.Lays.n171 Tryz.prog Tryz.asW:=by constructor<;>intros<;>kernel_rfl
def Tryz.asX:Go.Shelf.Ren:=⟨fun|6=>206|15=>122|14=>227|28=>176|29=>177|20=>236|21=>237|22=>238|23=>239|24=>240|25=>241|26=>242|27=>243|46=>249|47=>211|48=>212|49=>250|50=>251|57=>254|n=>n,fun|22=>83|24=>101|25=>316|3=>3|39=>229|0=>0|53=>247|55=>37|4=>4|46=>278|45=>277|50=>236|5=>5|9=>9|66=>319|70=>322|76=>336|77=>337|n=>n,fun|n=>n⟩
theorem Tryz.acP:Go.Proofs.SlLaysF0.n6 Tryz.prog Tryz.asX:=by
 constructor<;>intros<;>try kernel_rfl
 exact ⟨Tryz.f206.name,by decide,Tryz.func206.trans (congrArg some (by kernel_rfl))⟩;exact ⟨Tryz.f227.name,by decide,Tryz.func227.trans (congrArg some (by kernel_rfl))⟩;exact ⟨Tryz.f236.name,by decide,Tryz.func236.trans (congrArg some (by kernel_rfl))⟩;exact ⟨Tryz.f237.name,by decide,Tryz.func237.trans (congrArg some (by kernel_rfl))⟩;exact ⟨Tryz.f238.name,by decide,Tryz.func238.trans (congrArg some (by kernel_rfl))⟩;exact ⟨Tryz.f239.name,by decide,Tryz.func239.trans (congrArg some (by kernel_rfl))⟩;exact ⟨Tryz.f240.name,by decide,Tryz.func240.trans (congrArg some (by kernel_rfl))⟩;exact ⟨Tryz.f241.name,by decide,Tryz.func241.trans (congrArg some (by kernel_rfl))⟩;exact ⟨Tryz.f242.name,by decide,Tryz.func242.trans (congrArg some (by kernel_rfl))⟩;exact ⟨Tryz.f243.name,by decide,Tryz.func243.trans (congrArg some (by kernel_rfl))⟩;exact ⟨Tryz.f249.name,by decide,Tryz.func249.trans (congrArg some (by kernel_rfl))⟩;exact ⟨Tryz.f250.name,by decide,Tryz.func250.trans (congrArg some (by kernel_rfl))⟩;exact ⟨Tryz.f251.name,by decide,Tryz.func251.trans (congrArg some (by kernel_rfl))⟩;exact ⟨Tryz.f254.name,by decide,Tryz.func254.trans (congrArg some (by kernel_rfl))⟩
def Tryz.asY:Go.Shelf.Ren:=⟨fun|41=>117|n=>n,fun|22=>83|23=>101|4=>4|n=>n,fun|n=>n⟩
theorem Tryz.acQ:Go.Proofs.SlLaysE0.n41 Tryz.prog Tryz.asY:=by
 constructor<;>intros<;>try kernel_rfl
 exact ⟨Tryz.f117.name,by decide,Tryz.func117.trans (congrArg some (by kernel_rfl))⟩
def Tryz.asZ:Go.Shelf.Ren:=⟨fun|6=>166|n=>n,fun|22=>83|23=>101|25=>225|3=>3|0=>0|4=>4|n=>n,fun|n=>n⟩
theorem Tryz.jI:Go.Proofs.SlLaysH0.n6 Tryz.prog Tryz.asZ:=by
 constructor<;>intros<;>try kernel_rfl
 exact ⟨Tryz.f166.name,by decide,Tryz.func166.trans (congrArg some (by kernel_rfl))⟩
def Tryz.ata:Go.Shelf.Ren:=⟨fun|8=>118|6=>166|n=>n,fun|22=>83|23=>101|25=>225|4=>4|3=>3|0=>0|n=>n,fun|n=>n⟩
theorem Tryz.atb:Go.Proofs.SlLaysH0.n8 Tryz.prog Tryz.ata:=by
 constructor<;>intros<;>try kernel_rfl
 exact ⟨Tryz.f166.name,by decide,Tryz.func166.trans (congrArg some (by kernel_rfl))⟩;exact ⟨Tryz.f118.name,by decide,Tryz.func118.trans (congrArg some (by kernel_rfl))⟩
def Tryz.atc:Go.Shelf.Ren:=⟨fun|31=>204|29=>226|n=>n,fun|22=>24|23=>3|4=>4|3=>3|0=>0|n=>n,fun|n=>n⟩
theorem Tryz.acR:Go.Proofs.SlLaysN.n31 Tryz.prog Tryz.atc:=by
 constructor<;>intros<;>try kernel_rfl
 exact ⟨Tryz.f226.name,by decide,Tryz.func226.trans (congrArg some (by kernel_rfl))⟩;exact ⟨Tryz.f204.name,by decide,Tryz.func204.trans (congrArg some (by kernel_rfl))⟩
end Go.Proofs.YtoolkdapflaeeaaGreatDoor
namespace Go.Proofs.YtoolkdapflaeeaaGreatDoor
open Go.RowKit Go.Gl Go.aF Go.Sort
def atd:Prop:=∀ (w:World) (g cap:Nat) (ss:List (List UInt8)) (cur:Array Value),w.heap[g]?=some (.cells cur 9 (0,0))→cur.toList.take ss.length=ss.map encStr→ss.length<1000000000→
 Calls Tryz.prog 71 #[.slice (some ⟨g,0,none⟩) ss.length cap] w fun e w'=>e= .returned (.tuple #[])∧∃ n os,w'=grow (putRow encStr (Sort.ahead w n) g 0 (ss.mergeSort fun x y=>decide (x≤y)).toArray) os
def ate:Prop:=∀ (w:World),Calls Tryz.prog 71 #[.slice none 0 0] w fun e w'=>e= .returned (.tuple #[])∧w'=w
def acS:Prop:=∀ (s p:ByteArray) (w:World),Calls Tryz.prog 46 #[.string s,.string p] w fun e w'=>e= .returned (.bool (Lib.hasPrefix s.data.toList p.data.toList))∧w'=w
theorem acT:atd:=fun w g cap ss cur hb ht hl=>Any.slices_Sort_string Tryz.acO g 0 cap ss w (holds_of_block hb ht) (af hb) (by omega)
theorem acU:ate:=fun w=>Any.slices_Sort_string_none Tryz.acO none 0 w
theorem JK:acS:=fun s p w=>Any.strings_HasPrefix Tryz.JK s p w
theorem Uh {κ:Type}:∀ {l:List (aG κ)} {x:aG κ},(l.map aG.born).Nodup→x∈l→l.Perm (x::(l.filter fun e=>decide (e.born≠x.born)))
 |y::l,x,hn,h=>by
  simp only [cg,List.nodup_cons,aZ,not_exists,not_and] at hn;by_cases Aa:y.born=x.born
  ·have ir:x=y:=by
    rcases bE.1 h with h|h
    ·exact h
    ·exact absurd Aa.symm (hn.1 x h)
   subst ir;rw [List.filter_cons_of_neg (by simp)];rw [List.filter_eq_self.2 fun e he=>by simpa using fun h1=>hn.1 e he h1]
  ·have hx:x∈l:=by
    rcases bE.1 h with h|h
    ·exact absurd (by rw [h]) Aa
    ·exact h
   rw [List.filter_cons_of_pos (by simpa using Aa)];exact ((Uh hn.2 hx).cons y).trans (List.Perm.swap x y _)
def pick (keep:ByteArray→Bool) (l:List (aG ByteArray)):List (List UInt8):=(l.filter fun e=>keep e.key).map fun e=>e.key.data.toList
def JL (w:World) (r:Nat) (keep:ByteArray→Bool) (l:List (aG ByteArray)) (c:Nat) (lv:Value) (wr:World):Prop:=
 ∃ (seen:Array Nat) (c0:Nat) (done:List (List UInt8)) (la:Option Addr) (ln lc:Nat),lv= .slice la ln lc∧wr.heap[w.heap.size]?=some (.mapIter (some r) c seen c0)∧c≤c0∧wr.ownsRow w.heap.size 9 1 (.slice la ln lc) done.length (done.map encStr)∧(done++pick keep (lD seen l)).Perm (pick keep l)∧Grow w wr
theorem acV (s:ByteArray):encStr s.data.toList= .string s:=by
 obtain ⟨a⟩:=s;simp [encStr]
def Ui (w:World) (names:List (List UInt8)) (e:Ending) (w':World):Prop:=
 ∃ v,e= .returned v∧w'.ownsRow w.heap.size 9 1 v names.length ((names.mergeSort fun x y=>decide (x≤y)).map encStr)∧Grow w w'
theorem atf (hP:acS) (s p:ByteArray) {bx:Nat} (hb:w.heap[bx]?=some (.cells #[.string s] 9 (0,0))):
  Calls Tryz.prog 70 #[.string p,.pointer (some ⟨bx,0,none⟩)] w fun e w'=>e= .returned (.bool (Lib.hasPrefix s.data.toList p.data.toList))∧w'=w:=by
 have b0:w.cell? ⟨bx,0,none⟩=some (.string s):=by simp [World.cell?,hb]
 have lb:=af hb;have Hc:=ae (hP s p w);go_enter Tryz.func70,Tryz.ntmps70
 go_wp2_with fail
 (with_reducible refine Hc.out.mono ?_);rintro e w1 ⟨rfl,hw⟩;have hw':=hw.symm;subst hw';clear hw;go_wp2;go_ret;exact ⟨rfl,rfl⟩
theorem atg {size:Int} {fs:List Fe} (h:bU B w p r size used born fs) (mC:fs.length<1000000000):
  Calls Tryz.prog 33 #[.pointer (some ⟨p,0,none⟩),.slice none 0 0] w (Ui w (pick (fun _=>true) (fs.map Fe.ay))):=by
 obtain ⟨c,hm,JM⟩:=h.map;have Uj:=run_range_map (P:=Tryz.prog) w 123 9 162 r _ c Tryz.underlying123 hm;obtain ⟨c0,c1,c2,c3⟩:=h.cells;have lp:=af h.self;have dJ:((fs.map Fe.ay).map aG.born).Nodup:=by rw [eX];exact h.sV
 have hold:∀ e∈fs.map Fe.ay,e.born<c:=fun e he=>by obtain ⟨x,hx,rfl⟩:=aZ.1 he;exact JM x hx
 have pO:w.heap.size≠r:=by have:=af hm;omega
 have hlen:(fs.map Fe.ay).length<1000000000:=by simpa using mC
 generalize fs.map Fe.ay=l at*;have Hm:=ae hm;have nQ:=ae dJ;have iW:=ae hold;clear h JM dJ hold hm;go_enter Tryz.func33,Tryz.ntmps33;go_wp2;clear Uj
 go_loopw [5] (fun lv wr=>JL w r (fun _=>true) l c lv wr) (fun _ wr=>zT r w.heap.size wr)
 case atStart=>
  refine ⟨#[],c,[],none,0,0,rfl,ax w _,aw _,iL _ _ _ _,?_,by ((repeat (first|exact bS _ _|assumption|refine cz ?_|refine cA ?_|refine cj ?_ ?_ _|refine cy ?_ ?_ _))<;>try (first|omega|(simp<;>omega)))⟩;rw [show lD #[] l=l from List.filter_eq_self.2 (by simp)];simp
 case round=>
  obtain ⟨seen,Ou,done,la,ln,lc,rfl,hit,hcc,hown,pP,hg⟩:=hrel;have vZ:MapAt wr r Value.string l c:=hg.heap Hm.out;have Ab:=NW hit vZ;rcases abF (P:=Tryz.prog) (enc:=Value.string) (l:=l) 0 hit vZ iW.out hcc pO nQ.out with ⟨h1,h2⟩|⟨e,w1,he,hrun,ath,Ac,hgr,hsz⟩
  ·rw [h1] at pP
   have Hp:Hid (done.Perm (pick (fun _=>true) l)):=ae (by simpa [pick] using pP);have fX:=ae hown;have Hg:=ae hg;have Ad:done.length<1000000000:=by
    have:=Hp.out.length_eq;have h3:(pick (fun _=>true) l).length≤l.length:=by unfold pick;rw [bF];exact List.length_filter_le _ _
    omega
   clear h1 Ab vZ hit hown pP hg
   go_wp2_with fail
   have JN:done.mergeSort (fun x y=>decide (x≤y))=(pick (fun _=>true) l).mergeSort (fun x y=>decide (x≤y)):=mergeSort_of_perm Hp.out;have hrow:=fX.out;rcases hrow.2 with ⟨e1,e2⟩|⟨g,cap,cur,e1,iM,e2,e3,e4,e5,e6⟩
   ·cases e1
    have hd:done= []:=iI e2;subst hd;have FK:Calls Tryz.prog 71 #[.slice none 0 0] wr _:=acU wr;(with_reducible refine FK.mono ?_);rintro e w' ⟨rfl,rfl⟩;go_wp2;go_ret;refine ⟨_,rfl,?_,Hg.out⟩;rw [←JN,←Hp.out.length_eq,List.mergeSort_nil];exact iL _ _ _ _
   ·cases e1
    have hS:=acT wr g lc done cur e2 (by simpa using e6) Ad;have cJ:Hid (∀ n os,(grow (putRow encStr (Sort.ahead wr n) g 0 (done.mergeSort fun x y=>decide (x≤y)).toArray) os).ownsRow w.heap.size 9 1 (.slice (some ⟨g,0,none⟩) done.length lc) done.length ((done.mergeSort fun x y=>decide (x≤y)).map encStr)):=ae (fun n os=>ownsRow_sorted (List.length_mergeSort _) iM e2 e3 e4 e5);have HS:=ae hS;have Uk:=ae iM;clear hrow e2 iM e3 e4 e5 e6 hS;(with_reducible refine HS.out.mono ?_);rintro e w' ⟨rfl,nn,os,hw'⟩;have JO:=ae hw';clear hw';go_wp2;go_ret;refine ⟨_,rfl,?_,?_⟩
    ·rw [←JN,←Hp.out.length_eq,JO.out]
     exact cJ.out nn os
    ·rw [JO.out]
     exact Hg.out.grown (grownBy_sorted _) Hg.out.size (fun k hk=>by cases hk;exact Uk.out)
  ·have tq:=Uh (abG nQ.out) he
   rw [←NX] at tq;have Ad:done.length<1000000000:=by
    have:=pP.length_eq;have h3:(pick (fun _=>true) l).length≤l.length:=by unfold pick;rw [bF];exact List.length_filter_le _ _
    simp at this;omega
   have Ul:encStr e.key.data.toList= .string e.key:=acV _;have uN:pick (fun _=>true) (e::lD (seen.push e.born) l)=(if (fun _=>true) e.key=true then [e.key.data.toList] else [])++pick (fun _=>true) (lD (seen.push e.born) l):=by
    unfold pick;rw [List.filter_cons]
    split<;>simp
   have rD:(pick (fun _=>true) (lD seen l)).Perm (pick (fun _=>true) (e::lD (seen.push e.born) l)):=by
    unfold pick;exact (tq.filter _).map _
   rw [uN] at rD;generalize sP:e.key=key at*;have hown1:w1.ownsRow w.heap.size 9 1 (.slice la ln lc) done.length (done.map encStr):=hown.kept hgr (.inr fun e1=>by
    rcases hown.2 with ⟨e2,_⟩|⟨g,cap,cur,e2,_,e3,_⟩
    ·rw [e2] at e1;cases e1
    ·rw [e2] at e1
     have e4:g=w.heap.size:=bk e1;rw [e4,hit] at e3;cases e3)
   have hsw:w.heap.size<w1.heap.size:=af Ac;have hg1:Grow w w1:=hg.grown hgr hg.size (fun k hk=>by cases hk;exact aw _);have ah:Grow w1 (w1.alloc (.cells #[.string key] 9)):=ar _ _;have dK:(w1.alloc (.cells #[.string key] 9)).heap[w1.heap.size]?=some (.cells #[.string key] 9 (0,0)):=ax _ _;have hown2:=hown1.alloc (.cells #[.string key] 9);have wh:=ah.heap Ac;have hg2:=hg1.trans ah;have CJ:∀ W,W.heap[w.heap.size]?=some (.mapIter (some r) c (seen.push e.born) c)→Grow w W→zT r w.heap.size W<zT r w.heap.size wr:=fun W hW ym=>by
    rw [NW hW (ym.heap Hm.out:MapAt W r Value.string l c),Ab,NX];refine Nat.lt_of_le_of_ne (List.length_filter_le _ _) fun h4=> ?_
    have:=(List.length_filter_eq_length_iff.1 h4) e he;simp at this
   cases gQ:(fun _=>true) key with
   |true=>
    rw [gQ,if_pos rfl] at rD;obtain ⟨i0,bO,hz0,hz1,hz2⟩:=info_parts Tryz.Og;have hgb:Grow (w1.alloc (.cells #[.string key] 9)) ((w1.alloc (.cells #[.string key] 9)).alloc (.cells #[.string key] 9)):=ar _ _;have eK:=ax (w1.alloc (.cells #[.string key] 9)) (.cells #[.string key] 9);rw [show (w1.alloc (.cells #[.string key] 9)).heap.size=w1.heap.size+1 by simp] at eK;obtain ⟨g3,Um,w3,JP,iC,rE,Un,Uo⟩:=run_append_lies (P:=Tryz.prog) ((w1.alloc (.cells #[.string key] 9)).alloc (.cells #[.string key] 9)) 95 95 w.heap.size 9 i0 _ 1 16 Tryz.underlying95 bO hz0 hz1 hz2 rfl (by decide) _ _ _ (hown2.alloc _)
     ⟨w1.heap.size+1,0,none⟩ 1 1 [.string key] rfl (fun j u hu=>World.news_of_block eK j u (by simpa using hu)) (fun u hu=>by rw [cY.1 hu];rfl) (by decide) (by unfold maxLen;omega) (by omega) (by simp;omega) _ rfl
    have hg3:Grow w w3:=(hg2.trans hgb).grown rE (by have:=(hg2.trans hgb).size;omega) (fun k hk=>(hown2.lt k hk).1);have CK:w3.heap[w.heap.size]?=some (.mapIter (some r) c (seen.push e.born) c):=by
     rw [rE.block w.heap.size (by simp;omega) (fun e1=> ?_)]
     ·exact hgb.heap wh
     ·rcases hown2.2 with ⟨e2,_⟩|⟨g,cap,cur,e2,_,e3,_⟩
      ·rw [e2] at e1;cases e1
      ·rw [e2] at e1
       have e4:w.heap.size=g:=bk e1;rw [←e4,wh] at e3;cases e3
    have aX:Hid (JL w r (fun _=>true) l c (.slice (some ⟨g3,0,none⟩) (done.length+1) Um) w3):=by
     refine ae ⟨seen.push e.born,c,done++ [key.data.toList],_,_,_,rfl,CK,aw _,?_,?_,hg3⟩
     ·rw [aJ,dD,List.map_singleton,Ul];exact iC
     ·refine List.Perm.trans ?_ pP
      rw [ju];exact List.Perm.append_left _ rD.symm
    have JQ:=ae (CJ w3 CK hg3);have JR:=ae JP;clear Ab vZ hit Ac hgr he pP hg tq hown sP hown1 hg1 bO hz0 hz1 hz2 eK JP iC rE Un Uo hg2 wh hg3 CK CJ rD uN hgb hown2 gQ hsz dK
    go_wp2_with (at_builtin;refine fI rfl rfl rfl rfl JR.out ?_)
    go_roundw
    case rel=>exact aX.out
    case measure=>exact JQ.out
   |false=>
    cases gQ
theorem acW {size:Int} {fs:List Fe} (h:bU B w p r size used born fs) (mC:fs.length<1000000000) (pf:ByteArray) (hq:w.heap[qb]?=some (.cells #[.string pf] 9 (0,0))):
  Calls Tryz.prog 33 #[.pointer (some ⟨p,0,none⟩),.slice (some ⟨qb,0,none⟩) 1 1] w (Ui w (pick (fun s=>Lib.hasPrefix s.data.toList pf.data.toList) (fs.map Fe.ay))):=by
 obtain ⟨c,hm,JM⟩:=h.map;have Uj:=run_range_map (P:=Tryz.prog) w 123 9 162 r _ c Tryz.underlying123 hm;obtain ⟨c0,c1,c2,c3⟩:=h.cells;have lp:=af h.self;have dJ:((fs.map Fe.ay).map aG.born).Nodup:=by rw [eX];exact h.sV
 have hold:∀ e∈fs.map Fe.ay,e.born<c:=fun e he=>by obtain ⟨x,hx,rfl⟩:=aZ.1 he;exact JM x hx
 have pO:w.heap.size≠r:=by have:=af hm;omega
 have hlen:(fs.map Fe.ay).length<1000000000:=by simpa using mC
 generalize fs.map Fe.ay=l at*;have Hm:=ae hm;have nQ:=ae dJ;have iW:=ae hold;have Hq:=ae hq;clear hq;clear h JM dJ hold hm;go_enter Tryz.func33,Tryz.ntmps33;go_wp2;clear Uj
 go_loopw [5] (fun lv wr=>JL w r (fun s=>Lib.hasPrefix s.data.toList pf.data.toList) l c lv wr) (fun _ wr=>zT r w.heap.size wr)
 case atStart=>
  refine ⟨#[],c,[],none,0,0,rfl,ax w _,aw _,iL _ _ _ _,?_,by ((repeat (first|exact bS _ _|assumption|refine cz ?_|refine cA ?_|refine cj ?_ ?_ _|refine cy ?_ ?_ _))<;>try (first|omega|(simp<;>omega)))⟩;rw [show lD #[] l=l from List.filter_eq_self.2 (by simp)];simp
 case round=>
  obtain ⟨seen,Ou,done,la,ln,lc,rfl,hit,hcc,hown,pP,hg⟩:=hrel;have vZ:MapAt wr r Value.string l c:=hg.heap Hm.out;have Ab:=NW hit vZ;rcases abF (P:=Tryz.prog) (enc:=Value.string) (l:=l) 0 hit vZ iW.out hcc pO nQ.out with ⟨h1,h2⟩|⟨e,w1,he,hrun,ath,Ac,hgr,hsz⟩
  ·rw [h1] at pP
   have Hp:Hid (done.Perm (pick (fun s=>Lib.hasPrefix s.data.toList pf.data.toList) l)):=ae (by simpa [pick] using pP);have fX:=ae hown;have Hg:=ae hg;have Ad:done.length<1000000000:=by
    have:=Hp.out.length_eq;have h3:(pick (fun s=>Lib.hasPrefix s.data.toList pf.data.toList) l).length≤l.length:=by unfold pick;rw [bF];exact List.length_filter_le _ _
    omega
   clear h1 Ab vZ hit hown pP hg
   go_wp2_with fail
   have JN:done.mergeSort (fun x y=>decide (x≤y))=(pick (fun s=>Lib.hasPrefix s.data.toList pf.data.toList) l).mergeSort (fun x y=>decide (x≤y)):=mergeSort_of_perm Hp.out;have hrow:=fX.out;rcases hrow.2 with ⟨e1,e2⟩|⟨g,cap,cur,e1,iM,e2,e3,e4,e5,e6⟩
   ·cases e1
    have hd:done= []:=iI e2;subst hd;have FK:Calls Tryz.prog 71 #[.slice none 0 0] wr _:=acU wr;(with_reducible refine FK.mono ?_);rintro e w' ⟨rfl,rfl⟩;go_wp2;go_ret;refine ⟨_,rfl,?_,Hg.out⟩;rw [←JN,←Hp.out.length_eq,List.mergeSort_nil];exact iL _ _ _ _
   ·cases e1
    have hS:=acT wr g lc done cur e2 (by simpa using e6) Ad;have cJ:Hid (∀ n os,(grow (putRow encStr (Sort.ahead wr n) g 0 (done.mergeSort fun x y=>decide (x≤y)).toArray) os).ownsRow w.heap.size 9 1 (.slice (some ⟨g,0,none⟩) done.length lc) done.length ((done.mergeSort fun x y=>decide (x≤y)).map encStr)):=ae (fun n os=>ownsRow_sorted (List.length_mergeSort _) iM e2 e3 e4 e5);have HS:=ae hS;have Uk:=ae iM;clear hrow e2 iM e3 e4 e5 e6 hS;(with_reducible refine HS.out.mono ?_);rintro e w' ⟨rfl,nn,os,hw'⟩;have JO:=ae hw';clear hw';go_wp2;go_ret;refine ⟨_,rfl,?_,?_⟩
    ·rw [←JN,←Hp.out.length_eq,JO.out]
     exact cJ.out nn os
    ·rw [JO.out]
     exact Hg.out.grown (grownBy_sorted _) Hg.out.size (fun k hk=>by cases hk;exact Uk.out)
  ·have tq:=Uh (abG nQ.out) he
   rw [←NX] at tq;have Ad:done.length<1000000000:=by
    have:=pP.length_eq;have h3:(pick (fun s=>Lib.hasPrefix s.data.toList pf.data.toList) l).length≤l.length:=by unfold pick;rw [bF];exact List.length_filter_le _ _
    simp at this;omega
   have Ul:encStr e.key.data.toList= .string e.key:=acV _;have uN:pick (fun s=>Lib.hasPrefix s.data.toList pf.data.toList) (e::lD (seen.push e.born) l)=(if (fun s=>Lib.hasPrefix s.data.toList pf.data.toList) e.key=true then [e.key.data.toList] else [])++pick (fun s=>Lib.hasPrefix s.data.toList pf.data.toList) (lD (seen.push e.born) l):=by
    unfold pick;rw [List.filter_cons]
    split<;>simp
   have rD:(pick (fun s=>Lib.hasPrefix s.data.toList pf.data.toList) (lD seen l)).Perm (pick (fun s=>Lib.hasPrefix s.data.toList pf.data.toList) (e::lD (seen.push e.born) l)):=by
    unfold pick;exact (tq.filter _).map _
   rw [uN] at rD;generalize sP:e.key=key at*;have hown1:w1.ownsRow w.heap.size 9 1 (.slice la ln lc) done.length (done.map encStr):=hown.kept hgr (.inr fun e1=>by
    rcases hown.2 with ⟨e2,_⟩|⟨g,cap,cur,e2,_,e3,_⟩
    ·rw [e2] at e1;cases e1
    ·rw [e2] at e1
     have e4:g=w.heap.size:=bk e1;rw [e4,hit] at e3;cases e3)
   have hsw:w.heap.size<w1.heap.size:=af Ac;have hg1:Grow w w1:=hg.grown hgr hg.size (fun k hk=>by cases hk;exact aw _);have ah:Grow w1 (w1.alloc (.cells #[.string key] 9)):=ar _ _;have dK:(w1.alloc (.cells #[.string key] 9)).heap[w1.heap.size]?=some (.cells #[.string key] 9 (0,0)):=ax _ _;have hown2:=hown1.alloc (.cells #[.string key] 9);have wh:=ah.heap Ac;have hg2:=hg1.trans ah;have CJ:∀ W,W.heap[w.heap.size]?=some (.mapIter (some r) c (seen.push e.born) c)→Grow w W→zT r w.heap.size W<zT r w.heap.size wr:=fun W hW ym=>by
    rw [NW hW (ym.heap Hm.out:MapAt W r Value.string l c),Ab,NX];refine Nat.lt_of_le_of_ne (List.length_filter_le _ _) fun h4=> ?_
    have:=(List.length_filter_eq_length_iff.1 h4) e he;simp at this
   have hcon:=acL (hg2.heap Hq.out) (fn:=70) ⟨_,Tryz.func70,by kernel_rfl⟩ (atf JK key pf dK) (enters_of Tryz.func70 (by kernel_rfl) rfl);have q0:=af Hq.out;cases gQ:(fun s=>Lib.hasPrefix s.data.toList pf.data.toList) key with
   |true=>
    have JS:=gQ;rw [gQ,if_pos rfl] at rD;obtain ⟨i0,bO,hz0,hz1,hz2⟩:=info_parts Tryz.Og;have hgb:Grow (w1.alloc (.cells #[.string key] 9)) ((w1.alloc (.cells #[.string key] 9)).alloc (.cells #[.string key] 9)):=ar _ _;have eK:=ax (w1.alloc (.cells #[.string key] 9)) (.cells #[.string key] 9);rw [show (w1.alloc (.cells #[.string key] 9)).heap.size=w1.heap.size+1 by simp] at eK;obtain ⟨g3,Um,w3,JP,iC,rE,Un,Uo⟩:=run_append_lies (P:=Tryz.prog) ((w1.alloc (.cells #[.string key] 9)).alloc (.cells #[.string key] 9)) 95 95 w.heap.size 9 i0 _ 1 16 Tryz.underlying95 bO hz0 hz1 hz2 rfl (by decide) _ _ _ (hown2.alloc _)
     ⟨w1.heap.size+1,0,none⟩ 1 1 [.string key] rfl (fun j u hu=>World.news_of_block eK j u (by simpa using hu)) (fun u hu=>by rw [cY.1 hu];rfl) (by decide) (by unfold maxLen;omega) (by omega) (by simp;omega) _ rfl
    have hg3:Grow w w3:=(hg2.trans hgb).grown rE (by have:=(hg2.trans hgb).size;omega) (fun k hk=>(hown2.lt k hk).1);have CK:w3.heap[w.heap.size]?=some (.mapIter (some r) c (seen.push e.born) c):=by
     rw [rE.block w.heap.size (by simp;omega) (fun e1=> ?_)]
     ·exact hgb.heap wh
     ·rcases hown2.2 with ⟨e2,_⟩|⟨g,cap,cur,e2,_,e3,_⟩
      ·rw [e2] at e1;cases e1
      ·rw [e2] at e1
       have e4:w.heap.size=g:=bk e1;rw [←e4,wh] at e3;cases e3
    have aX:Hid (JL w r (fun s=>Lib.hasPrefix s.data.toList pf.data.toList) l c (.slice (some ⟨g3,0,none⟩) (done.length+1) Um) w3):=by
     refine ae ⟨seen.push e.born,c,done++ [key.data.toList],_,_,_,rfl,CK,aw _,?_,?_,hg3⟩
     ·rw [aJ,dD,List.map_singleton,Ul];exact iC
     ·refine List.Perm.trans ?_ pP
      rw [ju];exact List.Perm.append_left _ rD.symm
    have JQ:=ae (CJ w3 CK hg3);have JR:=ae JP;clear Ab vZ hit Ac hgr he pP hg tq hown sP hown1 hg1 bO hz0 hz1 hz2 eK JP iC rE Un Uo hg2 wh hg3 CK CJ rD uN hgb hown2 gQ hsz dK;rw [show Lib.hasPrefix key.data.toList pf.data.toList=true from JS] at hcon;have uK:=ae hcon;clear hcon JS
    go_wp2_with fail
    (with_reducible refine uK.out.mono ?_);rintro e5 w5 ⟨rfl,nR⟩;have JT:=nR.symm;subst JT;clear nR
    go_wp2_with (at_builtin;refine fI rfl rfl rfl rfl JR.out ?_)
    go_roundw
    case rel=>exact aX.out
    case measure=>exact JQ.out
   |false=>
    have JS:=gQ;rw [gQ,if_neg (by decide),iq] at rD;have aX:Hid (JL w r (fun s=>Lib.hasPrefix s.data.toList pf.data.toList) l c (.slice la ln lc) (w1.alloc (.cells #[.string key] 9))):=ae ⟨seen.push e.born,c,done,_,_,_,rfl,wh,aw _,hown2,(List.Perm.append_left _ rD.symm).trans pP,hg2⟩;have JQ:=ae (CJ _ wh hg2);clear Ab vZ hit Ac hgr he pP hg tq hown sP hown1 hg1 hg2 wh CJ rD uN hown2 gQ hsz dK;rw [show Lib.hasPrefix key.data.toList pf.data.toList=false from JS] at hcon;have uK:=ae hcon;clear hcon JS
    go_wp2_with fail
    (with_reducible refine uK.out.mono ?_);rintro e5 w5 ⟨rfl,nR⟩;have JT:=nR.symm;subst JT;clear nR;go_wp2;go_roundw
    case rel=>exact aX.out
    case measure=>exact JQ.out
def cR (V:Vw):Nat:=(V.map (fun e=>e.2.1.length)).sum
def wj (picks:List Int) (i len uO:Nat):Nat:=match picks[i]? with
 |none=>uO
 |some k=>if 0≤k then uO+(k%((len-uO+1:Nat):Int)).toNat else uO
def oC (n:ByteArray) (k:Nat) (V:Vw):Vw:=V.map (fun e=>if e.1=n then (e.1,e.2.1.take k,k) else e)
def cZ (n:ByteArray) (V:Vw):Option (List UInt8×Nat):=(V.find? (fun e=>decide (n=e.1))).map (·.2)
def Ae (picks:List Int):Nat→List (List UInt8)→Vw→Vw
 |_,[],V=>V
 |i,n::ns,V=>Ae picks (i+1) ns (match cZ ⟨n.toArray⟩ V with|none=>V|some (b,s)=>oC ⟨n.toArray⟩ (wj picks i b.length s) V)
theorem acX (picks:List Int) (i:Nat) {len uO:Nat} (h:uO≤len):uO≤wj picks i len uO∧wj picks i len uO≤len:=by
 unfold wj;split
 ·omega
 ·rename_i k _
  split
  ·have h1:=Int.emod_nonneg k (b:=((len-uO+1:Nat):Int)) (by omega)
   have h2:=Int.emod_lt_of_pos k (b:=((len-uO+1:Nat):Int)) (by omega);omega
  ·omega
theorem wk (n:ByteArray) (fs:List Fe):cZ n (vw fs)=(fileOf n fs).map (fun f=>(f.b,f.synced)):=by
 unfold cZ fileOf vw
 induction fs with
 |nil=>rfl
 |cons f fs ih=>
  simp only [cg,List.find?_cons];by_cases h:n=f.name
  ·simp [h]
  ·simp only [h,decide_false]
   exact ih
theorem ati {fs:List Fe} (h:(fs.map Fe.name).Nodup) {f:Fe} (hf:f∈fs) (v:Value) (k:Nat):vw (jU f.name v (f.b.take k) k fs)=oC f.name k (vw fs):=by
 unfold oC vw jU;rw [eX,eX];refine iJ fun g hg=> ?_
 simp only [Function.comp];by_cases hn:g.name=f.name
 ·have:=Oo h hg hf hn
  subst this;simp
 ·simp [hn]
theorem atj {fs:List Fe} (h:(fs.map Fe.name).Nodup) {f:Fe} (hf:f∈fs) (hk:k≤f.b.length):cR (oC f.name k (vw fs))+(f.b.length-k)=cR (vw fs):=by
 induction fs with
 |nil=>cases hf
 |cons g fs ih=>
  simp only [cg,List.nodup_cons,aZ,not_exists,not_and] at h;rcases bE.1 hf with rfl|hf'
  ·have kR:oC f.name k (vw fs)=vw fs:=by
    unfold oC;refine (iJ fun e he=> ?_).trans (List.map_id _);obtain ⟨x,hx,rfl⟩:=aZ.1 he;simp [h.1 x hx]
   have e1:oC f.name k (vw (f::fs))=(f.name,f.b.take k,k)::vw fs:=by
    show (if f.name=f.name then _ else _)::oC f.name k (vw fs)=_;rw [kR,if_pos rfl]
   rw [e1];simp [cR,vw];omega
  ·have hne:¬ g.name=f.name:=fun e=>h.1 f hf' e.symm
   have:=ih h.2 hf';have e1:oC f.name k (vw (g::fs))=(g.name,g.b,g.synced)::oC f.name k (vw fs):=by
    show (if g.name=f.name then _ else _)::oC f.name k (vw fs)=_;rw [if_neg hne]
   rw [e1];simp only [cR,vw,cg,List.sum_cons] at this ⊢;omega
theorem atk {a:Option Addr} (h:aI B w (.slice a l.length c) l) (hk:k≤l.length):aI B w (.slice a k k) (l.take k):=by
 have hl:(dE (l.take k)).length=k:=by rw [jF];simp;omega
 rcases h with ⟨h1,h2⟩|⟨g,cap,cur,h1,hB,hg,hlc,hcc,hm,ht⟩
 ·have hl0:l= []:=iI (by rw [←jF,h2];rfl)
  subst hl0;simp only [Value.slice.injEq] at h1;obtain ⟨rfl,_,rfl⟩:=h1;have:k=0:=by simpa using hk
  subst this;exact .inl ⟨rfl,rfl⟩
 ·simp only [Value.slice.injEq] at h1
  obtain ⟨rfl,_,rfl⟩:=h1;rw [jF] at hlc ht;refine .inr ⟨g,k,cur,by rw [hl],hB,hg,by rw [hl];exact aw _,by omega,by omega,?_⟩;rw [hl];have:cur.toList.take k=(cur.toList.take l.length).take k:=by rw [List.take_take,Nat.min_eq_left hk]
  rw [this,ht];simp [dE,List.map_take]
def Iv (w:World) (v:Value) (ks:List Int):Prop:=
 ∃ a c,v= .slice a ks.length c∧ks.length≤maxLen∧(ks= []∨∃ b o,a=some ⟨b,o,none⟩∧b<w.heap.size∧∀ (j:Nat) (k:Int),ks[j]?=some k→w.cell? ⟨b,o+j,none⟩=some (.int .i64 k))
def Up (F:Nat→Prop) (v:Value):Prop:=∀ b,v.ownBlock=some b→¬ F b
theorem Iv.sep (h:Iv w v ks) (hs:Sep F w w' F') (hf:ks≠ []→Up F v):Iv w' v ks:=by
 obtain ⟨a,c,rfl,hm,h⟩:=h;refine ⟨a,c,rfl,hm,?_⟩;by_cases hk:ks= []
 ·exact .inl hk
 ·rcases h with h|⟨b,o,rfl,hb,hc⟩
  ·exact absurd h hk
  ·have eY:=hs.free hb (hf hk b rfl)
   exact .inr ⟨b,o,rfl,eY.2.1,fun j k hj=>by rw [←hc j k hj];simp only [World.cell?,eY.1]⟩
theorem atl (n:ByteArray) (k:Nat) (V:Vw):(oC n k V).map (·.1)=V.map (·.1):=by
 unfold oC;rw [eX];refine iJ fun e _=> ?_
 simp only [Function.comp]
 split<;>rfl
structure CrI (B:Nat) (w:World) (p r:Nat) (size born:Int) (V0:Vw) (F:Nat→Prop) (picks:List Int) (ns:List (List UInt8)) (gN:Nat) (cur:Array Value) (i:Nat) (bH:List Fe) (wr:World):Prop where
 bg:bU B wr p r size (cR (vw bH)) born bH
 run:Ae picks 0 ns V0=Ae picks i (ns.drop i) (vw bH)
 names:(vw bH).map (·.1)=V0.map (·.1)
 sep:Sep F w wr (dt p r bH)
 row:wr.heap[gN]?=some (.cells cur 9 (0,0))
 room:cR (vw bH)≤1073741824
def Uq (B:Nat) (w:World) (p r:Nat) (size born:Int) (V0:Vw) (F:Nat→Prop) (picks:List Int) (ns:List (List UInt8)) (gN:Nat) (cur:Array Value) (iv:Value) (wr:World):Prop:=
 ∃ (i:Nat) (bH:List Fe),iv= .int .i64 i∧i≤ns.length∧CrI B w p r size born V0 F picks ns gN cur i bH wr
theorem acY {fs:List Fe} {f:Fe} (h:f∈fs):f.b.length≤cR (vw fs):=by
 induction fs with
 |nil=>cases h
 |cons g fs ih=>
  simp only [cR,vw,cg,List.sum_cons] at ih ⊢;rcases bE.1 h with rfl|h
  ·omega
  ·have:=ih h;omega
theorem atn {fs:List Fe} {n:ByteArray} (h:n∈(vw fs).map (·.1)):∃ f,fileOf n fs=some f:=by
 cases hf:fileOf n fs with
 |some f=>exact ⟨f,rfl⟩
 |none=>
  obtain ⟨e,he,rfl⟩:=aZ.1 h;obtain ⟨f,kD,rfl⟩:=aZ.1 he;exact absurd rfl (CE hf f kD)
theorem ato {size:Int} {fs:List Fe} (h:bU B w p r size used born fs) {f:Fe} (hf:f∈fs) {a:Option Addr} (bC:f.bv= .slice a f.b.length c) (hk:k≤f.b.length) (sY:Int):
  bU B (((w.setCell ⟨p,1,none⟩ (.int .i64 sY)).setCell ⟨f.fb,0,none⟩ (.slice a k k)).setCell ⟨f.fb,1,none⟩ (.int .i64 k)) p r size sY born (jU f.name (.slice a k k) (f.b.take k) k fs)∧
  Sep (dt p r fs) w (((w.setCell ⟨p,1,none⟩ (.int .i64 sY)).setCell ⟨f.fb,0,none⟩ (.slice a k k)).setCell ⟨f.fb,1,none⟩ (.int .i64 k)) (dt p r (jU f.name (.slice a k k) (f.b.take k) k fs)):=by
 obtain ⟨h1,s1⟩:=h.FD sY;have hrow:aI B (w.setCell ⟨p,1,none⟩ (.int .i64 sY)) (.slice a k k) (f.b.take k):=atk (l:=f.b) (c:=c) (by rw [←bC];exact (h1.files f hf).row) hk;have hc1:=(h1.files f hf).cell;obtain ⟨h2,s2⟩:=h1.put hf (w1:=w.setCell ⟨p,1,none⟩ (.int .i64 sY)) (w2:=((w.setCell ⟨p,1,none⟩ (.int .i64 sY)).setCell ⟨f.fb,0,none⟩ (.slice a k k)).setCell ⟨f.fb,1,none⟩ (.int .i64 k)) (s:=k) hrow ⟨rfl,rfl,rfl,aw _,fun _ _ _=>rfl⟩ (fun b hb=> .inl (by rw [bC];cases a<;>exact hb)) (aK (aK hc1 0 _) 1 _) (vU (je _ _ _ _) (je _ _ _ _)) (by simp;omega);exact ⟨h2,s1.trans s2⟩
end Go.Proofs.YtoolkdapflaeeaaGreatDoor
