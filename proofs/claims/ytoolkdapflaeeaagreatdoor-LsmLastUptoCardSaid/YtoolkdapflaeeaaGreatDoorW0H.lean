/- Helpers. -/
import Derived.Test.YtoolkdapflaeeaaGreatDoorW0G
import Derived.BigRegion
import Derived.Test.YtoolkdapflaeeaaGreatDoorW00
set_option maxRecDepth 100000
set_option maxHeartbeats 16000000
namespace Go.Proofs.YtoolkdapflaeeaaGreatDoor
open Go.RowKit Go.Gl Go.aH Mn
def CK (l:List En) (i:Nat):Bool:=decide (i=0)||match l[i]?,l[i-1]? with|some a,some b=>decide (a.key≠b.key)|_,_=>false
def qU (l:List En) (n:Nat):Nat:=((List.range n).filter (CK l)).length
def fP (l:List En):Nat:=max 8 ((10*qU l l.length+7) / 8)
def JV (bits:List UInt8) (p:Nat):List UInt8:=bits.set (p / 8) (UInt8.ofNat ((bits.getD (p / 8) 0).toNat|||2^(p%8)))
def nK (m:Nat) (bits:List UInt8) (k:List UInt8):Nat→List UInt8
 |0=>bits
 |j+1=>JV (nK m bits k j) (lY k m j)
def dn (l:List En):List UInt8:=l.foldl (fun b e=>nK (8*fP l) b e.key.data.toList 4) (List.replicate (fP l) 0)
theorem avF (bits:List UInt8) (p:Nat):(JV bits p).length=bits.length:=by simp [JV]
theorem UY (m:Nat) (bits k:List UInt8):∀ j,(nK m bits k j).length=bits.length
 |0=>rfl
 |j+1=>by rw [nK,avF,UY m bits k j]
theorem UZ (m:Nat):∀ (l:List En) (b:List UInt8),(l.foldl (fun b e=>nK m b e.key.data.toList 4) b).length=b.length
 | [],_=>rfl
 |e::l,b=>by rw [List.foldl_cons,UZ m l,UY]
theorem JW (l:List En):(dn l).length=fP l:=by unfold dn;rw [UZ,List.length_replicate]
theorem Fl (l:List En) (n:Nat):qU l n≤n:=by
 unfold qU;exact aN (List.length_filter_le _ _) (by simp)
theorem avG (l:List En) (n:Nat):qU l (n+1)=qU l n+(if CK l n then 1 else 0):=by
 unfold qU;rw [List.range_succ,List.filter_append,List.length_append];congr 1;cases h:CK l n<;>simp [h]
theorem avH {k:List UInt8} {m j:Nat} (h:0<m):lY k m j<m:=Nat.mod_lt _ h
theorem avI (N:Nat) (hN:N≤10000000) (w:World):∃ w',(Instr.makeSlice 49 (.int .i64 (N:Int)) (.int .i64 (N:Int))).run Tryz.prog w= .ok (.slice (some ⟨w.heap.size,0,none⟩) N N) w'∧
  w'.heap[w.heap.size]?=some (.cells (cR (List.replicate N 0)).toArray 5 (0,0))∧Grow w w':=by
 obtain ⟨i,bK,hzz,hsz,cZ⟩:=info_parts Tryz.Mt;have h:=run_makeSlice (w:=w) 49 5 i (.int .u8 0) Tryz.underlying49 bK hzz .i64 .i64 (N:Int) (N:Int) (by omega) (Int.le_refl _) (by rw [hsz];simp;omega) (by rw [cZ];omega) (by omega);refine ⟨_,h,?_,Grow.alloc _ _⟩;have e:madeCells (Value.int .u8 0).cells ((N:Int).toNat*i.size)=(cR (List.replicate N 0)).toArray:=by
  rw [hsz];apply Array.ext
  ·simp [madeCells,cR]
  ·intro j h1 h2
   simp [madeCells,cR,Value.cells,Nat.mod_one]
 rw [e];exact aw _ _
theorem avJ {W:World} {g q:Nat} {L:List UInt8} (h:W.heap[g]?=some (.cells (cR L).toArray 5 (0,0))) (x:UInt8):(W.setCell ⟨g,q,none⟩ (.int .u8 (x.toNat:Int))).heap[g]?=some (.cells (cR (L.set q x)).toArray 5 (0,0)):=by
 rw [Go.Gl.aI h q _];simp [cR,List.map_set]
theorem avK {B g:Nat} {W:World} {L:List UInt8} (hB:B≤g) (h:W.heap[g]?=some (.cells (cR L).toArray 5 (0,0))) (hl:L.length≤1000000000):aG B W (.slice (some ⟨g,0,none⟩) L.length L.length) L:=by
 refine .inr ⟨g,L.length,_,by rw [iL],hB,h,?_,?_,?_,?_⟩
 ·rw [iL];exact ay _
 ·simp [cR]
 ·unfold maxLen;omega
 ·exact List.take_length ..
theorem avL {b r:Nat} (hb:b<256) (hr:r<8):bits .or .u8 (b:Int) ((2^r:Nat):Int)=(((UInt8.ofNat (b|||2^r)).toNat:Nat):Int):=by
 have h2:2^r<256:=cj (Nat.pow_lt_pow_right (by decide) hr) (by decide);rw [u8_or_nat b (2^r) hb h2,UInt8.toNat_ofNat_of_lt' (Nat.or_lt_two_pow (n:=8) hb h2)]
def avM (w:World) (l:List En) (nv iv:Value) (wr:World):Prop:=∃ i:Nat,iv= .int .i64 (i:Int)∧i≤l.length∧nv= .int .i64 (qU l i:Nat)∧Grow w wr
def Va (w:World) (l:List En) (g:Nat) (iv:Value) (wr:World):Prop:=∃ i:Nat,iv= .int .i64 (i:Int)∧i≤l.length∧wr.heap[g]?=some (.cells (cR ((l.take i).foldl (fun b e=>nK (8*fP l) b e.key.data.toList 4) (List.replicate (fP l) 0))).toArray 5 (0,0))∧Below w.heap.size w wr
def afd (w:World) (m:Nat) (L k:List UInt8) (g:Nat) (iv:Value) (wr:World):Prop:=∃ j:Nat,iv= .int .i64 (j:Int)∧j≤4∧wr.heap[g]?=some (.cells (cR (nK m L k j)).toArray 5 (0,0))∧Below w.heap.size w wr
theorem afe {N:Nat→Prop} {w:World} {v:Value} {ys:List Ev} (h:Es N w v ys) (hlen:ys.length≤1000000) (hk:∀ y∈ys,y.e.key.size≤100000000):
  Calls Tryz.prog 149 #[v] w fun e w'=>∃ v',e= .returned v'∧aG w.heap.size w' v' (dn (ys.map Ev.e))∧Grow w w':=by
 have H:=ae h;have HK:=ae hk;obtain ⟨va,vc,rfl⟩:=h.slice;clear h hk;go_enter Tryz.func149,Tryz.ntmps149
 go_wp2_with fail
 go_loopw [3,12] (fun nv iv wr=>avM w (ys.map Ev.e) nv iv wr) (fun _ iv _=>ys.length-(intOf iv).toNat)
 case atStart=>exact ⟨0,rfl,bk _,rfl,Grow.refl _⟩
 case round=>
  obtain ⟨i,rfl,hi,rfl,hg⟩:=hrel;rw [List.length_map] at hi;have ju:=Fl (ys.map Ev.e) i;by_cases hlt:i<ys.length
  ·obtain ⟨x,b,o,c,xa,xc,hx,hv,hb,dm,vF,c0,c1,c2,c3⟩:=H.out.read hg hlt
   cases hv;have dJ:(i:Int)<(ys.length:Int):=by omega
   have bK:(0:Int)≤(i:Int):=by omega
   have eE:IntKind.i64.wrap ((i:Int)+1)=((i+1:Nat):Int):=by rw [aR _ (by omega)];omega
   have Fm:IntKind.i64.wrap ((qU (ys.map Ev.e) i:Int)+1)=((qU (ys.map Ev.e) i+1:Nat):Int):=by rw [aR _ (by omega)];omega
   have qy:=avG (ys.map Ev.e) i;have Hg:=ae hg;clear dm vF c1 c2 c3;by_cases h0:i=0
   ·subst h0
    have xy:CK (ys.map Ev.e) 0=true:=by simp [CK]
    rw [xy,if_pos rfl] at qy;have OA:=ae qy;generalize qU (ys.map Ev.e) 0=k0 at*;have Hi:=ae hi;clear hg qy hx xy c0
    go_upto_region 5 with fail
    refine bX (fun V=>Below wr.heap.size wr V) [(0,false),(1,false),(2,false),(3,false),(4,false),(5,false),(6,false),(7,false),(8,false),(9,false),(10,false),(11,false),(12,false),(13,false),(14,false),(15,false)] (by kernel_rfl) (by kernel_rfl) (fun c a d v w h=>by cases d<;>exact h) (by (repeat (first|exact Below.refl _ _|assumption|refine Below.drew ?_|refine cp ?_|refine Below.setCell ?_ (by first|omega|(simp<;>omega)) _|refine Below.alloc ?_ (by first|omega|(simp<;>omega)) _))) ?_;simp only [aP,nth]
    repeat (first|(refine aB (v:= ?_) (by rfl) ?_ ?_;rotate_left;(rintro W hW;go_simp;with_reducible rfl);simp only [ag,List.set])|(refine aC (by rfl) ?_;simp only [ag,List.set]))
    refine bm ?_;go_wp2;go_roundw
    case rel=>exact ⟨1,rfl,by rw [List.length_map];omega,by rw [OA.out];simp,Hg.out.trans (Grow.drew _)⟩
    case measure=>simp [intOf];omega
   ·obtain ⟨p,hp⟩:∃ p,i=p+1:=⟨i-1,by omega⟩
    obtain ⟨y,b',o',c',ya,yc,hy,hv',hb',ir,vG,e0,_,_,_⟩:=H.out.read hg (show p<ys.length by omega);cases hv';have xy:CK (ys.map Ev.e) i= !(x.e.key.toList==y.e.key.toList):=by
     unfold CK;rw [show i-1=p by omega,List.getElem?_map,List.getElem?_map,hx,hy];show (decide (i=0)||decide (x.e.key≠y.e.key))=_;rw [ByteArray.toList_eq,ByteArray.toList_eq,decide_eq_false h0];by_cases sS:x.e.key=y.e.key
     ·simp [sS]
     ·have:¬ x.e.key.data.toList=y.e.key.data.toList:=fun e=>sS (EW e)
      simp only [ne_eq,sS,not_false_eq_true,decide_true,Bool.or_true];rw [beq_eq_false_iff_ne.2 this];rfl
    rw [xy] at qy;have hz:((i:Int)==0)=false:=by simp;omega
    have hwp:IntKind.i64.wrap ((i:Int)-1)=(p:Int):=by rw [aR _ (by omega)];omega
    have wP:(0:Int)≤(p:Int):=by omega
    have qV:(p:Int)<(ys.length:Int):=by omega
    obtain ⟨bb,cZ⟩:∃ bb,(x.e.key.toList==y.e.key.toList)=bb:=⟨_,rfl⟩
    rw [cZ] at qy;have OA:=ae qy;have aQ:=Grow.cells (w:=wr);generalize qU (ys.map Ev.e) i=k0 at*;clear hg qy hx hy xy ir vG h0 hp
    go_upto_region 5 with fail
    refine bX (fun V=>Below wr.heap.size wr V) [(0,false),(1,false),(2,false),(3,false),(4,false),(5,false),(6,false),(7,false),(8,false),(9,false),(10,false),(11,false),(12,false),(13,false),(14,false),(15,false)] (by kernel_rfl) (by kernel_rfl) (fun c a d v w h=>by cases d<;>exact h) (by (repeat (first|exact Below.refl _ _|assumption|refine Below.drew ?_|refine cp ?_|refine Below.setCell ?_ (by first|omega|(simp<;>omega)) _|refine Below.alloc ?_ (by first|omega|(simp<;>omega)) _))) ?_;simp only [aP,nth]
    repeat (first|(refine aB (v:= ?_) (by rfl) ?_ ?_;rotate_left;(rintro W hW;go_simp;with_reducible rfl);simp only [ag,List.set])|(refine aC (by rfl) ?_;simp only [ag,List.set]))
    refine bm ?_;clear aQ c0 e0;cases bb with
    |false=>
     go_wp2;go_roundw
     case rel=>exact ⟨i+1,rfl,by rw [List.length_map];omega,by rw [OA.out];simp,Hg.out.trans (Grow.drew _)⟩
     case measure=>simp [intOf];omega
    |true=>
     go_wp2;go_roundw
     case rel=>exact ⟨i+1,rfl,by rw [List.length_map];omega,by rw [OA.out];simp,Hg.out.trans (Grow.drew _)⟩
     case measure=>simp [intOf];omega
  ·obtain rfl:i=ys.length:=by omega
   have hN:fP (ys.map Ev.e)=max 8 ((10*qU (ys.map Ev.e) ys.length+7) / 8):=by unfold fP;rw [List.length_map]
   generalize qU (ys.map Ev.e) ys.length=n at*;have hNb:fP (ys.map Ev.e)≤10000000∧8≤fP (ys.map Ev.e):=by rw [hN];omega
   have hmx:max (8:Int) ((10*(n:Int)+7) / 8)=((fP (ys.map Ev.e):Nat):Int):=by rw [hN];omega
   obtain ⟨w2,Vb,hb2,hg2⟩:=avI (fP (ys.map Ev.e)) hNb.1 wr;have hFB:Va w (ys.map Ev.e) wr.heap.size (.int .i64 ((0:Nat):Int)) w2:=⟨0,rfl,bk _,by simpa using hb2,hg.trans hg2⟩
   have HFB:=ae hFB;have nM:=hg.size;generalize wr.heap.size=g at*;clear hb2 hg2 hg hFB hN
   go_wp2_with fail
   obtain ⟨FN,OB⟩:∃ FN,FN=fP (ys.map Ev.e):=⟨_,rfl⟩
   rw [←OB] at hNb;rw [←OB];have Vc:=ae OB;obtain ⟨aFO,afg⟩:=hNb;clear Vb OB hmx
   go_loopw [42] (fun iv wr=>Va w (ys.map Ev.e) g iv wr) (fun iv _=>ys.length-(intOf iv).toNat)
   case atStart=>exact HFB.out
   case round=>
    obtain ⟨i,rfl,hi,gR,eI⟩:=hrel;rw [List.length_map] at hi;by_cases hlt:i<ys.length
    ·obtain ⟨x,b,o,c,xa,xc,hx,hv,hb,dm,vF,c0,c1,c2,c3⟩:=H.out.read eI hlt
     cases hv;have dJ:(i:Int)<(ys.length:Int):=by omega
     have bK:(0:Int)≤(i:Int):=by omega
     have eE:IntKind.i64.wrap ((i:Int)+1)=((i+1:Nat):Int):=by rw [aR _ (by omega)];omega
     have sT:=HK.out x (dY hx);have afh:((ys.map Ev.e).take (i+1)).foldl (fun b e=>nK (8*fP (ys.map Ev.e)) b e.key.data.toList 4) (List.replicate (fP (ys.map Ev.e)) 0)=nK (8*FN) (((ys.map Ev.e).take i).foldl (fun b e=>nK (8*fP (ys.map Ev.e)) b e.key.data.toList 4) (List.replicate (fP (ys.map Ev.e)) 0)) x.e.key.data.toList 4:=by
      rw [List.take_add_one,List.getElem?_map,hx,List.foldl_append,Vc.out];rfl
     have dA:(((ys.map Ev.e).take i).foldl (fun b e=>nK (8*fP (ys.map Ev.e)) b e.key.data.toList 4) (List.replicate (fP (ys.map Ev.e)) 0)).length=FN:=by rw [UZ,List.length_replicate,Vc.out]
     generalize ((ys.map Ev.e).take i).foldl (fun b e=>nK (8*fP (ys.map Ev.e)) b e.key.data.toList 4) (List.replicate (fP (ys.map Ev.e)) 0)=L at*;have avO:=ae afh;have pM:=ae dA;have ai:=Grow.alloc wr (.cells #[.string x.e.key,.int .u64 x.e.seq,.bool x.e.gone,.slice xa x.e.val.length xc] 60);have JX:=ae (ai.heap gR);have rZ:=ae (eI.trans (ai.mono eI.size));have si:IntKind.i64.wrap (8*(FN:Int))=((8*FN:Nat):Int):=by rw [aR _ (by omega)];omega
     have hu8:IntKind.u64.wrap ((8*FN:Nat):Int)=((8*FN:Nat):Int):=tW (by omega);have OC:=ae (fun W=>avv x.e.key sT (m:=8*FN) (by omega) (by omega) W);clear afh dA ai gR eI hx dm vF hi;generalize afi:8*FN=m8 at*;have Hm8:=ae afi;clear afi
     go_wp2_with fail
     (with_reducible refine (OC.out _).mono ?_);rintro e w3 ⟨rfl,hg3⟩;have nX:∀ j:Nat,j<4→∀ V:World,(Instr.index 310 (.agg #[.int .u64 (lY x.e.key.data.toList m8 0:Nat),.int .u64 (lY x.e.key.data.toList m8 1:Nat),.int .u64 (lY x.e.key.data.toList m8 2:Nat),.int .u64 (lY x.e.key.data.toList m8 3:Nat)]) (.int .i64 (j:Int))).run Tryz.prog V= .ok (.int .u64 (lY x.e.key.data.toList m8 j:Nat)) V:=fun j hj V=>by
      match j,hj with
      |0,_=>simp [Instr.index,run_underlying Tryz.underlying310,go_sem]
      |1,_=>simp [Instr.index,run_underlying Tryz.underlying310,go_sem]
      |2,_=>simp [Instr.index,run_underlying Tryz.underlying310,go_sem]
      |3,_=>simp [Instr.index,run_underlying Tryz.underlying310,go_sem]
     have zY:=ae nX;have hC:afd w m8 L x.e.key.data.toList g (.int .i64 ((0:Nat):Int)) w3:=⟨0,rfl,by decide,hg3.heap JX.out,rZ.out.trans (hg3.mono rZ.out.size)⟩
     have HC:=ae hC;clear hC nX hg3 OC JX rZ c0 c1 c2 c3 hb si hu8;obtain ⟨p0,wP⟩:∃ p,p=lY x.e.key.data.toList m8 0:=⟨_,rfl⟩
     obtain ⟨p1,qV⟩:∃ p,p=lY x.e.key.data.toList m8 1:=⟨_,rfl⟩
     obtain ⟨p2,hp2⟩:∃ p,p=lY x.e.key.data.toList m8 2:=⟨_,rfl⟩
     obtain ⟨p3,hp3⟩:∃ p,p=lY x.e.key.data.toList m8 3:=⟨_,rfl⟩
     rw [←wP,←qV,←hp2,←hp3] at zY ⊢;clear wP qV hp2 hp3
     go_wp2_with fail
     go_loopw [53] (fun jv wr=>afd w m8 L x.e.key.data.toList g jv wr) (fun jv _=>4-(intOf jv).toNat)
     case atStart=>exact HC.out
     case round=>
      obtain ⟨j,rfl,hj,CL,OD⟩:=hrel;by_cases hj4:j<4
      ·have aFP:=zY.out j hj4
       have aFQ:=avH (k:=x.e.key.data.toList) (m:=m8) (j:=j) (by have:=Hm8.out;omega);have hstep:nK m8 L x.e.key.data.toList (j+1)=JV (nK m8 L x.e.key.data.toList j) (lY x.e.key.data.toList m8 j):=rfl;have np:=UY m8 L x.e.key.data.toList j;rw [pM.out] at np;generalize lY x.e.key.data.toList m8 j=p at*;generalize nK m8 L x.e.key.data.toList j=LJ at*;have hq:(p:Int) / 8=((p / 8:Nat):Int):=by omega
       have hr:(p:Int)%8=((p%8:Nat):Int):=by omega
       have Vd:p / 8<FN:=by have:=Hm8.out;omega
       have Jd:p%8<8:=by omega
       unfold JV at hstep;generalize p / 8=q at*;generalize p%8=r at*;obtain ⟨bt,dR⟩:∃ bt,LJ[q]?=some bt:=⟨_,List.getElem?_eq_getElem (by omega)⟩
       have hgd:LJ.getD q 0=bt:=by rw [List.getD_eq_getElem?_getD,dR];rfl
       rw [hgd] at hstep;have cq:wr.cell? ⟨g,q,none⟩=some (.int .u8 (bt.toNat:Int)):=by
        have:(cR LJ).toArray[q]?=some (.int .u8 (bt.toNat:Int)):=by simp [cR,dR]
        simp only [World.cell?,CL];simpa using this
       have fq:wr.frozen? ⟨g,q,none⟩=false:=by simp [World.frozen?,CL]
       have lg:=af CL;have uS:=avL bt.toNat_lt Jd;have cE:=avJ (q:=q) CL (UInt8.ofNat (bt.toNat|||2^r));rw [←hstep,←uS] at cE;rw [show ((2^r:Nat):Int)=(2:Int)^r by simp] at cE;have h2r:2^r<256:=cj (Nat.pow_lt_pow_right (by decide) Jd) (by decide);have rU:IntKind.u8.wrap (2^r)=((2^r:Nat):Int):=by
        have e:((2:Int)^r)=((2^r:Nat):Int):=by simp
        rw [e];generalize 2^r=z at*;simp [IntKind.wrap,IntKind.bits,IntKind.signed];omega
       have Ep:(j:Int)<4:=by omega
       have ze:(0:Int)≤(j:Int):=by omega
       have hwj:IntKind.i64.wrap ((j:Int)+1)=((j+1:Nat):Int):=by rw [aR _ (by omega)];omega
       have jk:(q:Int)<(FN:Int):=by omega
       have hq0:(0:Int)≤(q:Int):=by omega
       have sw:=ae cE;have avR:=ae OD;clear cE CL OD hstep dR hgd np h2r uS;have hle:w.heap.size≤g:=nM;go_wp2;go_roundw
       case rel=>exact ⟨j+1,rfl,hj4,sw.out,avR.out.setCell (p:=⟨g,q,none⟩) hle _⟩
       case measure=>simp [intOf];omega
      ·obtain rfl:j=4:=by omega
       have hrel:Va w (ys.map Ev.e) g (.int .i64 ((i+1:Nat):Int)) wr:=⟨i+1,rfl,by rw [List.length_map];omega,by rw [avO.out];exact CL,OD⟩
       have bq:=ae hrel;have Ep:decide (((4:Nat):Int)<4)=false:=rfl;clear CL OD hrel;go_wp2;go_roundw
       case rel=>exact bq.out
       case measure=>simp [intOf];omega
    ·obtain rfl:i=ys.length:=by omega
     have hres:aG w.heap.size wr (.slice (some ⟨g,0,none⟩) FN FN) (dn (ys.map Ev.e)):=by
      have e:((ys.map Ev.e).take ys.length).foldl (fun b e=>nK (8*fP (ys.map Ev.e)) b e.key.data.toList 4) (List.replicate (fP (ys.map Ev.e)) 0)=dn (ys.map Ev.e):=by
       rw [List.take_of_length_le (by rw [List.length_map];exact ay _)];rfl
      rw [e] at gR;have hl:=JW (ys.map Ev.e);rw [←Vc.out] at hl;have:=avK nM gR (by omega);rw [hl] at this;exact this
     have ct:=ae hres;have rZ:=ae eI;clear hres gR eI;go_wp2;go_ret;exact ⟨_,rfl,ct.out,rZ.out⟩
end Go.Proofs.YtoolkdapflaeeaaGreatDoor
namespace Go.Proofs.YtoolkdapflaeeaaGreatDoor
open Go.RowKit Go.Gl Go.aH Mn
variable {N:Nat→Prop} {w w8 wr wy:World} {tb ha:Nat} {ns HI:List Nd} {aM:Nat} {dv:Value} {ds:List Int} {x:Ev} {nw:Nd}
theorem Sep.Ve (F:Nat→Prop) (w:World) {lb:Nat} (h:F lb) (j:Nat) (v:Value):Sep F w (w.setCell ⟨lb,j,none⟩ v) F:=
 ⟨rfl,rfl,rfl,by simp,fun b _ hn=>aK _ _ _ _ (fun e=>hn (by have e':b=lb:=e;rw [e'];exact h)),fun b hb=> .inl hb⟩
theorem afn {x:En} {ns:List Nd} {n:Nd} (tb ha:Nat) (h:n∈bC tb ha::bR x ns):n∈bC tb ha::ns:=by
 rcases List.mem_cons.1 h with h1|h1
 ·exact h1 ▸ eQ ..
 ·exact gz _ (by rw [←iZ x ns];exact List.mem_append_left _ h1)
theorem cX.Vf (h:cX N w tb ha ns aM dv ds) {n:Nd} (hn:n∈bC tb ha::ns):FM tb ha ns n.arr∧n.arr<w.heap.size∧n.arr≠tb:=by
 obtain ⟨p1,p2,e3⟩:=List.append_of_mem hn;have h1:=h.skip.gZ.at e3;refine ⟨?_,af h1,fun e=> ?_⟩
 ·rcases List.mem_cons.1 hn with rfl|hn
  ·exact .inr (.inl rfl)
  ·exact .inr (.inr ⟨n,hn,.inr rfl⟩)
 ·rw [e,h.self] at h1
  exact absurd (cA (bB h1)).2.1 (by decide)
theorem avS (h:cX N w tb ha ns aM dv ds) (hN:∀ b,N b→b<w.heap.size∧¬ FM tb ha ns b) (hx:kG N w x) (eM:x.e.seq<18446744073709551616) (hg:Grow w w8) (lX:fk x.e ns=HI)
  (hput:jt x.e (ns.map (fun n=>n.x.e))=gp x.e (ns.map (fun n=>n.x.e))++x.e::HI.map (fun n=>n.x.e)) (fT:nw.x=x) (hh:1≤nw.h∧nw.h≤12) (qu:w.heap.size≤nw.blk) (bh:w.heap.size≤nw.arr)
  (eh:Ps w8 (bC tb ha::bR x.e ns) HI nw nw.h wr) (Fb:wr.heap[nw.blk]?=some (.cells (JP nw) 176 (0,0))) (iT:∀ n∈ns,wr.heap[n.blk]?=w.heap[n.blk]?) {dH:Nat} (avT:dH≤12)
  (dS:wy.heap[tb]?=some (.cells (Oo ha dH (ns.length+1) dv (costs (ns.map (fun n=>n.x.e)))) 181 (0,0))) (ku:Sep (fun b=>b=tb) wr wy (fun b=>b=tb)):
  oC N w tb ha ns dv x (bR x.e ns++nw::HI) dH wy∧(bR x.e ns++nw::HI).length=ns.length+1∧costs ((bR x.e ns++nw::HI).map (fun n=>n.x.e))=costs (ns.map (fun n=>n.x.e))+iE x.e:=by
 have nN:bR x.e ns++HI=ns:=by rw [←lX];exact iZ x.e ns
 have hmap:(bR x.e ns++nw::HI).map (fun n=>n.x.e)=jt x.e (ns.map (fun n=>n.x.e)):=by
  rw [hput,List.map_append,List.map_cons,UJ,fT]
 have hlen:(bR x.e ns++nw::HI).length=ns.length+1:=by
  rw [←nN];simp [List.length_append];rw [nN];omega
 have avU:∀ n∈ns,n.blk≠tb:=fun n hn e=>by
  have h1:=h.skip.node n hn;rw [e,h.self] at h1;exact absurd (cA (bB h1)).2.1 (by decide)
 have hall:∀ b,b<w.heap.size→b≠tb→(∀ n∈bC tb ha::bR x.e ns,b≠n.arr)→wy.heap[b]?=w.heap[b]?:=fun b hb h1 h2=>by
  have s1:=hg.size;have s2:=eh.sep.size;rw [ku.out b (by omega) h1,eh.sep.out b (by omega) (fun hf=> ?_),hg.block b hb];rcases hf with hf|⟨n,hn,hf⟩
  ·omega
  ·exact h2 n hn hf
 have CM:Sep (FM tb ha ns) w wy (FM tb ha (bR x.e ns++nw::HI)):=by
  have s0:=Sep.bF (F:=FM tb ha ns) hg;refine ⟨ku.os.trans (eh.sep.os.trans s0.os),ku.tape.trans (eh.sep.tape.trans s0.tape),ku.output.trans (eh.sep.output.trans s0.output),aN hg.size (aN eh.sep.size ku.size),fun b hb hn=> ?_,fun b hb=> ?_⟩
  ·refine hall b hb (fun e=>hn (.inl e)) (fun n rF e=>hn ?_)
   rw [e];exact (h.Vf (afn tb ha rF)).1
  ·rcases hb with rfl|rfl|⟨n,hn,hb⟩
   ·exact .inl (.inl rfl)
   ·exact .inl (.inr (.inl rfl))
   ·rcases List.mem_append.1 hn with h1|h1
    ·exact .inl (.inr (.inr ⟨n,by rw [←nN];exact List.mem_append_left _ h1,hb⟩))
    ·rcases List.mem_cons.1 h1 with rfl|h1
     ·right
      rcases hb with rfl|rfl
      ·exact qu
      ·exact bh
     ·exact .inl (.inr (.inr ⟨n,by rw [←nN];exact mg _ h1,hb⟩))
 have JY:Kp N w wy:=⟨CM.size,fun b hb hl=>CM.out b hl (hN b hb).2⟩
 have qI:=h.skip.Cz;rw [←nN,←List.cons_append,List.map_append] at qI;have avV:=List.nodup_append.1 qI;refine ⟨⟨hmap,by rw [hlen];exact dS,avT,?_,CM⟩,hlen,?_⟩
 ·refine jw.ins (w:=w) (by rw [nN];exact h.skip) ?_ ?_ ?_ (fun m hm=> ?_) (fun m hm=> ?_) qu bh JY ⟨by rw [fT];exact hx.kp JY,by rw [fT];exact eM⟩ hh (by rw [hmap];exact Uz h.skip.ord)
  ·rw [ku.out nw.blk (af Fb) (fun e=>by have:=af h.self;omega)]
   exact Fb
  ·refine (auS eh.gZ).keep (fun n hn=> ?_)
   have h1:=h.Vf (afn tb ha hn);have s1:=hg.size;have s2:=eh.sep.size;exact ku.out _ (by omega) h1.2.2
  ·rw [ku.out nw.arr (af eh.nt) (fun e=>by have:=af h.self;omega),eh.nt]
   congr 3;exact List.map_congr_left fun k hk=>by rw [if_pos (List.mem_range.1 hk)]
  ·rw [nN] at hm
   have h1:=af (h.skip.node m hm);have s1:=hg.size;have s2:=eh.sep.size;rw [ku.out m.blk (by omega) (avU m hm)];exact iT m hm
  ·have jB:m∈bC tb ha::ns:=gz _ (by rw [←nN];exact mg _ hm)
   have h1:=h.Vf jB;exact hall _ h1.2.1 h1.2.2 (fun n hn e=>avV.2.2 _ (List.mem_map.2 ⟨n,hn,rfl⟩) _ (List.mem_map.2 ⟨m,hm,rfl⟩) e.symm)
 ·have e1:costs (ns.map (fun n=>n.x.e))=costs ((bR x.e ns++HI).map (fun n=>n.x.e)):=by rw [nN]
  rw [e1];simp only [costs,List.map_append,List.map_cons,List.sum_append,List.sum_cons,fT];omega
theorem avW {n:Nd} {r:List Nd} (h:cX N w tb ha ns aM dv ds) (hN:∀ b,N b→b<w.heap.size∧¬ FM tb ha ns b) (hx:kG N w x) (eM:x.e.seq<18446744073709551616) (lX:fk x.e ns=n::r) (hc:fH n.x.e x.e=0)
  (Fb:wy.heap[n.blk]?=some (.cells (JP ⟨n.blk,n.arr,n.h,x⟩) 176 (0,0))) (ku:Sep (fun b=>b=n.blk) w wy (fun b=>b=n.blk)):
  oC N w tb ha ns dv x (bR x.e ns++⟨n.blk,n.arr,n.h,x⟩::r) aM wy∧(bR x.e ns++⟨n.blk,n.arr,n.h,x⟩::r).length=ns.length∧costs ((bR x.e ns++⟨n.blk,n.arr,n.h,x⟩::r).map (fun n=>n.x.e))+iE n.x.e=costs (ns.map (fun n=>n.x.e))+iE x.e:=by
 have nN:bR x.e ns++n::r=ns:=by rw [←lX];exact iZ x.e ns
 have cO:n∈ns:=by rw [←nN];simp
 have hlen:(bR x.e ns++(⟨n.blk,n.arr,n.h,x⟩:Nd)::r).length=ns.length:=by
  conv=>rhs;rw [←nN]
  simp
 have hF:FM tb ha ns n.blk:= .inr (.inr ⟨n,cO,.inl rfl⟩);have avX:∀ b,FM tb ha (bR x.e ns++(⟨n.blk,n.arr,n.h,x⟩:Nd)::r) b→FM tb ha ns b:=fun b hb=>by
  rcases hb with hb|hb|⟨k,hk,hb⟩
  ·exact .inl hb
  ·exact .inr (.inl hb)
  ·rcases List.mem_append.1 hk with h1|h1
   ·exact .inr (.inr ⟨k,by rw [←nN];exact List.mem_append_left _ h1,hb⟩)
   ·rcases List.mem_cons.1 h1 with rfl|h1
    ·exact .inr (.inr ⟨n,cO,hb⟩)
    ·exact .inr (.inr ⟨k,by rw [←nN];exact mg _ (gz _ h1),hb⟩)
 have CM:Sep (FM tb ha ns) w wy (FM tb ha (bR x.e ns++⟨n.blk,n.arr,n.h,x⟩::r)):=(ku.mono (fun b hb=>by rw [hb];exact hF)).tgt (fun b hb=> .inl (avX b hb));have JY:Kp N w wy:=⟨CM.size,fun b hb hl=>CM.out b hl (hN b hb).2⟩
 have hne:tb≠n.blk:=fun e=>by
  have h1:=h.skip.node n cO;rw [←e,h.self] at h1;exact absurd (cA (bB h1)).2.1 (by decide)
 refine ⟨⟨?_,?_,h.aM,?_,CM⟩,hlen,?_⟩
 ·unfold jt
  rw [←CA,lX,List.map_append,List.map_cons,UJ,List.map_cons];simp only;rw [if_pos hc]
 ·rw [hlen,ku.out tb (af h.self) hne]
  exact h.self
 ·have h2:jw N w tb ha (bR x.e ns++n::r):=by rw [nN];exact h.skip
  exact jw.rep (w:=w) h2 rfl rfl rfl Fb (fun b hb hl=>ku.out b hl hb) JY ⟨hx.kp JY,eM⟩ ((JE _ _).1 hc)
 ·have e1:costs (ns.map (fun n=>n.x.e))=costs ((bR x.e ns++n::r).map (fun n=>n.x.e)):=by rw [nN]
  rw [e1];simp only [costs,List.map_append,List.map_cons,List.sum_append,List.sum_cons];omega
def avY (N:Nat→Prop) (w:World) (tb ha:Nat) (ns:List Nd) (dv:Value) (x:Ev) (e:Ending) (w':World):Prop:=
 ∃ bE dH,oC N w tb ha ns dv x bE dH w'∧
  ((∃ y:Ev,(∃ va vc,y.v= .slice va y.e.val.length vc)∧e= .returned (.tuple #[.agg (bQ y),.bool true])∧bE.length=ns.length∧costs (bE.map (fun n=>n.x.e))+iE y.e=costs (ns.map (fun n=>n.x.e))+iE x.e)∨
   (e= .returned (.tuple #[.agg #[.string ⟨#[]⟩,.int .u64 0,.bool false,.slice none 0 0],.bool false])∧bE.length=ns.length+1∧costs (bE.map (fun n=>n.x.e))=costs (ns.map (fun n=>n.x.e))+iE x.e))
theorem avZ {x:En} {ns:List Nd} (h:fk x ns= []):jt x (ns.map (fun n=>n.x.e))=gp x (ns.map (fun n=>n.x.e))++x::([]:List Nd).map (fun n=>n.x.e):=by
 unfold jt;rw [←CA,h];rfl
theorem awa {x:En} {ns r:List Nd} {n:Nd} (h:fk x ns=n::r) (hc:fH n.x.e x≠0):jt x (ns.map (fun n=>n.x.e))=gp x (ns.map (fun n=>n.x.e))++x::(n::r).map (fun n=>n.x.e):=by
 unfold jt;rw [←CA,h,List.map_cons];simp only;rw [if_neg hc]
end Go.Proofs.YtoolkdapflaeeaaGreatDoor
namespace Go.Proofs.YtoolkdapflaeeaaGreatDoor
open Go.RowKit Go.Gl Go.aH Mn
theorem awb {N:Nat→Prop} {w:World} {tb ha:Nat} {ns:List Nd} {aM:Nat} {dv:Value} {ds:List Int} (h:cX N w tb ha ns aM dv ds) (hN:∀ b,N b→b<w.heap.size∧¬ FM tb ha ns b) (hlen:ns.length≤1000000000) (x:Ev) (hx:kG N w x) (eM:x.e.seq<18446744073709551616):
  Calls Tryz.prog 128 #[au tb,.agg (bQ x),.func (.func 129) #[au tb] #[]] w (avY N w tb ha ns dv x):=by
 obtain ⟨⟨xk,xs,xg,xd⟩,xv⟩:=x;obtain ⟨xa,xc,dm⟩:=hx.slice;simp only at dm;subst dm;obtain ⟨xl,ic⟩:∃ xl,xl=xd.length:=⟨_,rfl⟩
 rw [←ic] at hx ⊢;obtain ⟨w2,hw2⟩:∃ w2,(w.alloc (.cells (bQ ⟨⟨xk,xs,xg,xd⟩,.slice xa xl xc⟩) 60)).alloc (.cells #[.string ⟨#[]⟩,.int .u64 0,.bool false,.slice none 0 0] 60)=w2:=⟨_,rfl⟩
 have hg2:Grow w w2:=by rw [←hw2];exact (Grow.alloc _ _).trans (Grow.alloc _ _)
 have hb2:w2.heap[w.heap.size]?=some (.cells (bQ ⟨⟨xk,xs,xg,xd⟩,.slice xa xl xc⟩) 60 (0,0)):=by rw [←hw2];exact (heap_alloc_old _ _ (by simp)).trans (aw _ _)
 have hr2:w2.heap[w.heap.size+1]?=some (.cells #[.string ⟨#[]⟩,.int .u64 0,.bool false,.slice none 0 0] 60 (0,0)):=by
  rw [←hw2];have:=aw (w.alloc (.cells (bQ ⟨⟨xk,xs,xg,xd⟩,.slice xa xl xc⟩) 60)) (.cells #[.string ⟨#[]⟩,.int .u64 0,.bool false,.slice none 0 0] 60);simpa using this
 have CN:=aex (h.grow hg2) ⟨⟨xk,xs,xg,xd⟩,.slice xa xl xc⟩ (xa:=xa) (xl:=xl) (xc:=xc) rfl;obtain ⟨bf,jU,JZ⟩:=levels ⟨xk,xs,xg,xd⟩ ns tb ha;rw [JZ] at CN;obtain ⟨c0,c1,c2,c3⟩:=cK hb2;have l0:=af hb2;have OE:=ae CN;have H:=ae h;have H2:=ae (ah hg2 (ah hb2 hr2));have OG:=ae jU;have HX:=ae (ah hx (ah eM (ah hN hlen)));have Hxl:=ae ic;clear h hg2 hb2 hr2 CN JZ jU hx eM hN hlen ic;go_enter Tryz.func128,Tryz.ntmps128
 go_wp2_with fail
 (with_reducible refine OE.out.mono ?_);rintro e w3 ⟨rfl,hg3⟩;clear c0 c1 c2 c3 l0 OE hw2
 go_upto_region 2 with fail
 refine avo (fun W=>Pb w ⟨⟨xk,xs,xg,xd⟩,.slice xa xl xc⟩ bf w3.heap.size W) (avp bf H2.out.1 H2.out.2.1 H2.out.2.2 hg3) ?_;intro w5 zZ;generalize hg:w3.heap.size=g at*;have h5:=H.out.grow zZ.grow;obtain ⟨pre,m,eL,tC⟩:=last_zero (L:=bC tb ha::bR ⟨xk,xs,xg,xd⟩ ns) (by simp) (fun n hn=>by
  rcases List.mem_cons.1 hn with rfl|hn
  ·show 1≤12;omega
  ·exact (H.out.skip.hs n (by rw [←iZ ⟨xk,xs,xg,xd⟩ ns];exact List.mem_append_left _ hn)).1)
 have ue:m=bf 0:=by have:=OG.out 0 (by decide);rw [tC] at this;exact bB this
 have e2:bC tb ha::ns=pre++m::fk ⟨xk,xs,xg,xd⟩ ns:=by
  have h1:bC tb ha::ns=(bC tb ha::bR ⟨xk,xs,xg,xd⟩ ns)++fk ⟨xk,xs,xg,xd⟩ ns:=by rw [List.cons_append,iZ]
  rw [h1,eL];simp
 have cO:m∈bC tb ha::ns:=by rw [e2];simp
 have fY:0<m.h:=by
  rcases List.mem_cons.1 cO with rfl|hn
  ·show 0<12;omega
  ·exact (H.out.skip.hs m hn).1
 obtain ⟨t4,lm⟩:=h5.tail cO;obtain ⟨tl,la⟩:=h5.link e2 fY;obtain ⟨ca,lg⟩:w5.cell? ⟨g,0,none⟩=some (au m.blk)∧g<w5.heap.size:=by
  have:=zZ.arr;rw [ue];exact ⟨by simp [World.cell?,this],af this⟩
 have aFT:(0:Int)<(m.h:Int):=by omega
 have Aa:=ae zZ;have H5:=ae h5;clear zZ hg3 h5 eL tC ue e2 cO hg;obtain ⟨HI,lX⟩:∃ HI,fk ⟨xk,xs,xg,xd⟩ ns=HI:=⟨_,rfl⟩
 obtain ⟨pv,mY⟩:∃ pv,bV 0 HI=pv:=⟨_,rfl⟩
 rw [lX,mY] at tl
 go_upto_region 3 with fail
 have aQ:=Grow.cells (w:=w5)
 go_cut [36] from 22 to 36 (fun bv wx=>∃ bb:Bool,bv= .bool bb∧Pb w ⟨⟨xk,xs,xg,xd⟩,.slice xa xl xc⟩ bf g wx∧(bb=false→jt ⟨xk,xs,xg,xd⟩ (ns.map (fun n=>n.x.e))=gp ⟨xk,xs,xg,xd⟩ (ns.map (fun n=>n.x.e))++⟨xk,xs,xg,xd⟩::HI.map (fun n=>n.x.e))∧(bb=true→∃ n hr,HI=n::hr∧fH n.x.e ⟨xk,xs,xg,xd⟩=0))
 case first=>
  cases HI with
  |nil=>
   obtain rfl:pv= .pointer none:=by rw [←mY];rfl
   refine bX (fun V=>Below w5.heap.size w5 V) [(0,false),(1,false),(2,false),(3,false),(4,false),(5,false),(6,false),(7,false),(8,false),(9,false),(10,false),(11,false),(12,true),(13,false),(14,false)] (by kernel_rfl) (by kernel_rfl) (fun c a d v w h=>by cases d<;>exact h) (by (repeat (first|exact Below.refl _ _|assumption|refine Below.drew ?_|refine cp ?_|refine Below.setCell ?_ (by first|omega|(simp<;>omega)) _|refine Below.alloc ?_ (by first|omega|(simp<;>omega)) _))) ?_;simp only [aP,nth]
   repeat (first|(refine aB (v:= ?_) (by rfl) ?_ ?_;rotate_left;(rintro W hW;go_simp;with_reducible rfl);simp only [ag,List.set])|(refine aC (by rfl) ?_;simp only [ag,List.set]))
   refine Rz (by rfl) (by (repeat (first|exact Below.refl _ _|assumption|refine Below.drew ?_|refine cp ?_|refine Below.setCell ?_ (by first|omega|(simp<;>omega)) _|refine Below.alloc ?_ (by first|omega|(simp<;>omega)) _))) ?_
   try first|simp only [ag,List.set]|simp only [aD]
   repeat (first|(refine aB (v:= ?_) (by rfl) ?_ ?_;rotate_left;(rintro W hW;go_simp;with_reducible rfl);simp only [ag,List.set])|(refine aC (by rfl) ?_;simp only [ag,List.set]))
   refine bm ?_
   go_wp2_with fail
   go_meet;exact ⟨false,rfl,Aa.out.step (Grow.drew w5),fun _=>avZ lX,fun h=>by cases h⟩
  |cons n hr=>
   have iU:n∈ns:=by rw [←iZ ⟨xk,xs,xg,xd⟩ ns,lX];simp
   obtain rfl:pv=au n.blk:=by rw [←mY,bV,if_pos (show 0<n.h from (H.out.skip.hs n iU).1)]
   obtain ⟨d0,d1,d2,d3⟩:=H5.out.az iU;obtain ⟨va,vc,hv⟩:=(H5.out.skip.vals n iU).1.slice;have ln:=af (H5.out.skip.node n iU);rw [hv] at d3;obtain ⟨t5,lt⟩:w5.cell? ⟨tb,5,none⟩=some (.func (.func 93) #[] #[])∧tb<w5.heap.size:=⟨by have:=H5.out.self;simp [World.cell?,this],af H5.out.self⟩
   obtain ⟨b0,b1,b2,b3⟩:=cK Aa.out.box;have lb:=af Aa.out.box;have Hv:=ae hv;have zU:cJ (jF n.x.e.key xk) (ij xs n.x.e.seq)=fH n.x.e ⟨xk,xs,xg,xd⟩:=rfl;have fD:=aeu n.x.e.key n.x.e.seq n.x.e.gone (.slice va n.x.e.val.length vc) xk xs xg (.slice xa xl xc);rw [zU] at fD;have jP:=ae fD;clear zU fD hv;obtain ⟨c,Ot⟩:∃ c,fH n.x.e ⟨xk,xs,xg,xd⟩=c:=⟨_,rfl⟩
   rw [Ot] at jP;have HcE:=ae Ot;clear Ot;obtain ⟨bb,cZ⟩:∃ bb,(c==0)=bb:=⟨_,rfl⟩
   refine bX (fun V=>Below w5.heap.size w5 V) [(0,false),(1,false),(2,false),(3,false),(4,false),(5,false),(6,false),(7,false),(8,false),(9,false),(10,false),(11,false),(12,true),(13,false),(14,false)] (by kernel_rfl) (by kernel_rfl) (fun c a d v w h=>by cases d<;>exact h) (by (repeat (first|exact Below.refl _ _|assumption|refine Below.drew ?_|refine cp ?_|refine Below.setCell ?_ (by first|omega|(simp<;>omega)) _|refine Below.alloc ?_ (by first|omega|(simp<;>omega)) _))) ?_;simp only [aP,nth]
   repeat (first|(refine aB (v:= ?_) (by rfl) ?_ ?_;rotate_left;(rintro W hW;go_simp;with_reducible rfl);simp only [ag,List.set])|(refine aC (by rfl) ?_;simp only [ag,List.set]))
   refine bj (by rfl) (by go_simp) (jP.out w5.drew) ?_;rintro e' w6 ⟨rfl,cM⟩;refine ⟨_,rfl,(Grow.drew w5).trans cM,?_⟩
   try first|simp only [ag,List.set]|simp only [aD]
   repeat (first|(refine aB (v:= ?_) (by rfl) ?_ ?_;rotate_left;(rintro W hW;go_simp;with_reducible rfl);simp only [ag,List.set])|(refine aC (by rfl) ?_;simp only [ag,List.set]))
   refine bm ?_;have mJ:=(Aa.out.step (Grow.drew w5)).step cM
   go_wp2_with fail
   go_meet;exact ⟨bb,rfl,mJ,fun h=>awa lX (by rw [HcE.out];simpa [h] using cZ),fun h=>⟨n,hr,rfl,by rw [HcE.out];simpa [h] using cZ⟩⟩
 case rest=>
 obtain ⟨bb,rfl,mJ,jU,dR⟩:=hcut;generalize wc=w6 at*;clear aQ t4 lm tl la ca lg;cases bb with
 |false=>
  have hput:=jU rfl;clear jU dR;have h6:=H.out.grow mJ.grow;obtain ⟨b0,b1,b2,b3⟩:=cK mJ.box;have lb:=af mJ.box
  go_upto_region 6 with fail
  have aQ:=Grow.cells (w:=w6);refine bX (fun V=>Below w6.heap.size w6 V) [(0,false),(1,false),(2,true),(3,true),(4,false),(5,true),(6,false)] (by kernel_rfl) (by kernel_rfl) (fun c a d v w h=>by cases d<;>exact h) (by (repeat (first|exact Below.refl _ _|assumption|refine Below.drew ?_|refine cp ?_|refine Below.setCell ?_ (by first|omega|(simp<;>omega)) _|refine Below.alloc ?_ (by first|omega|(simp<;>omega)) _))) ?_;simp only [aP,nth]
  repeat (first|(refine aB (v:= ?_) (by rfl) ?_ ?_;rotate_left;(rintro W hW;go_simp;with_reducible rfl);simp only [ag,List.set])|(refine aC (by rfl) ?_;simp only [ag,List.set]))
  refine bj (by rfl) (by go_simp) (avn (h6.grow (Grow.drew w6))) ?_;rintro e' w7 ⟨⟨k,kR,hk2,rfl⟩,cF⟩;have pJ:=(Grow.drew w6).trans cF;refine ⟨_,rfl,pJ,?_⟩
  try first|simp only [ag,List.set]|simp only [aD]
  have ai:=Grow.alloc w7 (.cells ((List.range k).map (fun _=>(.pointer none:Value))).toArray 287);refine ry (by rfl) (v:= .slice (some ⟨w7.heap.size,0,none⟩) k k) (w':=w7.alloc (.cells ((List.range k).map (fun _=>(.pointer none:Value))).toArray 287)) (by unfold execOp;simp only [Act.eval];simp [aeH hk2]) (pJ.trans ai) ?_
  try first|simp only [ag,List.set]|simp only [aD]
  repeat (first|(refine aB (v:= ?_) (by rfl) ?_ ?_;rotate_left;(rintro W hW;go_simp;with_reducible rfl);simp only [ag,List.set])|(refine aC (by rfl) ?_;simp only [ag,List.set]))
  have hgb:=Grow.alloc (w7.alloc (.cells ((List.range k).map (fun _=>(.pointer none:Value))).toArray 287)) (.cells #[.string xk,.int .u64 xs,.bool xg,.slice xa xl xc,.slice (some ⟨w7.heap.size,0,none⟩) k k] 176);refine fQ (by rfl) (fun K hK=> ?_);go_simp;refine hK _ _ ⟨(pJ.trans ai).trans hgb,?_⟩;clear hK K
  try first|simp only [ag,List.set]|simp only [aD]
  repeat (first|(refine aB (v:= ?_) (by rfl) ?_ ?_;rotate_left;(rintro W hW;go_simp;with_reducible rfl);simp only [ag,List.set])|(refine aC (by rfl) ?_;simp only [ag,List.set]))
  refine bm ?_;have jL:=aw (w7.alloc (.cells ((List.range k).map (fun _=>(.pointer none:Value))).toArray 287)) (.cells #[.string xk,.int .u64 xs,.bool xg,.slice xa xl xc,.slice (some ⟨w7.heap.size,0,none⟩) k k] 176);rw [World.size_alloc] at jL;have Ab:=hgb.heap (aw w7 (.cells ((List.range k).map (fun _=>(.pointer none:Value))).toArray 287));have Vg:=(mJ.step pJ).step (ai.trans hgb);have h8:=H.out.grow Vg.grow;have s7:=mJ.grow.size;have s67:=pJ.size;generalize (w7.alloc (.cells ((List.range k).map (fun _=>(.pointer none:Value))).toArray 287)).alloc (.cells #[.string xk,.int .u64 xs,.bool xg,.slice xa xl xc,.slice (some ⟨w7.heap.size,0,none⟩) k k] 176)=w8 at*;obtain ⟨na,vH⟩:∃ na,na=w7.heap.size:=⟨_,rfl⟩
  rw [←vH] at jL Ab ⊢;have awd:w.heap.size≤na:=by omega
  clear aQ ai hgb pJ cF b0 b1 b2 b3 lb h6 mJ s7 s67 vH;have eh:Ps w8 (bC tb ha::bR ⟨xk,xs,xg,xd⟩ ns) HI ⟨na+1,na,k,⟨⟨xk,xs,xg,xd⟩,.slice xa xl xc⟩⟩ 0 w8:=by
   refine ⟨auR (dW.split (lo:=bC tb ha::bR ⟨xk,xs,xg,xd⟩ ns) (hi:=HI) (by have:=h8.skip.gZ;rwa [←iZ ⟨xk,xs,xg,xd⟩ ns,lX] at this)).1,?_,Sep.refl _ _⟩;show w8.heap[na]?=_;rw [Ab];simp
  have CB:((bC tb ha::bR ⟨xk,xs,xg,xd⟩ ns).map Nd.arr).Nodup:=by
   have h1:=H.out.skip.Cz;rw [←iZ ⟨xk,xs,xg,xd⟩ ns,←List.cons_append,List.map_append] at h1;exact (List.nodup_append.1 h1).1
  have afp:∀ n∈bC tb ha::bR ⟨xk,xs,xg,xd⟩ ns,n.arr≠na:=fun n hn e=>by
   have h1:n∈bC tb ha::ns:=by
    rcases List.mem_cons.1 hn with rfl|hn
    ·exact eQ ..
    ·exact gz _ (by rw [←iZ ⟨xk,xs,xg,xd⟩ ns];exact List.mem_append_left _ hn)
   obtain ⟨p1,p2,e3⟩:=List.append_of_mem h1;have:=af (H.out.skip.gZ.at e3);omega
  have bI:=ae (ah Vg (ah h8 (ah jL (ah CB afp))));have xi:=ae eh;obtain ⟨n4,ln⟩:w8.cell? ⟨na+1,4,none⟩=some (.slice (some ⟨na,0,none⟩) k k)∧na+1<w8.heap.size:=⟨by simp [World.cell?,jL],af jL⟩
  clear Vg h8 jL Ab CB afp eh
  go_wp2_with fail
  go_loopw [57] (fun kv wr=>∃ K:Nat,kv= .int .i64 (K:Int)∧K≤k∧Ps w8 (bC tb ha::bR ⟨xk,xs,xg,xd⟩ ns) HI ⟨na+1,na,k,⟨⟨xk,xs,xg,xd⟩,.slice xa xl xc⟩⟩ K wr) (fun kv _=>k-(intOf kv).toNat)
  case atStart=>exact ⟨0,rfl,bk _,xi.out⟩
  case round=>
  obtain ⟨K,rfl,hKk,hP⟩:=hrel;have Ac:∀ (b:Nat) (arr:Array Value) (ty:TypeId) (fz:Nat×Nat),w8.heap[b]?=some (.cells arr ty fz)→ty≠287→wr.heap[b]?=some (.cells arr ty fz):=fun b arr ty fz hb sA=>by
   rw [hP.sep.out b (af hb) (fun hf=> ?_)]
   ·exact hb
   ·have hLt:∀ n∈bC tb ha::bR ⟨xk,xs,xg,xd⟩ ns,n.arr≠b:=fun n hn e=>by
     have h1:n∈bC tb ha::ns:=by
      rcases List.mem_cons.1 hn with rfl|hn
      ·exact eQ ..
      ·exact gz _ (by rw [←iZ ⟨xk,xs,xg,xd⟩ ns];exact List.mem_append_left _ hn)
     obtain ⟨p1,p2,e3⟩:=List.append_of_mem h1;have h2:=bI.out.2.1.skip.gZ.at e3;rw [e,hb] at h2;exact sA (cA (bB h2)).2.1
    rcases hf with hf|⟨n,hn,hf⟩
    ·have h2:=xi.out.nt
     rw [←show b=na from hf,hb] at h2;exact sA (cA (bB h2)).2.1
    ·exact hLt n hn hf.symm
  have Ka:=Ac _ _ _ _ bI.out.2.2.1 (by decide);obtain ⟨n4',ln'⟩:wr.cell? ⟨na+1,4,none⟩=some (.slice (some ⟨na,0,none⟩) k k)∧na+1<wr.heap.size:=⟨by simp [World.cell?,Ka],af Ka⟩
  by_cases hlt:K<k
  ·have afq:K<12:=by omega
   have Vh:=OG.out K afq;obtain ⟨OH,hmh⟩:=Og Vh;have afr:bf K∈bC tb ha::ns:=by
    rcases List.mem_cons.1 OH with h1|h1
    ·rw [h1];exact eQ ..
    ·exact gz _ (by rw [←iZ ⟨xk,xs,xg,xd⟩ ns];exact List.mem_append_left _ h1)
   obtain ⟨hc1,hc2,tu⟩:=hP.step (show K<k from hlt) bI.out.2.2.2.1 bI.out.2.2.2.2 Vh;obtain ⟨q,hq⟩:=aeG K HI;rw [hq] at hc1 tu;have Fo:=Ac _ _ _ _ bI.out.1.arr (by decide);obtain ⟨ga,gl⟩:wr.cell? ⟨g,K,none⟩=some (au (bf K).blk)∧g<wr.heap.size:=by
    have e12:(#[au (bf 0).blk,au (bf 1).blk,au (bf 2).blk,au (bf 3).blk,au (bf 4).blk,au (bf 5).blk,au (bf 6).blk,au (bf 7).blk,au (bf 8).blk,au (bf 9).blk,au (bf 10).blk,au (bf 11).blk]:Array Value)=((List.range 12).map (fun i=>au (bf i).blk)).toArray:=rfl;rw [e12] at Fo;exact ⟨Oh Fo afq,af Fo⟩
   obtain ⟨m4,lm4⟩:wr.cell? ⟨(bf K).blk,4,none⟩=some (.slice (some ⟨(bf K).arr,0,none⟩) (bf K).h (bf K).h)∧(bf K).blk<wr.heap.size:=by
    have hb:∃ arr ty,w8.heap[(bf K).blk]?=some (.cells arr ty (0,0))∧ty≠287∧arr[4]?=some (.slice (some ⟨(bf K).arr,0,none⟩) (bf K).h (bf K).h):=by
     rcases List.mem_cons.1 afr with h1|h1
     ·rw [h1];exact ⟨_,_,bI.out.2.1.self,by decide,rfl⟩
     ·exact ⟨_,_,bI.out.2.1.skip.node _ h1,by decide,rfl⟩
    obtain ⟨arr,ty,h1,h2,h3⟩:=hb;have h4:=Ac _ _ _ _ h1 h2;exact ⟨by simp only [World.cell?,h4];exact h3,af h4⟩
   have fr1:wr.frozen? ⟨na,K,none⟩=false:=by have:=hP.nt;simp only at this;simp [World.frozen?,this]
   have lna:=af hP.nt;obtain ⟨fr2,lmA⟩:wr.frozen? ⟨(bf K).arr,K,none⟩=false∧(bf K).arr<wr.heap.size:=by
    obtain ⟨p1,p2,e3⟩:=List.append_of_mem OH;have h1:=hP.gZ.at e3;exact ⟨by simp [World.frozen?,h1],af h1⟩
   have afs:(bf K).arr≠na:=bI.out.2.2.2.2 _ OH;have awo:na≠(bf K).arr:=fun e=>afs e.symm
   have k0:(0:Int)≤(K:Int):=by omega
   have k1:(K:Int)<(k:Int):=by omega
   have k2:(K:Int)<((bf K).h:Int):=by omega
   have k3:(K:Int)<12:=by omega
   have eE:IntKind.i64.wrap ((K:Int)+1)=((K+1:Nat):Int):=by rw [aR _ (by omega)];omega
   have GZ:=ae tu;have OI:wr.cell? ⟨na,K,none⟩=some (.pointer none):=hc2;have aFV:=OG;generalize (bf K).arr=mA at*;generalize (bf K).h=mH at*;generalize (bf K).blk=mB at*;clear Ac Ka OH afr tu Fo hc2 Vh hP hq hmh
   go_upto_region 10 with fail
   go_region;have jo:=GZ.out.drew;generalize ((wr.setCell ⟨na,K,none⟩ (.pointer q)).setCell ⟨mA,K,none⟩ (au (na+1))).drew=wq at*;have Hnd:=ae jo;clear jo GZ n4' ln' ga gl m4 lm4 fr1 lna fr2 lmA afs awo k0 k2 k3 hc1 OI
   go_wp2_with fail
   go_roundw
   case rel=>exact ⟨K+1,rfl,hlt,Hnd.out⟩
   case measure=>simp [intOf];omega
  ·obtain rfl:K=k:=by omega
   have htw:=hP.gZ;have Ff:=hP.nt;have dS:=Ac _ _ _ _ bI.out.2.1.self (by decide);have hres:=Ac _ _ _ _ bI.out.1.res (by decide);have aft:∀ n∈ns,wr.heap[n.blk]?=w.heap[n.blk]?:=fun n hn=>(Ac _ _ _ _ (bI.out.2.1.skip.node n hn) (by decide)).trans (H.out.skip.node n hn).symm
   obtain ⟨c6,lt⟩:wr.cell? ⟨tb,6,none⟩=some (.int .i64 (aM:Int))∧tb<wr.heap.size:=⟨by simp [World.cell?,dS],af dS⟩
   have ft:∀ i,wr.frozen? ⟨tb,i,none⟩=false:=fun i=>by simp [World.frozen?,dS]
   obtain ⟨hm,hmx,afu⟩:∃ hm:Nat,max (aM:Int) (K:Int)=(hm:Int)∧hm≤12:=⟨max aM K,by omega,Nat.max_le.2 ⟨H.out.aM,hk2⟩⟩
   have ft6:=ft 6;have Hw:=ae (ah hP (ah Ka (ah dS (ah hres aft))));have z0:=Go.Gl.aI dS 6 (.int .i64 (hm:Int));simp only [Oo,List.setIfInBounds_toArray,List.set_cons_zero,List.set_cons_succ] at z0;have zs:=(Sep.Ve (fun b=>b=tb) wr (lb:=tb) rfl 6 (.int .i64 (hm:Int))).trans (Sep.bF (Grow.drew _));have zr:(wr.setCell ⟨tb,6,none⟩ (.int .i64 (hm:Int))).drew.heap[w.heap.size+1]?=some (.cells #[.string ⟨#[]⟩,.int .u64 0,.bool false,.slice none 0 0] 60 (0,0)):=(aK _ _ _ _ (fun e=>by have e':w.heap.size+1=tb:=e;have:=af H.out.self;omega)).trans hres;replace z0:(wr.setCell ⟨tb,6,none⟩ (.int .i64 (hm:Int))).drew.heap[tb]?=_:=z0;have Hz:=ae (ah z0 (ah zs zr));clear ft Ac hP htw Ff dS Ka hres aft z0 zs zr
   go_upto_region 12 with fail
   go_region;have z0:=Hz.out.1;have zs:=Hz.out.2.1;have zr:=Hz.out.2.2;clear Hz c6 ft6;generalize (wr.setCell ⟨tb,6,none⟩ (.int .i64 (hm:Int))).drew=wz at*;have hwc:IntKind.i64.wrap ((ns.length:Int)+1)=((ns.length+1:Nat):Int):=by have:=HX.out.2.2.2;rw [aR _ (by omega)];omega
   obtain ⟨c7,ltz⟩:wz.cell? ⟨tb,7,none⟩=some (.int .i64 (ns.length:Int))∧tb<wz.heap.size:=⟨by simp [World.cell?,z0],af z0⟩
   have f7:wz.frozen? ⟨tb,7,none⟩=false:=by simp [World.frozen?,z0]
   have y0:=Go.Gl.aI z0 7 (.int .i64 ((ns.length+1:Nat):Int));simp only [List.setIfInBounds_toArray,List.set_cons_zero,List.set_cons_succ] at y0;have ys:=zs.trans (Sep.Ve (fun b=>b=tb) wz (lb:=tb) rfl 7 (.int .i64 ((ns.length+1:Nat):Int)));have yr:(wz.setCell ⟨tb,7,none⟩ (.int .i64 ((ns.length+1:Nat):Int))).heap[w.heap.size+1]?=some (.cells #[.string ⟨#[]⟩,.int .u64 0,.bool false,.slice none 0 0] 60 (0,0)):=(aK _ _ _ _ (fun e=>by have e':w.heap.size+1=tb:=e;have:=af H.out.self;omega)).trans zr;obtain ⟨OJ,vI⟩:∃ l,l=ns.length+1:=⟨_,rfl⟩
   rw [←vI] at hwc y0 ys yr;have awt:=ae vI;clear vI;have Hy:=ae (ah y0 (ah ys yr));clear z0 zs zr y0 ys yr
   go_upto_region 14 with fail
   have y0:=Hy.out.1;have ys:=Hy.out.2.1;have yr:=Hy.out.2.2;clear Hy c7 f7 ltz hwc;generalize wz.setCell ⟨tb,7,none⟩ (.int .i64 (OJ:Int))=wy at*;rw [awt.out] at y0;have cS:=ae (avS (nw:=⟨na+1,na,K,⟨⟨xk,xs,xg,xd⟩,.slice xa xl xc⟩⟩) (x:=⟨⟨xk,xs,xg,xd⟩,.slice xa xl xc⟩) H.out HX.out.2.2.1 HX.out.1 HX.out.2.1 bI.out.1.grow lX hput rfl ⟨kR,hk2⟩ (by show w.heap.size≤na+1;omega) awd Hw.out.1 Hw.out.2.1 Hw.out.2.2.2.2 afu y0 ys);obtain ⟨r0,r1,r2,r3⟩:=cK yr;have lr:=af yr;have fr:∀ i,wy.frozen? ⟨w.heap.size+1,i,none⟩=false:=fun i=>by simp [World.frozen?,yr]
   have s0:=dN (v:= .string ⟨#[]⟩) (i:=0) yr rfl;have s1:=dN (v:= .int .u64 0) (i:=1) yr rfl;have s2:=dN (v:= .bool false) (i:=2) yr rfl;have s3:=dN (v:= .slice none 0 0) (i:=3) yr rfl;clear yr y0 ys bI xi Hw Aa H5;go_wp2;exact bodyPost_ret (v:= .tuple #[.agg #[.string ⟨#[]⟩,.int .u64 0,.bool false,.slice none 0 0],.bool false]) (by simp [results,Tryz.results128,go_sem,r0,r1,r2,r3]) rfl ⟨_,_,cS.out.1,.inr ⟨rfl,cS.out.2.1,cS.out.2.2⟩⟩
 |true=>
  obtain ⟨n,hr,rfl,hcz⟩:=dR rfl;clear jU dR;have iU:n∈ns:=by rw [←iZ ⟨xk,xs,xg,xd⟩ ns,lX];simp
  obtain ⟨va,vc,hv⟩:=(H5.out.skip.vals n iU).1.slice;have Hv:=ae hv;clear hv;obtain rfl:pv=au n.blk:=by rw [←mY,bV,if_pos (show 0<n.h from (H.out.skip.hs n iU).1)]
  have h6:=H.out.grow mJ.grow;obtain ⟨b0,b1,b2,b3⟩:=cK mJ.box;have lb:=af mJ.box;obtain ⟨d0,d1,d2,d3⟩:=h6.az iU;have jo:=h6.skip.node n iU;have ln:=af jo;rw [Hv.out] at d3;have fn:∀ i,w6.frozen? ⟨n.blk,i,none⟩=false:=fun i=>by simp [World.frozen?,jo]
  obtain ⟨r0,r1,r2,r3⟩:=cK mJ.res;have lr:=af mJ.res;have hres:=mJ.res;have fr:∀ i,w6.frozen? ⟨w.heap.size+1,i,none⟩=false:=fun i=>by simp [World.frozen?,hres]
  have lnw:=af (H.out.skip.node n iU);have hne:n.blk≠w.heap.size+1:=by omega
  have NR:w.heap.size+1≠n.blk:=by omega
  have q0:=zV (v0:= .string n.x.e.key) (v1:= .int .u64 n.x.e.seq) (v2:= .bool n.x.e.gone) (v3:= .slice va n.x.e.val.length vc) mJ.res;have q1:=(qR (w:=w6) hne (.string n.x.e.key) (.int .u64 n.x.e.seq) (.bool n.x.e.gone) (.slice va n.x.e.val.length vc)).trans jo;have q2:=avq (v0:= .string xk) (v1:= .int .u64 xs) (v2:= .bool xg) (v3:= .slice xa xl xc) q1;have q3:=(qR NR (.string xk) (.int .u64 xs) (.bool xg) (.slice xa xl xc)).trans q0;have qs:Sep (fun b=>b=n.blk) w (iG (iG w6 (w.heap.size+1) (.string n.x.e.key) (.int .u64 n.x.e.seq) (.bool n.x.e.gone) (.slice va n.x.e.val.length vc)) n.blk (.string xk) (.int .u64 xs) (.bool xg) (.slice xa xl xc)).drew (fun b=>b=n.blk):=by
   have s1:Sep (fun b=>b=n.blk) w w6 (fun b=>b=n.blk):=Sep.bF mJ.grow;have s2:=s1.aeF (b:=w.heap.size+1) (by omega) (.string n.x.e.key) (.int .u64 n.x.e.seq) (.bool n.x.e.gone) (.slice va n.x.e.val.length vc);exact (s2.avs (b:=n.blk) rfl (.string xk) (.int .u64 xs) (.bool xg) (.slice xa xl xc)).drew
  have Hq:=ae (ah (heap_drew q2) (ah (heap_drew q3) qs));clear jo hres q0 q1 q2 q3 qs h6
  go_upto_region 4 with fail
  go_region;have q2:=Hq.out.1;have q3:=Hq.out.2.1;have qs:=Hq.out.2.2;clear Hq b0 b1 b2 b3 lb d0 d1 d2 d3 ln fn r0 r1 r2 r3 lr fr hne NR;generalize (iG (iG w6 (w.heap.size+1) (.string n.x.e.key) (.int .u64 n.x.e.seq) (.bool n.x.e.gone) (.slice va n.x.e.val.length vc)) n.blk (.string xk) (.int .u64 xs) (.bool xg) (.slice xa xl xc)).drew=wy at*;have cS:=ae (avW (x:=⟨⟨xk,xs,xg,xd⟩,.slice xa xl xc⟩) H.out HX.out.2.2.1 HX.out.1 HX.out.2.1 lX hcz q2 qs);obtain ⟨r0,r1,r2,r3⟩:=cK q3;have lr:=af q3;have fr:∀ i,wy.frozen? ⟨w.heap.size+1,i,none⟩=false:=fun i=>by simp [World.frozen?,q3]
  have s0:=dN (v:= .string n.x.e.key) (i:=0) q3 rfl;have s1:=dN (v:= .int .u64 n.x.e.seq) (i:=1) q3 rfl;have s2:=dN (v:= .bool n.x.e.gone) (i:=2) q3 rfl;have s3:=dN (v:= .slice va n.x.e.val.length vc) (i:=3) q3 rfl;clear q2 q3 qs hcz Aa H5 mJ;go_wp2;exact bodyPost_ret (v:= .tuple #[.agg #[.string n.x.e.key,.int .u64 n.x.e.seq,.bool n.x.e.gone,.slice va n.x.e.val.length vc],.bool true]) (by simp [results,Tryz.results128,go_sem,r0,r1,r2,r3]) rfl ⟨_,_,cS.out.1,.inl ⟨⟨n.x.e,.slice va n.x.e.val.length vc⟩,⟨va,vc,rfl⟩,rfl,cS.out.2.1,cS.out.2.2⟩⟩
end Go.Proofs.YtoolkdapflaeeaaGreatDoor
namespace Go.Gl
open Go Go.RowKit
section awu
variable {P:Program} {Q:Exit→Act→World→Prop} {S:World→Prop}
def Kb (P:Program) (l:List Oper) (S:World→Prop) (πa πb:List (Nat×Bool)) (Q:Exit→Act→World→Prop):Exit→Act→World→Prop
 | .normal,a,w=>cU P l.toArray Q S (aP l πa) a w∧cU P l.toArray Q S (aP l πb) a w
 |e,a,w=>Q e a w
def CO (ops:Array Oper) (i j:Nat) (ra rb:List (Nat×Bool)):List (Nat×Bool)→Array Bool→Bool
 | [],seen=>decide (Region.ready .any ops seen= [i,j])&&nY ops ra (seen.setIfInBounds i true)&&nY ops rb (seen.setIfInBounds j true)
 |(k,false)::π,seen=>(Region.ready .any ops seen).contains k&&Region.free .any ops seen k&&CO ops i j ra rb π (seen.setIfInBounds k true)
 |(k,true)::π,seen=>decide (Region.ready .any ops seen= [k])&&CO ops i j ra rb π (seen.setIfInBounds k true)
theorem awv {l:List Oper} {πa πb:List (Nat×Bool)} {p:Oper} {a:Act} {w:World} {K:Act→World→Prop} (h:p.wp P a w K (Kb P l S πa πb Q)):p.wp P a w K Q:=by
 unfold Oper.wp at*;generalize (execOp a.eval p).run P w=r at*;cases r with
 |ok n v=>cases n<;>first|exact h|exact Calls.mono h (fun e u he=>by cases e<;>exact he)
 |halt x v=>cases x<;>exact h
theorem afw {l:List Oper} {k:Nat} {r:List (Nat×Bool)} (hs:Region.noSelect l.toArray=true) (hQ:∀ c a d v w,Q (.panic c) (Act.put a d v) w→Q (.panic c) a w) {seen:Array Bool} {a:Act} {w:World} (hk:k<l.toArray.size)
  (hc:nY l.toArray r (seen.setIfInBounds k true)=true) (h:cU P l.toArray Q S (aP l ((k,true)::r)) a w):
  wpOp P l.toArray Q k (fun b v=>S v∧wpAnyH P .any l.toArray Q S r.length (seen.setIfInBounds k true) b v) a w:=by
 have hi:l.toArray[k]?=some (nth l k):=by simpa using sU (l:=l) (by simpa using hk)
 simp only [aP] at h;unfold cU at h;unfold wpOp;simp only [hi];split
 ·rename_i hw
  rw [if_pos hw] at h;exact .inl (Oper.wp_mono (fun b v hb=>⟨hb.1,DW hs hQ r _ _ _ hc hb.1 hb.2⟩) h)
 ·rename_i hw
  rw [if_neg hw] at h;exact ⟨h.1,DW hs hQ r _ _ _ hc h.1 h.2⟩
theorem OL {l:List Oper} {i j:Nat} {ra rb:List (Nat×Bool)} (hlen:ra.length=rb.length) (hs:Region.noSelect l.toArray=true) (hQ:∀ c a d v w,Q (.panic c) (Act.put a d v) w→Q (.panic c) a w):
  ∀ (π:List (Nat×Bool)) (seen:Array Bool) (a:Act) (w:World),CO l.toArray i j ra rb π seen=true→S w→cU P l.toArray (Kb P l S ((i,true)::ra) ((j,true)::rb) Q) S (aP l π) a w→
   wpAnyH P .any l.toArray Q S (π.length+(ra.length+1)) seen a w
 | [],seen,a,w,hc,_,h=>by
  simp only [CO,Bool.and_eq_true,decide_eq_true_eq] at hc;have h':cU P l.toArray Q S (aP l ((i,true)::ra)) a w∧cU P l.toArray Q S (aP l ((j,true)::rb)) a w:=by unfold cU at h;exact h
  have hi:=sV (ops:=l.toArray) (listed:=seen) (i:=i) (by rw [hc.1.1];simp);have hj:=sV (ops:=l.toArray) (listed:=seen) (i:=j) (by rw [hc.1.1];simp);rw [List.length_nil,Nat.zero_add];refine wpAnyH_all hc.1.1 (by simp) fun k hk=> ?_
  simp only [List.mem_cons,List.not_mem_nil,or_false] at hk;rcases hk with hk|hk
  ·subst hk
   exact afw hs hQ hi hc.1.2 h'.1
  ·subst hk
   rw [hlen];exact afw hs hQ hj hc.2 h'.2
 |(k,false)::π,seen,a,w,hc,hS,h=>by
  simp only [CO,Bool.and_eq_true] at hc;have h':∃ v,YieldsIf P l.toArray S (nth l k) v a∧cU P l.toArray (Kb P l S ((i,true)::ra) ((j,true)::rb) Q) S (aP l π) (a.put (nth l k).dst v) w:=by
   simp only [aP] at h;unfold cU at h;exact h
  obtain ⟨v,hy,hr⟩:=h';have hk:=sV (by simpa using hc.1.1);rw [List.length_cons,Nat.add_right_comm];exact wpAnyH_take (by simpa using sU (l:=l) (by simpa using hk)) hs hc.1.2 hc.1.1 (fun c a w=>hQ c a _ _ w) hy hS (OL hlen hs hQ π _ _ _ hc.2 hS hr)
 |(k,true)::π,seen,a,w,hc,hS,h=>by
  simp only [CO,Bool.and_eq_true,decide_eq_true_eq] at hc;rw [List.length_cons,Nat.add_right_comm];refine wpAnyH_all hc.1 (by simp) fun m hm=> ?_
  have e:m=k:=by simpa using hm
  subst e;have hi:l.toArray[m]?=some (nth l m):=by
   have:=sV (ops:=l.toArray) (listed:=seen) (i:=m) (by rw [hc.1];simp);simpa using sU (l:=l) (by simpa using this)
  simp only [aP] at h;unfold cU at h;unfold wpOp;simp only [hi];split
  ·rename_i hw
   rw [if_pos hw] at h;exact .inl (Oper.wp_mono (fun b v hb=>⟨hb.1,OL hlen hs hQ π _ _ _ hc.2 hb.1 hb.2⟩) (awv h))
  ·rename_i hw
   rw [if_neg hw] at h;exact ⟨h.1,OL hlen hs hQ π _ _ _ hc.2 h.1 h.2⟩
theorem afx {id:Nat} {a:Act} {w:World} {l:List Oper} (S:World→Prop) (π:List (Nat×Bool)) (i j:Nat) (ra rb:List (Nat×Bool)) (hm:P.follows .mixedOrders=true)
  (hB:(Region.noSelect l.toArray&&CO l.toArray i j ra rb π (Array.replicate l.toArray.size false)&&decide (ra.length=rb.length)&&decide (π.length+(ra.length+1)=l.toArray.size))=true)
  (hQ:∀ c a d v w,Q (.panic c) (Act.put a d v) w→Q (.panic c) a w) (hS:S w.drew) (h:cU P l.toArray (Kb P l S ((i,true)::ra) ((j,true)::rb) Q) S (aP l π) a w.drew):(Code.region id l.toArray true).wp P Q a w:=by
 simp only [Bool.and_eq_true,decide_eq_true_eq] at hB;refine wp_region_held (S:=S) hm ?_;rw [←hB.2];exact OL hB.1.2 hB.1.1.1 hQ π _ _ _ (by rw [hB.2];exact hB.1.1.2) hS h
theorem afy {l:List Oper} {πa πb:List (Nat×Bool)} {a:Act} {w:World} (ha:cU P l.toArray Q S (aP l πa) a w) (hb:cU P l.toArray Q S (aP l πb) a w):Kb P l S πa πb Q .normal a w:=⟨ha,hb⟩
theorem OM {l:List Oper} (hs:Region.noSelect l.toArray=true) (hQ:∀ c a o v w,o∈l→Q (.panic c) (Act.put a o.dst v) w→Q (.panic c) a w):∀ (π:List (Nat×Bool)) (listed:Array Bool) (a:Act) (w:World),
  nY l.toArray π listed=true→S w→cU P l.toArray Q S (aP l π) a w→wpAnyH P .any l.toArray Q S π.length listed a w
 | [],listed,a,w,hc,hS,h=>wpAnyH_done (by simpa [nY] using hc) (by simpa only [aP,cU] using h) _
 |(i,false)::rest,listed,a,w,hc,hS,h=>by
  simp only [nY,Bool.and_eq_true] at hc;simp only [aP,cU] at h;obtain ⟨v,hy,hr⟩:=h;have hi:=sV (by simpa using hc.1.1);have hn:=sU (l:=l) (by simpa using hi);exact wpAnyH_take (by simpa using hn) hs hc.1.2 hc.1.1 (fun c a w=>hQ c a _ _ w (dY hn)) hy hS (OM hs hQ rest _ _ _ hc.2 hS hr)
 |(i,true)::rest,listed,a,w,hc,hS,h=>by
  simp only [nY,Bool.and_eq_true,decide_eq_true_eq] at hc;refine wpAnyH_all hc.1 (by simp) fun j hj=> ?_
  have ki:j=i:=by simpa using hj
  subst ki;have hi:l.toArray[j]?=some (nth l j):=by
   have:=sV (ops:=l.toArray) (listed:=listed) (i:=j) (by rw [hc.1];simp);simpa using sU (l:=l) (by simpa using this)
  simp only [aP,cU] at h;unfold wpOp;simp only [hi];split
  ·rename_i hw
   rw [if_pos hw] at h;exact .inl (Oper.wp_mono (fun a' w' h'=>⟨h'.1,OM hs hQ rest _ _ _ hc.2 h'.1 h'.2⟩) h)
  ·rename_i hw
   rw [if_neg hw] at h;exact ⟨h.1,OM hs hQ rest _ _ _ hc.2 h.1 h.2⟩
theorem aww {id:Nat} {a:Act} {w:World} {l:List Oper} (S:World→Prop) (π:List (Nat×Bool)) (hm:P.follows .mixedOrders=true)
  (hB:(Region.noSelect l.toArray&&nY l.toArray π (Array.replicate l.toArray.size false)&&decide (π.length=l.toArray.size))=true)
  (hQ:∀ c a o v w,o∈l→Q (.panic c) (Act.put a o.dst v) w→Q (.panic c) a w) (hS:S w.drew) (h:cU P l.toArray Q S (aP l π) a w.drew):(Code.region id l.toArray true).wp P Q a w:=by
 simp only [Bool.and_eq_true,decide_eq_true_eq] at hB;refine wp_region_held (S:=S) hm ?_;rw [←hB.2];exact OM hB.1.1 hQ π _ _ _ (by rw [hB.2];exact hB.1.2) hS h
end awu
end Go.Gl
