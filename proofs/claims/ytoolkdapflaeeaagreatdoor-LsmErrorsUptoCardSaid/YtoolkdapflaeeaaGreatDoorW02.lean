/- Helpers. -/
import Derived.Test.YtoolkdapflaeeaaGreatDoorW01
import Derived.Shelf.Strconv.Itoa3
import Derived.Shelf.Strconv.Atoi
import Derived.Shelf.Strings.Prefix
import Derived.Lib.AtoiErrMem
set_option maxRecDepth 100000
set_option maxHeartbeats 16000000
open Go
variable {B K' b c k n p qb r s s0 : Nat} {arr : Array Value} {b0 l x : List UInt8} {born : Int} {bv pv v : Value} {f fz : Nat × Nat} {m : ByteArray} {t : TypeId} {w w' : World}
namespace Go.Proofs.YtoolkdapflaeeaaGreatDoor
open Go.RowKit Go.Gl Go.aF Go.Sort
def CL (fs:List Fe):List (List UInt8):=(pick (fun _=>true) (fs.map Fe.ay)).mergeSort (fun x y=>decide (x≤y))
theorem atp {fs:List Fe} {n:List UInt8} (h:n∈CL fs):(⟨n.toArray⟩:ByteArray)∈(vw fs).map (·.1):=by
 have h1:=(List.mergeSort_perm _ _).mem_iff.1 h;unfold pick at h1;obtain ⟨e,he,rfl⟩:=aZ.1 h1;obtain ⟨f,hf,rfl⟩:=aZ.1 (List.mem_filter.1 he).1;simp only [vw,eX,aZ,Function.comp];exact ⟨f,hf,by simp [Fe.ay]⟩
theorem atq {size:Int} {fs:List Fe} (h:bU B w p r size (cR (vw fs)) born fs) (hroom:cR (vw fs)≤1073741824) (mC:fs.length<1000000000) {picks:List Int} (hp:Iv w pv picks) (pJ:picks≠ []→Up (dt p r fs) pv):
  Calls Tryz.prog 38 #[.pointer (some ⟨p,0,none⟩),pv] w fun e w'=>e= .returned (.tuple #[])∧∃ bH,bU B w' p r size (cR (vw bH)) born bH∧Sep (dt p r fs) w w' (dt p r bH)∧vw bH=Ae picks 0 (CL fs) (vw fs):=by
 have acZ:=atg h mC;obtain ⟨pa,pc,oD,tq,_⟩:=id hp;subst oD;have H:=ae h;have Hp:=ae hp;have Ov:=ae pJ;have atr:=ae acZ;clear h hp pJ acZ;go_enter Tryz.func38,Tryz.ntmps38
 go_wp2_with fail
 (with_reducible refine atr.out.mono ?_);rintro e w1 ⟨nv,rfl,hrow,hg1⟩;have lJ:(CL fs).length=(pick (fun _=>true) (fs.map Fe.ay)).length:=List.length_mergeSort _;have hrow':w1.ownsRow w.heap.size 9 1 nv (CL fs).length ((CL fs).map encStr):=by rw [lJ];exact hrow
 have cK:∀ n∈CL fs,(⟨n.toArray⟩:ByteArray)∈(vw fs).map (·.1):=fun n hn=>atp hn
 generalize ada:CL fs=ns at*;have FO:=ae ada;clear ada;have h1:=H.out.grow hg1;rcases hrow'.2 with ⟨rfl,iy⟩|⟨gN,cap,cur,rfl,iM,Af,oG,hcm,hcs,eG⟩
 ·have jJ:ns= []:=iI iy
  subst jJ;have cJ:=ae h1;have eC:=ae hg1;clear h1 hg1 hrow hrow' lJ cK iy
  go_wp2_with fail
  refine wp_loop_rounds 1 ?_;rw [rounds_succ];go_wp2;go_end0;exact ⟨rfl,fs,cJ.out,Sep.bT eC.out,by rw [FO.out];rfl⟩
 ·have iA:∀ (i:Nat) (n:List UInt8),ns[i]?=some n→∀ W:World,W.heap[gN]?=some (.cells cur 9 (0,0))→W.cell? ⟨gN,i,none⟩=some (.string ⟨n.toArray⟩):=fun i n hi W hW=>by
   have h2:(ns.map encStr)[i]?=some (.string ⟨n.toArray⟩):=by simp [hi,encStr]
   rw [←eG,Nat.mul_one,List.getElem?_take] at h2
   split at h2
   ·have h3:cur[i]?=some (.string ⟨n.toArray⟩):=by simpa using h2
    simp [World.cell?,hW,h3]
   ·cases h2
  have hst:Uq B w p r size born (vw fs) (dt p r fs) picks ns gN cur (.int .i64 0) w1:=⟨0,fs,rfl,aY _,h1,rfl,rfl,Sep.bT hg1,Af,hroom⟩
  have bJ:=ae hst;have Ur:=ae iA;have Us:=ae cK;have mG:ns.length<1000000000:=by
   have h2:(pick (fun _=>true) (fs.map Fe.ay)).length≤(fs.map Fe.ay).length:=by unfold pick;rw [bF];exact List.length_filter_le _ _
   rw [bF] at h2;omega
  clear h1 hg1 hrow hrow' hst Af oG hcm hcs eG iM lJ iA cK
  go_wp2_with fail
  go_loopw [11] (fun iv wr=>Uq B w p r size born (vw fs) (dt p r fs) picks ns gN cur iv wr) (fun iv _=>ns.length-(intOf iv).toNat)
  case atStart=>exact bJ.out
  case round=>
   obtain ⟨i,bH,rfl,hi,hI⟩:=hrel;by_cases hlt:i<ns.length
   ·obtain ⟨n,hn⟩:∃ n,ns[i]?=some n:=⟨ns[i],by simp [hlt]⟩
    have Ag:=Ur.out i n hn wr hI.row;have lgN:=af hI.row;obtain ⟨f,fQ⟩:∃ f,fileOf ⟨n.toArray⟩ bH=some f:=atn (by rw [hI.names];exact Us.out n (dB hn))
    obtain ⟨hm,hfn⟩:=sX fQ;have hlk:(Instr.lookup 123 (.map (some r)) (.string ⟨n.toArray⟩) false).run Tryz.prog wr= .ok (.pointer (some ⟨f.fb,0,none⟩)) wr:=by
     have:=hI.bg.lookup ⟨n.toArray⟩;simpa only [nP,fQ] using this
    obtain ⟨c0,c1,c2,c3⟩:=hI.bg.cells;have lp:=af hI.bg.self;have bq:=hI.bg.files f hm;obtain ⟨ba,bc,bC⟩:=bq.row.slice;rw [jF] at bC;have z0:wr.cell? ⟨f.fb,0,none⟩=some (.slice ba f.b.length bc):=by simp [World.cell?,bq.cell,bC]
    have z1:wr.cell? ⟨f.fb,1,none⟩=some (.int .i64 f.synced):=by simp [World.cell?,bq.cell]
    have aHJ:f.b.length≤bc:=by
     have:=cI bq.row;rw [bC] at this;obtain ⟨_,_,he,h5,_⟩:=this;cases he;exact h5
    have lf:=af bq.cell;have rF:=bq.sync;have hbl:=acY hm;have hrm:=hI.room;obtain ⟨kp,gQ⟩:∃ kp,kp=wj picks i f.b.length f.synced:=⟨_,rfl⟩
    have fR:=acX picks i rF;rw [←gQ] at fR;have uN:Iv wr (.slice pa picks.length pc) picks:=Hp.out.sep hI.sep Ov.out;have eB:(i:Int)<(ns.length:Int):=by omega
    have bO:(0:Int)≤(i:Int):=by omega
    have fE:IntKind.i64.wrap ((i:Int)+1)=(i:Int)+1:=aS _ (by omega);have FP:Hid (∀ W,Grow wr W→Uq B w p r size born (vw fs) (dt p r fs) picks ns gN cur (.int .i64 ((i:Int)+1)) (((W.setCell ⟨p,1,none⟩ (.int .i64 ((cR (vw bH):Int)-((f.b.length:Int)-(kp:Int))))).setCell ⟨f.fb,0,none⟩ (.slice ba kp kp)).setCell ⟨f.fb,1,none⟩ (.int .i64 kp))):=ae (fun W hW=>by
     obtain ⟨hd,hs⟩:=ato (hI.bg.grow hW) hm bC fR.2 ((cR (vw bH):Int)-((f.b.length:Int)-(kp:Int)));have hv:=ati hI.bg.names hm (.slice ba kp kp) kp;have ht:=atj hI.bg.names hm fR.2;rw [←hv] at ht;have nS:=(hI.sep.trans (Sep.bT hW)).trans hs;refine ⟨i+1,jU f.name (.slice ba kp kp) (f.b.take kp) kp bH,by simp,hlt,?_,?_,?_,nS,?_,by omega⟩
     ·have:((cR (vw (jU f.name (.slice ba kp kp) (f.b.take kp) kp bH)):Nat):Int)=(cR (vw bH):Int)-((f.b.length:Int)-(kp:Int)):=by omega
      rw [this];exact hd
     ·rw [hI.run]
      have hdr:ns.drop i=n::ns.drop (i+1):=by
       obtain ⟨h5,rfl⟩:=dG.1 hn;exact mh h5
      rw [hdr,Ae,wk,fQ];simp only [Option.map_some];rw [←gQ,hv,hfn]
     ·rw [hv,atl];exact hI.names
     ·have CG:=(hI.bg.grow hW).apart (hW.heap hI.row) (by decide) (by decide) (by decide)
      rw [hs.out gN (af (hW.heap hI.row)) CG];exact hW.heap hI.row)
    have ff:∀ W:World,Grow wr W→(∀ j,W.frozen? ⟨p,j,none⟩=false)∧(∀ j,W.frozen? ⟨f.fb,j,none⟩=false):=fun W hW=>⟨fun j=>by simp [World.frozen?,hW.heap hI.bg.self],fun j=>by simp [World.frozen?,hW.heap bq.cell]⟩
    have hfp:f.fb≠p:=(hI.bg.zY hm).1;have hpf:p≠f.fb:=Ne.symm hfp;have aHL:(f.fb=p)=False:=by simpa using hfp
    have aHM:(p=f.fb)=False:=by simpa using hpf
    clear hI bq bC hm fQ hn;have aQ:=Grow.cells (w:=wr);have hgd:Grow wr wr.drew:=az wr;by_cases Ut:i<picks.length
    ·obtain ⟨k,hk⟩:∃ k,picks[i]?=some k:=⟨picks[i],by simp [Ut]⟩
     obtain ⟨pb,po,rfl,lpb,nT⟩:∃ b o,pa=some ⟨b,o,none⟩∧b<wr.heap.size∧∀ (j:Nat) (k:Int),picks[j]?=some k→wr.cell? ⟨b,o+j,none⟩=some (.int .i64 k):=by
      obtain ⟨a',c',he,_,h5⟩:=uN;cases he;rcases h5 with h5|h5
      ·rw [h5] at Ut;simp at Ut
      ·exact h5
     have pk:=nT i k hk;have atv:(i:Int)<(picks.length:Int):=by omega
     by_cases kP:0≤k
     ·have e1:decide ((0:Int)≤k)=true:=by simpa using kP
      have uP:(kp:Int)=(f.synced:Int)+k%(((f.b.length-f.synced+1:Nat)):Int):=by
       rw [gQ];unfold wj;rw [hk];simp only [if_pos kP];have:=Int.emod_nonneg k (b:=((f.b.length-f.synced+1:Nat):Int)) (by omega);omega
      clear nT hk uN gQ
      go_upto_region 6 with fail
      have nR:IntKind.i64.wrap ((f.b.length:Int)-(f.synced:Int))=(f.b.length:Int)-(f.synced:Int):=aS _ (by omega);have JU:IntKind.i64.wrap ((f.b.length:Int)-(f.synced:Int)+1)=(f.b.length:Int)-(f.synced:Int)+1:=aS _ (by omega);have hnz:¬ ((f.b.length:Int)-(f.synced:Int)+1=0):=by omega
      refine dz (fun W=>Below wr.heap.size wr W) [] (by kernel_rfl) (bK fun _ _ _ _ _ h=>h) (az _) ?_;simp only [cF]
      repeat ((first|(refine aA (v:= ?_) (by rfl) ?_ ?_;rotate_left;rintro W hW;go_simp;with_reducible rfl)|refine aB (by rfl) ?_);simp only [ai,List.set])
      refine bj ?_;have h7:IntKind.i64.wrap ((f.synced:Int)+k.tmod ((f.b.length:Int)-(f.synced:Int)+1))=(kp:Int):=by
       rw [Int.tmod_eq_emod_of_nonneg kP,show ((f.b.length:Int)-(f.synced:Int)+1)=((f.b.length-f.synced+1:Nat):Int) by omega,←uP];exact aS _ (by omega)
      rw [h7];clear h7 uP
      go_upto_region 7 with fail
      have wo:Grow wr wr.drew:=(az wr)
      have aX:=ae (FP.out (wr.drew).drew (wo.trans (az _)));have adf:IntKind.i64.wrap ((f.b.length:Int)-(kp:Int))=(f.b.length:Int)-(kp:Int):=aS _ (by omega);have Ow:IntKind.i64.wrap ((cR (vw bH):Int)-((f.b.length:Int)-(kp:Int)))=(cR (vw bH):Int)-((f.b.length:Int)-(kp:Int)):=aS _ (by omega);obtain ⟨ff1,ff2⟩:=ff wr (aV _);have hcb:kp≤bc:=by omega
      clear FP ff wo;refine uz (fun W=>Below wr.heap.size wr W) [(0,false),(1,false),(2,false),(3,false),(4,false),(5,false),(6,false),(7,false),(8,false),(9,false),(10,false),(11,false),(12,false),(13,false)] 14 (by kernel_rfl) (by kernel_rfl) (bK fun _ _ _ _ _ h=>h) ((az wr).trans (az _)) ?_;simp only [cm,nth]
      repeat ((first|(refine aA (v:= ?_) (by rfl) ?_ ?_;rotate_left;rintro W hW;go_simp;with_reducible rfl)|refine aB (by rfl) ?_);simp only [ai,List.set])
      refine bj ?_;refine uA (by rfl) (fun K hK=> ?_);go_simp;refine hK _ _ ?_;clear hK K aQ
      try simp only [ai,List.set,aC]
      go_wp2;go_roundw
      case rel=>exact aX.out
      case measure=>simp [intOf];omega
     ·have e1:decide ((0:Int)≤k)=false:=by simpa using kP
      have uP:kp=f.synced:=by rw [gQ];unfold wj;rw [hk];simp only [if_neg kP]
      clear nT hk uN gQ;subst uP
      go_upto_region 7 with fail
      have wo:Grow wr wr:=(aV wr)
      have aX:=ae (FP.out (wr).drew (wo.trans (az _)));have adf:IntKind.i64.wrap ((f.b.length:Int)-(f.synced:Int))=(f.b.length:Int)-(f.synced:Int):=aS _ (by omega);have Ow:IntKind.i64.wrap ((cR (vw bH):Int)-((f.b.length:Int)-(f.synced:Int)))=(cR (vw bH):Int)-((f.b.length:Int)-(f.synced:Int)):=aS _ (by omega);obtain ⟨ff1,ff2⟩:=ff wr wo;have hcb:f.synced≤bc:=by omega
      clear FP ff wo;refine uz (fun W=>Below wr.heap.size wr W) [(0,false),(1,false),(2,false),(3,false),(4,false),(5,false),(6,false),(7,false),(8,false),(9,false),(10,false),(11,false),(12,false),(13,false)] 14 (by kernel_rfl) (by kernel_rfl) (bK fun _ _ _ _ _ h=>h) ((aV wr).trans (az _)) ?_;simp only [cm,nth]
      repeat ((first|(refine aA (v:= ?_) (by rfl) ?_ ?_;rotate_left;rintro W hW;go_simp;with_reducible rfl)|refine aB (by rfl) ?_);simp only [ai,List.set])
      refine bj ?_;refine uA (by rfl) (fun K hK=> ?_);go_simp;refine hK _ _ ?_;clear hK K aQ
      try simp only [ai,List.set,aC]
      go_wp2;go_roundw
      case rel=>exact aX.out
      case measure=>simp [intOf];omega
    ·have uP:kp=f.synced:=by rw [gQ];unfold wj;rw [List.getElem?_eq_none (by omega)]
     have atv:¬ (i:Int)<(picks.length:Int):=by omega
     clear uN gQ;subst uP
     go_upto_region 7 with fail
     have wo:Grow wr wr:=(aV wr)
     have aX:=ae (FP.out (wr).drew (wo.trans (az _)));have adf:IntKind.i64.wrap ((f.b.length:Int)-(f.synced:Int))=(f.b.length:Int)-(f.synced:Int):=aS _ (by omega);have Ow:IntKind.i64.wrap ((cR (vw bH):Int)-((f.b.length:Int)-(f.synced:Int)))=(cR (vw bH):Int)-((f.b.length:Int)-(f.synced:Int)):=aS _ (by omega);obtain ⟨ff1,ff2⟩:=ff wr wo;have hcb:f.synced≤bc:=by omega
     clear FP ff wo;refine uz (fun W=>Below wr.heap.size wr W) [(0,false),(1,false),(2,false),(3,false),(4,false),(5,false),(6,false),(7,false),(8,false),(9,false),(10,false),(11,false),(12,false),(13,false)] 14 (by kernel_rfl) (by kernel_rfl) (bK fun _ _ _ _ _ h=>h) ((aV wr).trans (az _)) ?_;simp only [cm,nth]
     repeat ((first|(refine aA (v:= ?_) (by rfl) ?_ ?_;rotate_left;rintro W hW;go_simp;with_reducible rfl)|refine aB (by rfl) ?_);simp only [ai,List.set])
     refine bj ?_;refine uA (by rfl) (fun K hK=> ?_);go_simp;refine hK _ _ ?_;clear hK K aQ
     try simp only [ai,List.set,aC]
     go_wp2;go_roundw
     case rel=>exact aX.out
     case measure=>simp [intOf];omega
   ·obtain rfl:i=ns.length:=by omega
    have hv:=hI.run;rw [List.drop_length] at hv;have Hd:=ae hI.bg;have Hs:=ae hI.sep;have Hv:=ae hv;clear hI hv;go_wp2;go_end0;exact ⟨rfl,bH,Hd.out,Hs.out,by rw [FO.out,Hv.out];rfl⟩
def dn (N B:Nat) (w:World):Prop:=∀ n:Nat,n<N→∀ W:World,(∀ b,b<B→W.heap[b]?=w.heap[b]?)→Calls Tryz.prog 123 #[.int .i64 n] W fun e w'=>e= .returned (.string ⟨(Lib.decDigits n).toArray⟩)∧Grow W w'
theorem Uu (B:Nat) (w:World):dn 100 B w:=fun n hn W _=>(Any.strconv_Itoa_small Tryz.itoa n hn W).mono (by rintro e w' ⟨rfl,rfl⟩;exact ⟨rfl,aV _⟩)
theorem dn.keep {N:Nat} (h:dn N B w) (hk:∀ b,b<B→w'.heap[b]?=w.heap[b]?):dn N B w':=fun n hn W hW=>h n hn W (fun b hb=>(hW b hb).trans (hk b hb))
def fF (n:Nat):List UInt8:=List.replicate (6-(Lib.decDigits n).length) 48++Lib.decDigits n
theorem wA (x y:List UInt8):(⟨x.toArray⟩:ByteArray)++⟨y.toArray⟩=⟨(x++y).toArray⟩:=by
 apply ByteArray.ext;simp
def adi (w:World) (n:Nat) (sv:Value) (wr:World):Prop:=∃ k:Nat,sv= .string ⟨(List.replicate k 48++Lib.decDigits n).toArray⟩∧(k=0∨k+(Lib.decDigits n).length≤6)∧Grow w wr
theorem FQ (h:n<1000000):(Lib.decDigits n).length≤6:=by
 have h0:∀ m,(Lib.decDigits m).length=if m<10 then 1 else (Lib.decDigits (m / 10)).length+1:=fun m=>by
  rw [Lib.decDigits];split
  ·simp
  ·simp
 rw [h0];split;· omega
 rw [h0];split;· omega
 rw [h0];split;· omega
 rw [h0];split;· omega
 rw [h0];split;· omega
 rw [h0,if_pos (by omega)];decide
theorem dn.grow {N:Nat} (h:dn N B w) (hg:Grow w w') (hB:B≤w.heap.size):dn N B w':=h.keep (fun b hb=>hg.block b (by omega))
theorem JV (n:Nat):∀ c∈Lib.decDigits n,48≤c.toNat∧c.toNat≤57:=by
 induction n using Nat.strongRecOn with
 |_ n ih=>
  rw [Lib.decDigits];split
  ·intro c hc
   rw [cY] at hc;subst hc;simp only [UInt8.toNat_ofNat'];omega
  ·intro c hc
   rcases cU.1 hc with h|h
   ·exact ih (n / 10) (by omega) c h
   ·rw [cY] at h
    subst h;simp only [UInt8.toNat_ofNat'];omega
theorem yn (h:n<1000000):(fF n).length=6:=by
 have:=FQ h;simp [fF];omega
theorem JW {l:List UInt8} (h1:1≤l.length) (h2:l.length≤64) (h:∀ c∈l,zX c=true):kC ⟨l.toArray⟩:=by
 refine ⟨by simpa [ByteArray.size] using h1,by simpa [ByteArray.size] using h2,fun i hi=>h _ ?_⟩;have hi':i<l.length:=by simpa [ByteArray.size] using hi
 have:(⟨l.toArray⟩:ByteArray)[i]=l[i]:=rfl;rw [this];exact List.getElem_mem hi'
theorem Uv {c:UInt8} (h:48≤c.toNat∧c.toNat≤57):zX c=true:=by simp [zX,h.1,h.2]
theorem atw (x y:List UInt8):∀ acc,Lib.decFrom acc (x++y)=(Lib.decFrom acc x).bind fun a=>Lib.decFrom a y:=by
 induction x with
 |nil=>intro acc;rfl
 |cons b r ih=>
  intro acc;simp only [gG,Lib.decFrom];cases Lib.digitVal b with
  |none=>rfl
  |some d=>simp only [ih];try rfl
theorem adj (h:k<10):Lib.digitVal (UInt8.ofNat (48+k))=some k:=by
 have:k=0∨k=1∨k=2∨k=3∨k=4∨k=5∨k=6∨k=7∨k=8∨k=9:=by omega
 rcases this with rfl|rfl|rfl|rfl|rfl|rfl|rfl|rfl|rfl|rfl<;>decide
theorem adk (n:Nat):Lib.decFrom 0 (Lib.decDigits n)=some n:=by
 induction n using Nat.strongRecOn with
 |_ n ih=>
  rw [Lib.decDigits];split
  ·rename_i h
   simp only [Lib.decFrom,adj h];congr 1;omega
  ·rename_i h
   rw [atw,ih (n / 10) (by omega)];simp only [Option.bind_some,Lib.decFrom,adj (Nat.mod_lt n (by omega:10>0))];congr 1;omega
theorem atx (k:Nat) (l:List UInt8):Lib.decFrom 0 (List.replicate k 48++l)=Lib.decFrom 0 l:=by
 induction k with
 |zero=>rfl
 |succ k ih=>
  rw [List.replicate_succ,gG,Lib.decFrom,show Lib.digitVal 48=some 0 by decide];simpa using ih
theorem CM (n:Nat):Lib.decFrom 0 (fF n)=some n:=by rw [fF,atx,adk]
theorem aty {n:Nat} (h:n<1000000):Lib.atoi (fF n)=some (n:Int):=by
 have hl:=yn h;have hd:=CM n;have hall:∀ c∈fF n,48≤c.toNat:=fun c hc=>by
  rcases cU.1 hc with hc|hc
  ·rw [(List.mem_replicate.1 hc).2];decide
  ·exact (JV n c hc).1
 cases hp:fF n with
 |nil=>rw [hp] at hl;cases hl
 |cons b r=>
  have hb:=hall b (by rw [hp];exact dR ..);have h1:(b==45)=false:=by
   cases hx:b==45 with
   |false=>rfl
   |true=>rw [eq_of_beq hx] at hb;exact absurd hb (by decide)
  have h2:(b==43)=false:=by
   cases hx:b==43 with
   |false=>rfl
   |true=>rw [eq_of_beq hx] at hb;exact absurd hb (by decide)
  rw [hp] at hd;simp [Lib.atoi,h1,h2,Lib.decNat,hd]
theorem adl {n:Nat} (h:n<1000000) (w:World):Calls Tryz.prog 90 #[.string ⟨(fF n).toArray⟩] w fun e w'=>e= .returned (.tuple #[.int .i64 n,.nilIface])∧Grow w w':=by
 have hl:=yn h;refine (Any.strconv_Atoi Tryz.atoi ⟨(fF n).toArray⟩ n (by simp [ByteArray.size,hl]) (by simpa using aty h) w).mono ?_;rintro e w' ⟨rfl,t,rfl⟩;exact ⟨rfl,Lib.bytesWorld_below w _ t⟩
theorem adm (s p:ByteArray) (w:World):Calls Tryz.prog 91 #[.string s,.string p] w fun e w'=>e= .returned (.string ⟨(Lib.trimPrefix s.data.toList p.data.toList).toArray⟩)∧w'=w:=Any.strings_TrimPrefix Tryz.asU s p w
theorem atz (n:Nat):Lib.atoi (Lib.decDigits n)=some (n:Int):=by
 have hd:=adk n;have hall:=JV n;have hne:Lib.decDigits n≠ []:=by
  rw [Lib.decDigits];split<;>simp
 cases hp:Lib.decDigits n with
 |nil=>exact absurd hp hne
 |cons b r=>
  have hb:=(hall b (by rw [hp];exact dR ..)).1;have h1:(b==45)=false:=by
   cases hx:b==45 with
   |false=>rfl
   |true=>rw [eq_of_beq hx] at hb;exact absurd hb (by decide)
  have h2:(b==43)=false:=by
   cases hx:b==43 with
   |false=>rfl
   |true=>rw [eq_of_beq hx] at hb;exact absurd hb (by decide)
  rw [hp] at hd;simp [Lib.atoi,h1,h2,Lib.decNat,hd]
theorem atB {n:Nat} (h:n<1000000) (w:World):Calls Tryz.prog 90 #[.string ⟨(Lib.decDigits n).toArray⟩] w fun e w'=>e= .returned (.tuple #[.int .i64 n,.nilIface])∧Grow w w':=by
 have hl:=FQ h;refine (Any.strconv_Atoi Tryz.atoi ⟨(Lib.decDigits n).toArray⟩ n (by simp [ByteArray.size];omega) (by simpa using atz n) w).mono ?_;rintro e w' ⟨rfl,t,rfl⟩;exact ⟨rfl,Lib.bytesWorld_below w _ t⟩
abbrev rG:List UInt8:= [109,97,110,105,102,101,115,116,45]
def cX (n:Nat):ByteArray:=⟨(rG++fF n).toArray⟩
abbrev tr:ByteArray:=⟨#[99,117,114,114,101,110,116]⟩
abbrev qG:ByteArray:=⟨#[99,117,114,114,101,110,116,46,116,109,112]⟩
def eH (n:Nat):ByteArray:=⟨(([116,45]:List UInt8)++fF n).toArray⟩
theorem atC {m:Nat} (h:cX m=cX n):m=n:=by
 have h1:rG++fF m=rG++fF n:=by
  have:=congrArg (fun b:ByteArray=>b.data.toList) h;simpa [cX] using this
 have h2:fF m=fF n:=List.append_cancel_left h1;have h3:=CM m;rw [h2,CM n] at h3;cases h3;rfl
theorem atE:tr≠qG:=by decide
theorem Uw (n:Nat):cX n≠tr:=by
 intro h;have:=congrArg (fun b:ByteArray=>b.data.toList) h;simp [cX] at this
theorem Ox (n:Nat):cX n≠qG:=by
 intro h;have:=congrArg (fun b:ByteArray=>b.data.toList) h;simp [cX] at this
theorem atF:kC tr:=JW (l:= [99,117,114,114,101,110,116]) (by decide) (by decide) (by decide)
theorem atG:kC qG:=JW (l:= [99,117,114,114,101,110,116,46,116,109,112]) (by decide) (by decide) (by decide)
theorem adn (h:n<1000000):kC (cX n):=by
 have hl:=yn h;refine JW (by simp) (by simp [hl]) ?_;intro c hc;rcases cU.1 hc with hc|hc
 ·exact (by decide:∀ c∈rG,zX c=true) c hc
 ·rcases cU.1 hc with hc|hc
  ·rw [(List.mem_replicate.1 hc).2];decide
  ·exact Uv (JV n c hc)
theorem ado {N:Nat} (h:dn N B w) (hn:n<N) (h6:n<1000000):
  Calls Tryz.prog 73 #[.int .i64 n] w fun e w'=>e= .returned (.string ⟨(fF n).toArray⟩)∧Grow w w':=by
 have hd:=FQ h6;have Hi:=ae (h n hn w (fun _ _=>rfl));clear h;go_enter Tryz.func73,Tryz.ntmps73
 go_wp2_with fail
 (with_reducible refine Hi.out.mono ?_);rintro e w1 ⟨rfl,hg1⟩;have eC:=ae hg1;clear hg1
 go_wp2_with fail
 go_loopw [3] (fun sv wr=>adi w n sv wr) (fun sv _=>6-(match sv with| .string s=>s.size|_=>0))
 case atStart=>exact ⟨0,by simp,.inl rfl,eC.out⟩
 case round=>
  obtain ⟨k,rfl,hk,hg⟩:=hrel;have Hg:=ae hg;clear hg;have hsz:(⟨(List.replicate k 48++Lib.decDigits n).toArray⟩:ByteArray).size=k+(Lib.decDigits n).length:=by simp [ByteArray.size]
  by_cases hlt:k+(Lib.decDigits n).length<6
  ·have e1:(k:Int)+((Lib.decDigits n).length:Int)<6:=by omega
   have e3:¬ 9223372036854775807<1+(k+(Lib.decDigits n).length):=by omega
   go_wp2;go_roundw
   case rel=>
    refine ⟨k+1,?_,.inr (by omega),Hg.out⟩;rw [show (⟨#[48]⟩:ByteArray)=⟨([48]:List UInt8).toArray⟩ from rfl,wA,List.replicate_succ];rfl
   case measure=>
    rw [show (⟨#[48]⟩:ByteArray)=⟨([48]:List UInt8).toArray⟩ from rfl,wA];simp only [ByteArray.size,List.size_toArray,aJ,List.length_replicate,dH,iK];omega
  ·have FJ:decide ((k:Int)+((Lib.decDigits n).length:Int)<6)=false:=by simp;omega
   have uQ:k=6-(Lib.decDigits n).length:=by omega
   have Ux:=ae uQ;clear uQ;go_wp2;go_ret;refine ⟨?_,Hg.out⟩;rw [fF,←Ux.out];rfl
theorem JX {N:Nat} (h:dn N B w) (hn:n<N) (h6:n<1000000):
  Calls Tryz.prog 92 #[.int .i64 n] w fun e w'=>e= .returned (.string (cX n))∧Grow w w':=by
 have Hi:=ae (ado h hn h6);have hl:=yn h6;have e3:¬ 9223372036854775807<9+(fF n).length:=by omega
 clear h;go_enter Tryz.func92,Tryz.ntmps92
 go_wp2_with fail
 (with_reducible refine Hi.out.mono ?_);rintro e w1 ⟨rfl,hg1⟩;go_wp2;go_ret;exact ⟨by rw [show (⟨#[109,97,110,105,102,101,115,116,45]⟩:ByteArray)=⟨(rG:List UInt8).toArray⟩ from rfl,wA];rfl,hg1⟩
def nj (V:Vw):Prop:=(V.map (·.1)).Nodup
theorem nj.tail {e:ByteArray×List UInt8×Nat} {V:Vw} (h:nj (e::V)):nj V:=(List.nodup_cons.1 h).2
theorem nj.head {e:ByteArray×List UInt8×Nat} {V:Vw} (h:nj (e::V)):∀ g∈V,g.1≠e.1:=fun g hg he=>(List.nodup_cons.1 h).1 (aZ.2 ⟨g,hg,he⟩)
theorem FR (e:ByteArray×List UInt8×Nat) (V:Vw):cR (e::V)=e.2.1.length+cR V:=by simp [cR]
theorem fJ (n:ByteArray) (e:ByteArray×List UInt8×Nat) (V:Vw):cZ n (e::V)=if n=e.1 then some e.2 else cZ n V:=by
 unfold cZ;rw [List.find?_cons];by_cases h:n=e.1<;>simp [h]
theorem atH {V:Vw} {n:ByteArray} (h:∀ g∈V,g.1≠n) (k:ByteArray×List UInt8×Nat→ByteArray×List UInt8×Nat):(V.map fun e=>if e.1=n then k e else e)=V:=by
 induction V with
 |nil=>rfl
 |cons e V ih=>rw [cg,if_neg (h e (dR ..)),ih (fun g hg=>h g (fk _ hg))]
theorem adp {V:Vw} (hV:nj V) {n:ByteArray} {b0:List UInt8} (h:cZ n V=some (b0,s0)) (k:ByteArray×List UInt8×Nat→ByteArray×List UInt8×Nat):
  cR (V.map fun e=>if e.1=n then k e else e)+b0.length=cR V+(k (n,b0,s0)).2.1.length:=by
 induction V with
 |nil=>cases h
 |cons e V ih=>
  rw [fJ] at h;rw [cg,FR,FR];by_cases hn:n=e.1
  ·rw [if_pos hn] at h
   have he:e=(n,b0,s0):=by obtain ⟨e1,e2⟩:=e;cases h;cases hn;rfl
   rw [if_pos hn.symm,atH (fun g hg=>hn ▸ hV.head g hg)];subst he;simp only;omega
  ·rw [if_neg hn] at h
   rw [if_neg (fun x=>hn x.symm)];have:=ih hV.tail h;omega
theorem adq (n:ByteArray) (V:Vw):cR (tj n V)=cR V:=by
 unfold cR tj;rw [eX];congr 1;apply iJ;intro e _;simp only [Function.comp]
 split<;>rfl
theorem adr {n:ByteArray} {V:Vw}:V.any (fun e=>decide (e.1=n))=(cZ n V).isSome:=by
 induction V with
 |nil=>rfl
 |cons e V ih=>
  rw [List.any_cons,fJ,ih];by_cases h:n=e.1
  ·simp [h]
  ·have:¬ e.1=n:=fun x=>h x.symm
   simp [h,this]
theorem ads {V:Vw} (hV:nj V) (n:ByteArray) (x:List UInt8):cR (sZ n x V)=cR V+x.length:=by
 unfold sZ;rw [adr];cases h:cZ n V with
 |none=>simp [cR]
 |some q=>
  obtain ⟨b0,s0⟩:=q;rw [if_pos (show (some (b0,s0)).isSome=true from rfl)];have:=adp hV h (fun e=>(e.1,e.2.1++x,e.2.2));simp only [aJ] at this;omega
theorem Oy {V:Vw} (hV:nj V) {n:ByteArray} (h:cZ n V=some (b0,s0)):cR (jY n V)+b0.length=cR V:=by
 induction V with
 |nil=>cases h
 |cons e V ih=>
  rw [fJ] at h;unfold jY;by_cases hn:n=e.1
  ·rw [if_pos hn] at h
   rw [List.filter_cons_of_neg (by simp [hn]),List.filter_eq_self.2 (fun g hg=>by have:=hV.head g hg;simp [hn];exact fun x=>this x.symm),FR];obtain ⟨e1,e2⟩:=e;cases h;simp only;omega
  ·rw [if_neg hn] at h
   rw [List.filter_cons_of_pos (by simp [hn]),FR,FR];have:=ih hV.tail h;unfold jY at this;omega
theorem atI {V:Vw} {n:ByteArray} (h:m≠n):cZ n (jY m V)=cZ n V:=by
 induction V with
 |nil=>rfl
 |cons e V ih=>
  unfold jY at ih ⊢;by_cases hm:m=e.1
  ·rw [List.filter_cons_of_neg (by simp [hm]),ih,fJ,if_neg (fun x=>h (hm.trans x.symm))]
  ·rw [List.filter_cons_of_pos (by simp [hm]),fJ,fJ,ih]
theorem adt {V:Vw} (hV:nj V) {n:ByteArray} (gq:m≠n) {b:List UInt8} (hm:cZ m V=some (b,s)) (hn:cZ n V=some (b0,s0)):cR (uL m n b s V)+b0.length=cR V:=by
 have h1:=Oy hV hm;have hd:nj (jY m V):=List.Nodup.sublist (List.filter_sublist.map _) hV;have h2:=adp hd ((atI gq).trans hn) (fun e=>(e.1,b,s));unfold uL;simp only at h2;omega
def Uy (n:ByteArray) (x:List UInt8) (V:Vw):Vw:=V.map fun e=>if e.1=n then (e.1,x,x.length) else e
theorem Uz {n:ByteArray} {V:Vw} (h:cZ n V=none) (q:List UInt8×Nat):cZ n (V++ [(n,q)])=some q:=by
 induction V with
 |nil=>rw [iq,fJ,if_pos rfl]
 |cons e V ih=>
  rw [fJ] at h;by_cases hn:n=e.1
  ·rw [if_pos hn] at h;cases h
  ·rw [if_neg hn] at h
   rw [gG,fJ,if_neg hn,ih h]
theorem UA {n:ByteArray} (gq:n≠m) (V:Vw) (q:List UInt8×Nat):cZ n (V++ [(m,q)])=cZ n V:=by
 induction V with
 |nil=>rw [iq,fJ,if_neg gq]
 |cons e V ih=>rw [gG,fJ,fJ,ih]
section
def Dk (Z B:Nat) (w:World) (p r:Nat) (V:Vw) (F:Nat→Prop):Prop:=Z≤1073741824∧cR V≤Z∧∃ (born:Int) (fs:List Fe),bU B w p r Z (cR V) born fs∧vw fs=V∧dt p r fs=F
def JY (Z B:Nat) (w:World) (p r:Nat) (F:Nat→Prop) (w':World) (V':Vw):Prop:=∃ F',Dk Z B w' p r V' F'∧Sep F w w' F'
variable {Z B:Nat} {w w':World} {p r:Nat} {V:Vw} {F:Nat→Prop}
theorem Dk.grow (h:Dk Z B w p r V F) (hg:Grow w w'):Dk Z B w' p r V F:=by
 obtain ⟨hZ,h0,born,fs,h1,h2,h3⟩:=h;exact ⟨hZ,h0,born,fs,h1.grow hg,h2,h3⟩
theorem UB (fs:List Fe):(vw fs).map (·.1)=fs.map Fe.name:=by simp [vw,Function.comp]
theorem Dk.names (h:Dk Z B w p r V F):nj V:=by
 obtain ⟨hZ,h0,born,fs,h1,rfl,h3⟩:=h;unfold nj;rw [UB];exact h1.names
theorem Dk.base (h:Dk Z B w p r V F):B≤w.heap.size:=by
 obtain ⟨hZ,h0,born,fs,h1,rfl,h3⟩:=h;exact h1.base.2.2
theorem Dk.foot (h:Dk Z B w p r V F) (hb:F b):B≤b∧b<w.heap.size:=by
 obtain ⟨hZ,h0,born,fs,h1,rfl,rfl⟩:=h;exact h1.acD hb
theorem Dk.apart (h:Dk Z B w p r V F) (hb:w.heap[b]?=some (.cells arr t f)) (h1:t≠125) (h2:t≠165) (h3:t≠5):¬ F b:=by
 obtain ⟨hZ,h0,born,fs,hd,rfl,rfl⟩:=h;exact hd.apart hb h1 h2 h3
theorem FU {fs:List Fe} {f:Fe} (hf:f∈fs) {Z:Nat} (h:cR (vw fs)≤Z):f.b.length≤Z:=aM (acY hf) h
theorem atJ (h:Dk Z B w p r V F) (n:ByteArray):Calls Tryz.prog 34 #[.pointer (some ⟨p,0,none⟩),.string n] w fun e w'=>
  (match cZ n V with
   |none=>e= .returned (.tuple #[.slice none 0 0,.int .i64 4])
   |some (b,_)=>∃ v,e= .returned (.tuple #[v,.int .i64 0])∧aI w.heap.size w' v b)∧Grow w w':=by
 obtain ⟨hZ,h0,born,fs,h1,rfl,rfl⟩:=h;refine (acE h1 n (fun f hf=>by have:=FU hf h0;omega)).mono ?_;rintro e w2 ⟨hm,hg⟩;refine ⟨?_,hg⟩;rw [wk];cases hf:fileOf n fs with
 |none=>rw [hf] at hm;exact hm
 |some f=>rw [hf] at hm;exact hm
theorem atK (h:Dk Z B w p r V F) {n:ByteArray} (hn:kC n) (hq:w.heap[qb]?=some (.cells #[pv] 49 (0,0))) (hx:Bv w pv x) (hroom:cR V+x.length≤Z):
  Calls Tryz.prog 78 #[.pointer (some ⟨p,0,none⟩),.string n,.slice (some ⟨qb,0,none⟩) 1 1] w fun e w'=>e= .returned (.int .i64 0)∧JY Z B w p r F w' (sZ n x V):=by
 have hN:=h.names;obtain ⟨hZ,h0,born,fs,h1,rfl,rfl⟩:=h;have key:Calls Tryz.prog 78 #[.pointer (some ⟨p,0,none⟩),.string n,.slice (some ⟨qb,0,none⟩) 1 1] w (JA B w p r Z (cR (vw fs)) born fs n x):=by
  cases hf:fileOf n fs with
  |none=>exact asy h1 hf hn hq hx (by omega) (by omega) (by omega)
  |some f=>exact asw h1 hf hn hq hx (by omega) (by omega) (by omega) (by have:=FU (sX hf).1 h0;omega)
 refine key.mono ?_;rintro e w2 ⟨rfl,bH,hd,hs,hv⟩;have ht:=ads hN n x;refine ⟨rfl,_,⟨hZ,by omega,born,bH,?_,hv,rfl⟩,hs⟩;rw [ht,Int.natCast_add];exact hd
theorem atL (h:Dk Z B w p r V F) {n:ByteArray} (hn:kC n) (hl:cZ n V=none):
  Calls Tryz.prog 78 #[.pointer (some ⟨p,0,none⟩),.string n,.slice none 0 0] w fun e w'=>e= .returned (.int .i64 0)∧JY Z B w p r F w' (V++ [(n,[],0)]):=by
 obtain ⟨hZ,h0,born,fs,h1,rfl,rfl⟩:=h;have hf:fileOf n fs=none:=by rw [wk] at hl;simpa using hl
 refine (asB h1 hf hn (by omega) (by omega) (by omega)).mono ?_;rintro e w2 ⟨rfl,bH,hd,hs,hv⟩;have ht:cR (vw fs++ [(n,[],0)])=cR (vw fs):=by simp [cR]
 exact ⟨rfl,_,⟨hZ,by omega,born,bH,by rw [ht];exact hd,hv,rfl⟩,hs⟩
theorem atM (h:Dk Z B w p r V F) {n:ByteArray} {b:List UInt8} (hl:cZ n V=some (b,s)) (hq:w.heap[qb]?=some (.cells #[.string n] 9 (0,0))):
  Calls Tryz.prog 83 #[.pointer (some ⟨p,0,none⟩),.slice (some ⟨qb,0,none⟩) 1 1] w fun e w'=>e= .returned (.int .i64 0)∧JY Z B w p r F w' (tj n V):=by
 obtain ⟨hZ,h0,born,fs,h1,rfl,rfl⟩:=h;rw [wk] at hl;obtain ⟨f,hf,_⟩:=Option.map_eq_some_iff.1 hl;refine (asF h1 hf hq (by have:=FU (sX hf).1 h0;omega)).mono ?_;rintro e w2 ⟨rfl,bH,hd,hs,hv⟩;have ht:=adq n (vw fs);exact ⟨rfl,_,⟨hZ,by omega,born,bH,by rw [ht];exact hd,hv,rfl⟩,hs⟩
theorem atN (h:Dk Z B w p r V F) {n:ByteArray} (hl:cZ n V=none) (hq:w.heap[qb]?=some (.cells #[.string n] 9 (0,0))):
  Calls Tryz.prog 64 #[.pointer (some ⟨p,0,none⟩),.slice (some ⟨qb,0,none⟩) 1 1] w fun e w'=>e= .returned (.int .i64 4)∧Grow w w':=by
 obtain ⟨hZ,h0,born,fs,h1,rfl,rfl⟩:=h;exact asG h1 (by rw [wk] at hl;simpa using hl) hq
theorem atO (h:Dk Z B w p r V F) {n:ByteArray} {b:List UInt8} (hl:cZ n V=some (b,s)) (hq:w.heap[qb]?=some (.cells #[.string n] 9 (0,0))):
  Calls Tryz.prog 64 #[.pointer (some ⟨p,0,none⟩),.slice (some ⟨qb,0,none⟩) 1 1] w fun e w'=>e= .returned (.int .i64 0)∧JY Z B w p r F w' (jY n V):=by
 have ht:=Oy h.names hl;obtain ⟨hZ,h0,born,fs,h1,rfl,rfl⟩:=h;rw [wk] at hl;obtain ⟨f,hf,rH⟩:=Option.map_eq_some_iff.1 hl;cases rH;refine (asH h1 hf hq (by have:=FU (sX hf).1 h0;omega) (by omega) (by omega)).mono ?_;rintro e w2 ⟨rfl,bH,hd,hs,hv⟩;refine ⟨rfl,_,⟨hZ,by omega,born,bH,?_,hv,rfl⟩,hs⟩;have:((cR (jY n (vw fs)):Nat):Int)=(cR (vw fs):Int)-(f.b.length:Int):=by omega
 rw [this];exact hd
theorem atP (h:Dk Z B w p r V F) {n:ByteArray} (gq:m≠n) (hn:kC n) {b:List UInt8} (uR:cZ m V=some (b,s)) (lJ:cZ n V=some (b0,s0)):
  Calls Tryz.prog 153 #[.pointer (some ⟨p,0,none⟩),.string m,.string n] w fun e w'=>e= .returned (.int .i64 0)∧JY Z B w p r F w' (uL m n b s V):=by
 have ht:=adt h.names gq uR lJ;obtain ⟨hZ,h0,born,fs,h1,rfl,rfl⟩:=h;rw [wk] at uR lJ;obtain ⟨f,hf,rH⟩:=Option.map_eq_some_iff.1 uR;obtain ⟨g,hg,hgb⟩:=Option.map_eq_some_iff.1 lJ;cases rH;cases hgb;refine (asN h1 hf hg gq hn (by have:=FU (sX hg).1 h0;omega) (by omega) (by omega)).mono ?_;rintro e w2 ⟨rfl,bH,hd,hs,hv⟩;refine ⟨rfl,_,⟨hZ,by omega,born,bH,?_,hv,rfl⟩,hs⟩;have:((cR (uL m n f.b f.synced (vw fs)):Nat):Int)=(cR (vw fs):Int)-(g.b.length:Int):=by omega
 rw [this];exact hd
end
end Go.Proofs.YtoolkdapflaeeaaGreatDoor
namespace Go.Proofs.YtoolkdapflaeeaaGreatDoor
open Go.RowKit Go.Gl Go.aF
section
def mI (m n:ByteArray) (f:Fe) (c:Nat) (fs:List Fe):List Fe:=pN m fs++ [⟨n,c,f.fb,f.bv,f.b,f.synced⟩]
def yu (m n:ByteArray) (b:List UInt8) (s:Nat) (V:Vw):Vw:=jY m V++ [(n,b,s)]
theorem atQ (m n:ByteArray) (f:Fe) (c:Nat) (fs:List Fe):vw (mI m n f c fs)=yu m n f.b f.synced (vw fs):=by
 unfold mI yu;rw [←Ud];simp [vw]
theorem atS (m n:ByteArray) (f:Fe) (c:Nat) (fs:List Fe) (gq:m≠n):(mI m n f c fs).map Fe.ay=((fs.map Fe.ay)++ [(⟨n,.pointer (some ⟨f.fb,0,none⟩),c⟩:aG ByteArray)]).filter (fun e=>decide (m≠e.key)):=by
 unfold mI;rw [dD,acM,List.filter_append];congr 1;rw [List.filter_cons_of_pos (by simpa using gq),List.filter_nil];rfl
section
variable {B:Nat} {w:World} {p r:Nat} {size used born:Int} {fs:List Fe}
theorem bU.atT (h:bU B w p r size used born fs) {n:ByteArray} {f:Fe} (hf:f∈fs) (kD:f.name=m) (jy:∀ g∈fs,n≠g.name) (hm:MapAt w r Value.string (fs.map Fe.ay) c) (hc:∀ f∈fs,f.born<c):
  bU B (cV w r (.map (((mI m n f c fs).map Fe.ay).map (aG.raw Value.string)).toArray (c+1))) p r size used born (mI m n f c fs)∧
  Sep (dt p r fs) w (cV w r (.map (((mI m n f c fs).map Fe.ay).map (aG.raw Value.string)).toArray (c+1))) (dt p r (mI m n f c fs)):=by
 have ng:=af hm;generalize hw2:cV w r (.map (((mI m n f c fs).map Fe.ay).map (aG.raw Value.string)).toArray (c+1))=w2;have ho:∀ b,b≠r→w2.heap[b]?=w.heap[b]?:=fun b hbr=>by rw [←hw2,xW hbr]
 have hr2:MapAt w2 r Value.string ((mI m n f c fs).map Fe.ay) (c+1):=by
  rw [←hw2];unfold MapAt;rw [xV ng]
 have hsz:w2.heap.size=w.heap.size:=by rw [←hw2];simp [cV]
 have cK:∀ g∈pN m fs,g∈fs∧g.name≠m:=fun g hg=>by
  obtain ⟨h1,h2⟩:=List.mem_filter.1 hg;exact ⟨h1,fun e=>by simp [e] at h2⟩
 have iP:∀ g∈mI m n f c fs,∃ g0∈fs,g.fb=g0.fb∧g.bv=g0.bv∧g.b=g0.b∧g.synced=g0.synced:=by
  intro g hg;rcases cU.1 hg with h1|h1
  ·exact ⟨g,(cK g h1).1,rfl,rfl,rfl,rfl⟩
  ·obtain rfl:=cY.1 h1
   exact ⟨f,hf,rfl,rfl,rfl,rfl⟩
 refine ⟨⟨(ho p h.CF).trans h.self,⟨c+1,hr2,fun g hg=> ?_⟩,?_,?_,?_,?_,fun g hg=> ?_,h.base.1,h.base.2.1,by rw [hsz];exact h.base.2.2⟩,⟨by rw [←hw2];rfl,by rw [←hw2];rfl,by rw [←hw2];rfl,by omega,fun b _ hn=>ho b (fun e=>hn (.inr (.inl e))),?_⟩⟩
 ·rcases cU.1 hg with h1|h1
  ·have:=hc g (cK g h1).1;omega
  ·obtain rfl:=cY.1 h1;simp
 ·unfold mI
  rw [dD];refine List.nodup_append.2 ⟨h.names.sublist (List.filter_sublist.map _),by simp,fun a ha b hb=> ?_⟩;simp only [cg,List.map_nil,cY] at hb;subst hb;obtain ⟨g,hg,rfl⟩:=aZ.1 ha;exact Ne.symm (jy g (cK g hg).1)
 ·unfold mI
  rw [dD];refine List.nodup_append.2 ⟨h.sV.sublist (List.filter_sublist.map _),by simp,fun a ha b hb=> ?_⟩;simp only [cg,List.map_nil,cY] at hb;subst hb;obtain ⟨g,hg,rfl⟩:=aZ.1 ha;have:=hc g (cK g hg).1;omega
 ·unfold mI
  rw [dD];refine List.nodup_append.2 ⟨h.sW.sublist (List.filter_sublist.map _),by simp,fun a ha b hb=> ?_⟩;simp only [cg,List.map_nil,cY] at hb;subst hb;obtain ⟨g,hg,rfl⟩:=aZ.1 ha;intro e;have:=TZ h.sW (cK g hg).1 hf e;exact (cK g hg).2 (by rw [this,kD])
 ·intro a ha b hb x hx1 hx2
  rcases cU.1 ha with h1|h1
  ·rcases cU.1 hb with h2|h2
   ·exact h.rows a (cK a h1).1 b (cK b h2).1 x hx1 hx2
   ·obtain rfl:=cY.1 h2
    have:=h.rows a (cK a h1).1 f hf x hx1 hx2;exact absurd (this.trans kD) (cK a h1).2
  ·obtain rfl:=cY.1 h1
   rcases cU.1 hb with h2|h2
   ·have:=h.rows f hf b (cK b h2).1 x hx1 hx2
    exact absurd (this.symm.trans kD) (cK b h2).2
   ·obtain rfl:=cY.1 h2;rfl
 ·obtain ⟨g0,h0,e1,e2,e3,e4⟩:=iP g hg
  have bq:=h.files g0 h0;exact ⟨by rw [e1,e2,e4];exact (ho _ (h.zY h0).2).trans bq.cell,by rw [e2,e3];exact bq.row.keep (fun b hb=>ho b (h.uJ h0 hb).2.1),by rw [e1];exact bq.base,by rw [e3,e4];exact bq.sync⟩
 ·rintro b (rfl|rfl|⟨g,hg,hb⟩)
  ·exact .inl (.inl rfl)
  ·exact .inl (.inr (.inl rfl))
  ·obtain ⟨g0,h0,e1,e2,_,_⟩:=iP g hg
   rw [e1,e2] at hb;exact .inl (.inr (.inr ⟨g0,h0,hb⟩))
end
theorem atU {B:Nat} {w:World} {p r:Nat} {size used born:Int} {fs:List Fe} (h:bU B w p r size used born fs) {n:ByteArray} {f:Fe} (fQ:fileOf m fs=some f) (hgo:fileOf n fs=none) (gq:m≠n) (hn:kC n):
  Calls Tryz.prog 153 #[.pointer (some ⟨p,0,none⟩),.string m,.string n] w fun e w'=>e= .returned (.int .i64 0)∧∃ bH,bU B w' p r size used born bH∧Sep (dt p r fs) w w' (dt p r bH)∧vw bH=yu m n f.b f.synced (vw fs):=by
 obtain ⟨hm,kD⟩:=sX fQ;have jy:=CE hgo;have asO:(Instr.lookup 123 (.map (some r)) (.string m) false).run Tryz.prog w= .ok (.pointer (some ⟨f.fb,0,none⟩)) w:=by
  have:=h.lookup m;simpa only [nP,fQ] using this
 have asP:(Instr.lookup 123 (.map (some r)) (.string n) false).run Tryz.prog w= .ok (.pointer none) w:=by
  have:=h.lookup n;simpa only [nP,hgo] using this
 obtain ⟨c0,c1,c2,c3⟩:=h.cells;have lp:=af h.self;obtain ⟨ck,hmap,jH⟩:=h.map;have tk:((fs.map Fe.ay).map aG.key).Nodup:=by have:=h.names;rw [eX];exact this
 have Oq:=NU zW Tryz.underlying123 hmap n (.pointer (some ⟨f.fb,0,none⟩)) (fun e he=>by obtain ⟨g,hg,rfl⟩:=aZ.1 he;exact jy g hg);have JI:MapAt (cV w r (.map (((fs.map Fe.ay)++ [(⟨n,.pointer (some ⟨f.fb,0,none⟩),ck⟩:aG ByteArray)]).map (aG.raw Value.string)).toArray (ck+1))) r Value.string ((fs.map Fe.ay)++ [(⟨n,.pointer (some ⟨f.fb,0,none⟩),ck⟩:aG ByteArray)]) (ck+1):=by
  unfold MapAt;rw [xV (af hmap)]
 have JJ:(((fs.map Fe.ay)++ [(⟨n,.pointer (some ⟨f.fb,0,none⟩),ck⟩:aG ByteArray)]).map aG.key).Nodup:=by
  rw [dD];refine List.nodup_append.2 ⟨tk,by simp,fun a ha b hb=> ?_⟩;simp only [cg,List.map_nil,cY] at hb;subst hb;obtain ⟨e,he,rfl⟩:=aZ.1 ha;obtain ⟨g,hg,rfl⟩:=aZ.1 he;exact Ne.symm (jy g hg)
 have hdel:=NV (ty:=0) (kt':=9) zW Tryz.underlying123 JI JJ m;rw [←atS m n f ck fs gq] at hdel;obtain ⟨fZ,hs3⟩:=h.atT hm kD jy hmap jH;have CI:cV (cV w r (.map (((fs.map Fe.ay)++ [(⟨n,.pointer (some ⟨f.fb,0,none⟩),ck⟩:aG ByteArray)]).map (aG.raw Value.string)).toArray (ck+1))) r (.map (((mI m n f ck fs).map Fe.ay).map (aG.raw Value.string)).toArray (ck+1))=cV w r (.map (((mI m n f ck fs).map Fe.ay).map (aG.raw Value.string)).toArray (ck+1)):=by
  unfold cV;simp
 rw [CI] at hdel;have yj:(cV w r (.map (((fs.map Fe.ay)++ [(⟨n,.pointer (some ⟨f.fb,0,none⟩),ck⟩:aG ByteArray)]).map (aG.raw Value.string)).toArray (ck+1))).heap[p]?=w.heap[p]?:=xW h.CF;have lp3:=af (yj.trans h.self);have gP:Hid (∃ bH,bU B (cV w r (.map (((mI m n f ck fs).map Fe.ay).map (aG.raw Value.string)).toArray (ck+1))) p r size used born bH∧Sep (dt p r fs) w (cV w r (.map (((mI m n f ck fs).map Fe.ay).map (aG.raw Value.string)).toArray (ck+1))) (dt p r bH)∧vw bH=yu m n f.b f.synced (vw fs)):=ae ⟨_,fZ,hs3,atQ m n f ck fs⟩;generalize hw3:cV w r (.map (((fs.map Fe.ay)++ [(⟨n,.pointer (some ⟨f.fb,0,none⟩),ck⟩:aG ByteArray)]).map (aG.raw Value.string)).toArray (ck+1))=w3 at*;generalize hw4:cV w r (.map (((mI m n f ck fs).map Fe.ay).map (aG.raw Value.string)).toArray (ck+1))=w4 at*;have e3':w3.cell? ⟨p,3,none⟩=some (.map (some r)):=by simp [World.cell?,yj,h.self]
 clear hw3 hw4 fZ hs3 hmap jH h hm fQ hgo kD jy c0 c1 c2 tk JJ JI CI yj;have hne:(m==n)=false:=by
  cases hb:(m==n) with
  |false=>rfl
  |true=>exact absurd ((Go.MapKept.bytes_beq _ _).1 hb) gq
 have Ug:(m.toList==n.toList)=false:=by
  cases hb:(m.toList==n.toList) with
  |false=>rfl
  |true=>exact absurd (ByteArray.ext (by simpa [jd] using hb)) gq
 go_enter Tryz.func153,Tryz.ntmps153
 go_wp2_with ((with_reducible refine (FC hn _).mono ?_);rintro e w1 ⟨rfl,hw⟩;have hw':=hw.symm;subst hw';clear hw)
 go_ret;exact ⟨rfl,gP.out⟩
theorem atV {B:Nat} {w:World} {p r:Nat} {size used born:Int} {fs:List Fe} (h:bU B w p r size used born fs) {n:ByteArray} (hn:kC n) (hq:w.heap[qb]?=some (.cells #[pv] 49 (0,0))) (hx:Bv w pv x) (hu:0≤used) (hus:used≤1073741824) (ia:x.length≤1000000000000) (qH:size<used+x.length):
  Calls Tryz.prog 78 #[.pointer (some ⟨p,0,none⟩),.string n,.slice (some ⟨qb,0,none⟩) 1 1] w fun e w'=>e= .returned (.int .i64 5)∧Grow w w':=by
 obtain ⟨c0,c1,c2,c3⟩:=h.cells;have lp:=af h.self;have p0:w.cell? ⟨qb,0,none⟩=some pv:=by simp [World.cell?,hq]
 have lq:=af hq;obtain ⟨xa,xc,rfl⟩:=hx.slice;have Ua:decide (size<used+(x.length:Int))=true:=by simpa using qH
 have cp:IntKind.i64.wrap (used+(x.length:Int))=used+(x.length:Int):=aS _ (by omega);have hw2:IntKind.i64.wrap (0+(x.length:Int))=(x.length:Int):=by rw [Int.zero_add];exact aS _ (by omega)
 have hw3:IntKind.i64.wrap (x.length:Int)=(x.length:Int):=aS _ (by omega);have aQ:=Grow.cells (w:=w);clear h hx hq;go_enter Tryz.func78,Tryz.ntmps78
 go_wp2_with fail
 refine wp_loop_rounds 2 ?_;rw [rounds_succ]
 go_wp2_with fail
 rw [rounds_succ]
 go_wp2_with ((with_reducible refine (FC hn _).mono ?_);rintro e w1 ⟨rfl,hw⟩;have hw':=hw.symm;subst hw';clear hw)
 refine dz (fun W=>Below w.heap.size w W) [] (by kernel_rfl) (bK fun _ _ _ _ _ h=>h) (az _) ?_;simp only [cF]
 repeat ((first|(refine aA (v:= ?_) (by rfl) ?_ ?_;rotate_left;rintro W hW;go_simp;with_reducible rfl)|refine aB (by rfl) ?_);simp only [ai,List.set])
 refine bj ?_;go_wp2;go_ret;exact ⟨rfl,az w⟩
end
end Go.Proofs.YtoolkdapflaeeaaGreatDoor
namespace Go.Proofs.YtoolkdapflaeeaaGreatDoor
open Go.RowKit Go.Gl Go.aF Go.Sort
section
abbrev Lk:=ByteArray→Option (List UInt8×Nat)
def Lk.set (f:Lk) (n:ByteArray) (q:List UInt8×Nat):Lk:=fun m=>if m=n then some q else f m
def Lk.del (f:Lk) (n:ByteArray):Lk:=fun m=>if m=n then none else f m
def Lk.add (f:Lk) (n:ByteArray) (x:List UInt8):Lk:=f.set n (match f n with|none=>(x,0)|some q=>(q.1++x,q.2))
def gR (V:Vw):Lk:=fun n=>cZ n V
theorem rI (f:Lk) (n:ByteArray) (q:List UInt8×Nat):(f.set n q) n=some q:=if_pos rfl
theorem ik (f:Lk) {n:ByteArray} (h:m≠n) (q:List UInt8×Nat):(f.set n q) m=f m:=if_neg h
theorem adu (f:Lk) (n:ByteArray):(f.del n) n=none:=if_pos rfl
theorem adv (f:Lk) {n:ByteArray} (h:m≠n):(f.del n) m=f m:=if_neg h
theorem Oz (f:Lk) (n:ByteArray) (q q':List UInt8×Nat):(f.set n q).set n q'=f.set n q':=by
 funext m;by_cases h:m=n<;>simp [Lk.set,h]
theorem adw (f:Lk) (n:ByteArray) (q:List UInt8×Nat):(f.set n q).del n=f.del n:=by
 funext m;by_cases h:m=n<;>simp [Lk.set,Lk.del,h]
theorem atW (f:Lk) (n:ByteArray) (q:List UInt8×Nat):(f.del n).set n q=f.set n q:=by
 funext m;by_cases h:m=n<;>simp [Lk.set,Lk.del,h]
theorem UC {f:Lk} {n:ByteArray} (h:f n=none):f.del n=f:=by
 funext m;by_cases h1:m=n
 ·subst h1;simp [Lk.del,h]
 ·simp [Lk.del,h1]
theorem atX (f:Lk) {n:ByteArray} (h:m≠n) (a b:List UInt8×Nat):(f.set m a).set n b=(f.set n b).set m a:=by
 funext k;by_cases h1:k=n
 ·subst h1;simp [Lk.set,Ne.symm h]
 ·simp [Lk.set,h1]
theorem adx {f:Lk} {n:ByteArray} {q:List UInt8×Nat} (h:f n=some q):f.set n q=f:=by
 funext k;unfold Lk.set;split
 ·rename_i e;rw [e,h]
 ·rfl
theorem UD (n:ByteArray) (x:List UInt8):∀ (V:Vw) (m:ByteArray),cZ m (V.map (fun e=>if e.1=n then (e.1,e.2.1++x,e.2.2) else e))=if m=n then (cZ n V).map (fun q=>(q.1++x,q.2)) else cZ m V
 | [],m=>by simp [cZ]
 |e::V,m=>by
  rw [cg];by_cases h2:e.1=n
  ·rw [if_pos h2,fJ,UD n x V m,fJ,fJ]
   by_cases h1:m=n<;>simp [h1,h2]
  ·rw [if_neg h2,fJ,UD n x V m,fJ,fJ]
   by_cases h1:m=n
   ·subst h1;simp [Ne.symm h2]
   ·simp [h1]
theorem atY (n:ByteArray) (x:List UInt8) (V:Vw):gR (sZ n x V)=(gR V).add n x:=by
 funext m
 unfold sZ gR Lk.add Lk.set;rw [adr];cases h:cZ n V with
 |none=>
  simp only [Option.isSome_none,Bool.false_eq_true,if_false];by_cases h1:m=n
  ·subst h1;rw [if_pos rfl,Uz h];simp [h]
  ·rw [if_neg h1,UA h1]
 |some q=>
  simp only [Option.isSome_some,if_true];rw [UD,h];rfl
theorem ady (n:ByteArray):∀ (V:Vw) (m:ByteArray),cZ m (tj n V)=if m=n then (cZ n V).map (fun q=>(q.1,q.1.length)) else cZ m V
 | [],m=>by simp [cZ,tj]
 |e::V,m=>by
  have ih:=ady n V m;unfold tj at ih ⊢;rw [cg];by_cases h2:e.1=n
  ·rw [if_pos h2,fJ,ih,fJ,fJ]
   by_cases h1:m=n<;>simp [h1,h2]
  ·rw [if_neg h2,fJ,ih,fJ,fJ]
   by_cases h1:m=n
   ·subst h1;simp [Ne.symm h2]
   ·simp [h1]
theorem atZ {n:ByteArray} {V:Vw} {q:List UInt8×Nat} (h:gR V n=some q):gR (tj n V)=(gR V).set n (q.1,q.1.length):=by
 funext m
 unfold gR at h;unfold gR Lk.set;rw [ady,h];rfl
theorem FV (n:ByteArray):∀ (V:Vw) (m:ByteArray),cZ m (jY n V)=if m=n then none else cZ m V
 | [],m=>by simp [cZ,jY]
 |e::V,m=>by
  have ih:=FV n V m;unfold jY at ih ⊢;by_cases h2:n=e.1
  ·rw [List.filter_cons_of_neg (by simpa using h2),ih,fJ]
   by_cases h1:m=n
   ·rw [if_pos h1,if_pos h1]
   ·rw [if_neg h1,if_neg h1,if_neg (fun e'=>h1 (e'.trans h2.symm))]
  ·rw [List.filter_cons_of_pos (by simpa using h2),fJ,ih,fJ]
   by_cases h1:m=n
   ·rw [if_pos h1,if_pos h1,if_neg (fun e'=>h2 (h1.symm.trans e'))]
   ·rw [if_neg h1,if_neg h1]
theorem aua (n:ByteArray) (V:Vw):gR (jY n V)=(gR V).del n:=by
 funext m;unfold gR Lk.del;exact FV n V m
theorem UE (n:ByteArray) (q:List UInt8×Nat):∀ (V:Vw) (m:ByteArray),cZ m (V.map (fun e=>if e.1=n then (e.1,q) else e))=if m=n then (cZ n V).map (fun _=>q) else cZ m V
 | [],m=>by simp [cZ]
 |e::V,m=>by
  rw [cg];by_cases h2:e.1=n
  ·rw [if_pos h2,fJ,UE n q V m,fJ,fJ]
   by_cases h1:m=n<;>simp [h1,h2]
  ·rw [if_neg h2,fJ,UE n q V m,fJ,fJ]
   by_cases h1:m=n
   ·subst h1;simp [Ne.symm h2]
   ·simp [h1]
theorem aub {n:ByteArray} (gq:m≠n) {V:Vw} {q:List UInt8×Nat} (hn:gR V n=some q) (b:List UInt8) (s:Nat):gR (uL m n b s V)=((gR V).del m).set n (b,s):=by
 funext k
 unfold gR at hn;unfold uL gR Lk.set Lk.del;rw [UE n (b,s),FV,FV,if_neg (Ne.symm gq),hn];rfl
theorem auc {n:ByteArray} (gq:m≠n) {V:Vw} (hn:gR V n=none) (b:List UInt8) (s:Nat):gR (yu m n b s V)=((gR V).del m).set n (b,s):=by
 funext k
 unfold gR at hn;unfold yu gR Lk.set Lk.del;have hd:cZ n (jY m V)=none:=by rw [FV,if_neg (Ne.symm gq),hn]
 by_cases h1:k=n
 ·subst h1;rw [if_pos rfl,Uz hd]
 ·rw [if_neg h1,UA h1,FV]
def Dl (Z B:Nat) (w:World) (p r:Nat) (f:Lk) (T K:Nat) (F:Nat→Prop):Prop:=∃ V,Dk Z B w p r V F∧gR V=f∧cR V=T∧V.length≤K
def oH (Z B:Nat) (w:World) (p r:Nat) (F:Nat→Prop) (w':World) (f:Lk) (T K:Nat):Prop:=∃ F',Dl Z B w' p r f T K F'∧Sep F w w' F'
variable {Z B:Nat} {w w':World} {p r:Nat} {f:Lk} {T K:Nat} {F:Nat→Prop}
theorem Dl.grow (h:Dl Z B w p r f T K F) (hg:Grow w w'):Dl Z B w' p r f T K F:=by
 obtain ⟨V,h1,h2,h3,h4⟩:=h;exact ⟨V,h1.grow hg,h2,h3,h4⟩
theorem Dl.base (h:Dl Z B w p r f T K F):B≤w.heap.size:=by obtain ⟨V,h1,_⟩:=h;exact h1.base
theorem Dl.foot (h:Dl Z B w p r f T K F) (hb:F b):B≤b∧b<w.heap.size:=by obtain ⟨V,h1,_⟩:=h;exact h1.foot hb
theorem Dl.apart (h:Dl Z B w p r f T K F) (hb:w.heap[b]?=some (.cells arr t fz)) (h1:t≠125) (h2:t≠165) (h3:t≠5):¬ F b:=by
 obtain ⟨V,h0,_⟩:=h;exact h0.apart hb h1 h2 h3
theorem Dl.total (h:Dl Z B w p r f T K F):T≤Z:=by obtain ⟨V,⟨_,h0,_⟩,_,h1,_⟩:=h;omega
theorem Dl.size (h:Dl Z B w p r f T K F):Z≤1073741824:=by obtain ⟨V,⟨h0,_⟩,_⟩:=h;exact h0
theorem Dl.more (h:Dl Z B w p r f T K F) (hK:K≤K'):Dl Z B w p r f T K' F:=by obtain ⟨V,h1,h2,h3,h4⟩:=h;exact ⟨V,h1,h2,h3,by omega⟩
theorem adz {n:ByteArray} {q:List UInt8×Nat}:∀ {V:Vw},cZ n V=some q→q.1.length≤cR V
 | [],h=>by simp [cZ] at h
 |e::V,h=>by
  rw [fJ] at h;rw [FR]
  split at h
  ·cases h;omega
  ·have:=adz h;omega
theorem Dl.len (h:Dl Z B w p r f T K F) {n:ByteArray} {q:List UInt8×Nat} (hn:f n=some q):q.1.length≤T:=by
 obtain ⟨V,_,h2,h3,_⟩:=h;rw [←h2] at hn;rw [←h3];exact adz hn
theorem JZ (h:Dl Z B w p r f T K F) (n:ByteArray):Calls Tryz.prog 34 #[.pointer (some ⟨p,0,none⟩),.string n] w fun e w'=>
  (match f n with
   |none=>e= .returned (.tuple #[.slice none 0 0,.int .i64 4])
   |some (b,_)=>∃ v,e= .returned (.tuple #[v,.int .i64 0])∧aI w.heap.size w' v b)∧Grow w w':=by
 obtain ⟨V,h1,rfl,h3,_⟩:=h;exact atJ h1 n
theorem adA (h:Dl Z B w p r f T K F) {n:ByteArray} (hn:kC n) (hq:w.heap[qb]?=some (.cells #[pv] 49 (0,0))) (hx:Bv w pv x) (hroom:T+x.length≤Z):
  Calls Tryz.prog 78 #[.pointer (some ⟨p,0,none⟩),.string n,.slice (some ⟨qb,0,none⟩) 1 1] w fun e w'=>e= .returned (.int .i64 0)∧oH Z B w p r F w' (f.add n x) (T+x.length) (K+1):=by
 obtain ⟨V,h1,rfl,rfl,h4⟩:=h;refine (atK h1 hn hq hx hroom).mono ?_;rintro e w2 ⟨he,F',hd,hs⟩;refine ⟨he,F',⟨_,hd,atY n x V,ads h1.names n x,?_⟩,hs⟩;unfold sZ
 split<;>simp<;>omega
theorem adB (h:Dl Z B w p r f T K F) {n:ByteArray} (hn:kC n) (hq:w.heap[qb]?=some (.cells #[pv] 49 (0,0))) (hx:Bv w pv x) (ia:x.length≤1000000000000) (qH:Z<T+x.length):
  Calls Tryz.prog 78 #[.pointer (some ⟨p,0,none⟩),.string n,.slice (some ⟨qb,0,none⟩) 1 1] w fun e w'=>e= .returned (.int .i64 5)∧Grow w w':=by
 obtain ⟨V,⟨hZ,h0,born,fs,hd,rfl,rfl⟩,rfl,rfl,h4⟩:=h;exact atV hd hn hq hx (by omega) (by omega) ia (by omega)
theorem Ka (h:Dl Z B w p r f T K F) {n:ByteArray} {q:List UInt8×Nat} (hl:f n=some q) (hq:w.heap[qb]?=some (.cells #[.string n] 9 (0,0))):
  Calls Tryz.prog 83 #[.pointer (some ⟨p,0,none⟩),.slice (some ⟨qb,0,none⟩) 1 1] w fun e w'=>e= .returned (.int .i64 0)∧oH Z B w p r F w' (f.set n (q.1,q.1.length)) T K:=by
 obtain ⟨V,h1,rfl,rfl,h4⟩:=h;refine (atM h1 hl hq).mono ?_;rintro e w2 ⟨he,F',hd,hs⟩;exact ⟨he,F',⟨_,hd,atZ hl,adq n V,by simpa [tj] using h4⟩,hs⟩
theorem adC (h:Dl Z B w p r f T K F) {n:ByteArray} (hl:f n=none) (hq:w.heap[qb]?=some (.cells #[.string n] 9 (0,0))):
  Calls Tryz.prog 64 #[.pointer (some ⟨p,0,none⟩),.slice (some ⟨qb,0,none⟩) 1 1] w fun e w'=>e= .returned (.int .i64 4)∧Grow w w':=by
 obtain ⟨V,h1,rfl,rfl,h4⟩:=h;exact atN h1 hl hq
theorem UF (h:Dl Z B w p r f T K F) {n:ByteArray} {q:List UInt8×Nat} (hl:f n=some q) (hq:w.heap[qb]?=some (.cells #[.string n] 9 (0,0))):
  Calls Tryz.prog 64 #[.pointer (some ⟨p,0,none⟩),.slice (some ⟨qb,0,none⟩) 1 1] w fun e w'=>e= .returned (.int .i64 0)∧oH Z B w p r F w' (f.del n) (T-q.1.length) K:=by
 obtain ⟨V,h1,rfl,rfl,h4⟩:=h;refine (atO h1 hl hq).mono ?_;rintro e w2 ⟨he,F',hd,hs⟩;have ht:=Oy h1.names hl;exact ⟨he,F',⟨_,hd,aua n V,by omega,aM (List.length_filter_le _ _) h4⟩,hs⟩
def kE (f:Lk) (n:ByteArray):Nat:=match f n with|none=>0|some q=>q.1.length
theorem aud (h:Dl Z B w p r f T K F) (n:ByteArray) (hq:w.heap[qb]?=some (.cells #[.string n] 9 (0,0))):
  Calls Tryz.prog 64 #[.pointer (some ⟨p,0,none⟩),.slice (some ⟨qb,0,none⟩) 1 1] w fun e w'=>(∃ c:Int,e= .returned (.int .i64 c))∧oH Z B w p r F w' (f.del n) (T-kE f n) K:=by
 cases hl:f n with
 |none=>
  refine (adC h hl hq).mono ?_;rintro e w2 ⟨he,hg⟩;exact ⟨⟨_,he⟩,F,by rw [UC hl,show kE f n=0 by unfold kE;rw [hl],Nat.sub_zero];exact h.grow hg,Sep.bT hg⟩
 |some q=>
  refine (UF h hl hq).mono ?_;rintro e w2 ⟨he,hd⟩;exact ⟨⟨_,he⟩,by rw [show kE f n=q.1.length by unfold kE;rw [hl]];exact hd⟩
theorem aue {V:Vw} (hV:nj V) {n:ByteArray} {b:List UInt8} (hm:cZ m V=some (b,s)):cR (yu m n b s V)=cR V:=by
 have:=Oy hV hm;unfold yu;have h2:cR (jY m V++ [(n,b,s)])=cR (jY m V)+b.length:=by simp [cR]
 omega
theorem auf (h:Dl Z B w p r f T K F) {n:ByteArray} (gq:m≠n) (hn:kC n) {q:List UInt8×Nat} (uR:f m=some q):
  Calls Tryz.prog 153 #[.pointer (some ⟨p,0,none⟩),.string m,.string n] w fun e w'=>e= .returned (.int .i64 0)∧oH Z B w p r F w' ((f.del m).set n q) (T-kE f n) (K+1):=by
 obtain ⟨V,h1,rfl,rfl,h4⟩:=h;obtain ⟨b,s⟩:=q;cases hl:gR V n with
 |some q0=>
  refine (atP h1 gq hn uR hl).mono ?_;rintro e w2 ⟨he,F',hd,hs⟩;have ht:=adt h1.names gq uR hl;have hk:kE (gR V) n=q0.1.length:=by unfold kE;rw [hl]
  refine ⟨he,F',⟨_,hd,aub gq hl b s,by omega,?_⟩,hs⟩;have:(jY m V).length≤V.length:=List.length_filter_le _ _;unfold uL;simp;omega
 |none=>
  have hN:=h1.names;obtain ⟨hZ,h0,born,fs,hd,rfl,rfl⟩:=h1;have aug:=uR;unfold gR at uR;rw [wk] at uR;obtain ⟨fe,UG,rH⟩:=Option.map_eq_some_iff.1 uR;cases rH;have hg:fileOf n fs=none:=by unfold gR at hl;rw [wk] at hl;simpa using hl
  have hk:kE (gR (vw fs)) n=0:=by unfold kE;rw [hl]
  refine (atU hd UG hg gq hn).mono ?_;rintro e w2 ⟨he,bH,ow,hs,hv⟩;have ht:=aue (n:=n) hN aug;refine ⟨he,_,⟨_,⟨hZ,by omega,born,bH,?_,hv,rfl⟩,auc gq hl _ _,by omega,?_⟩,hs⟩
  ·rw [ht];exact ow
  ·have:(jY m (vw fs)).length≤(vw fs).length:=List.length_filter_le _ _
   unfold yu;simp;omega
end
end Go.Proofs.YtoolkdapflaeeaaGreatDoor
namespace Go.Proofs.YtoolkdapflaeeaaGreatDoor
open Go.RowKit Go.Gl Go.aF
theorem aI.slice (h:aI B w v l):∃ a c,v= .slice a l.length c:=by
 have:=Row1.slice h;rw [jF] at this;exact this
theorem auh {a:Option Addr} {p:List UInt8} (h:Bv w (.slice a l.length l.length) l) (hp:Bv w pv p) (Ai:0<p.length) (hlen:l.length+p.length≤140737488355328):
  ∃ v' w',(Builtin.append_ #[49,49] 49 #[.slice a l.length l.length,pv]).run Tryz.prog w= .ok v' w'∧aI w.heap.size w' v' (l++p)∧Grow w w':=by
 obtain ⟨i,bO,hzz,hsz,dX⟩:=info_parts Tryz.Oc;have hs':Src Tryz.prog i.size 49 pv p.length (dE p) w:=by rw [hsz];exact hp.src
 have hold:(Builtin.firstCells i.size l.length (.slice a l.length l.length)).run Tryz.prog w.drew= .ok (dE l).toArray w.drew:=by rw [hsz];exact h.src.cellsD
 have hr:=run_append_grow_src w 49 49 49 5 i _ Tryz.underlying49 bO hzz a l.length l.length (dE l) hold pv p.length (dE p) hs' (by omega) (by omega) (by rw [dX];exact growslice_fits (by omega) (by simpa using hlen));have iM:=grownCap_ge w (l.length+p.length) l.length 5;have hcm:grownCap w (l.length+p.length) l.length 5≤maxLen:=grownCap_le_maxLen w (l.length+p.length) l.length 5 (by unfold maxLen;omega);refine ⟨_,_,hr,?_,⟨rfl,rfl,rfl,by simp,fun k hk=>heap_alloc_old w.drew _ hk⟩⟩;have e:dE l++dE p=dE (l++p):=(aca l p).symm;refine .inr ⟨w.heap.size,_,_,by rw [jF,aJ],aw _,ax w.drew _,by rw [jF,aJ];exact iM,?_,hcm,?_⟩
 ·have hz1:(Value.cells (.int .u8 0)).size=1:=rfl
  simp only [Array.size_append,List.size_toArray,size_zeroCells,hz1,aJ,jF];omega
 ·simp only [Array.toList_append]
  rw [e];exact List.take_left
def Ext (B:Nat) (w:World) (v:Value) (l:List UInt8):Prop:=aI B w v l∨∃ a,v= .slice a l.length l.length∧Bv w v l
theorem Ext.slice (h:Ext B w v l):∃ a c,v= .slice a l.length c:=by
 rcases h with h|⟨a,h,_⟩
 ·exact h.slice
 ·exact ⟨a,_,h⟩
theorem adD (h:Ext B w v l) (x:UInt8) {n:Int} (hx:n=(x.toNat:Int)) (hB:B≤w.heap.size) (hlen:l.length+1≤140737488355328):
  ∃ v' w',(Builtin.append_ #[49,49] 49 #[v,.slice (some ⟨w.heap.size,0,none⟩) 1 1]).run Tryz.prog (w.alloc (.cells #[.int .u8 n] 5))= .ok v' w'∧aI B w' v' (l++ [x])∧Below B w w':=by
 rcases h with h|⟨a,rfl,h⟩
 ·exact Jp h x hx hB hlen
 ·subst hx
  have hb:Bv (w.alloc (.cells #[.int .u8 x.toNat] 5)) (.slice (some ⟨w.heap.size,0,none⟩) 1 1) [x]:=by
   refine ⟨some ⟨w.heap.size,0,none⟩,1,rfl,aw _,by decide,(fun h=>by cases h),.inr ⟨w.heap.size,0,rfl,by simp,fun j k hk=> ?_⟩⟩
   match j,hk with
   |0,hk=>
    cases hk;simp only [World.cell?,ax];rfl
   |j+1,hk=>simp at hk
  have ah:Grow w (w.alloc (.cells #[.int .u8 x.toNat] 5)):=ar _ _;obtain ⟨v',w',h1,h2,h3⟩:=auh (h.grow ah) hb (by simp) (by simpa using hlen);exact ⟨v',w',h1,h2.mono (aM hB ah.size),(ah.trans h3).mono hB⟩
theorem aui (h:Bv w v l):Calls Tryz.prog 126 #[v] w fun e w'=>∃ a,e= .returned (.slice a l.length l.length)∧Bv w (.slice a l.length l.length) l∧w'=w:=by
 obtain ⟨a,c,rfl,h1,h2,h3,h4⟩:=h;have hb:Bv w (.slice a l.length l.length) l:=⟨a,l.length,rfl,aw _,aM h1 h2,fun e=>by have:=h3 e;omega,h4⟩
 have Hb:=ae hb;cases a with
 |none=>
  have:=h3 rfl;have hl:l= []:=iI (by omega);subst this hl;clear h1 h2 h3 h4 hb;go_enter Tryz.func126,Tryz.ntmps126;go_wp2;go_ret;exact ⟨none,rfl,Hb.out,rfl⟩
 |some x=>
  clear h2 h3 h4 hb;go_enter Tryz.func126,Tryz.ntmps126;go_wp2;go_ret;exact ⟨_,rfl,Hb.out,rfl⟩
def UH (w:World) (l:List UInt8) (n:Nat) (bv vv:Value) (wr:World):Prop:=
 ∃ (pre:List UInt8) (m k:Nat),vv= .int .u64 m∧Ext w.heap.size wr bv (l++pre)∧m<128^(k+1)∧pre.length+(k+1)=10∧aD n=pre++iw (k+1) m∧m<18446744073709551616∧Grow w wr
theorem oI (h:Bv w bv l) (hl:l.length≤1000000000000) (hn:n<18446744073709551616):
  Calls Tryz.prog 81 #[bv,.int .u64 n] w fun e w'=>∃ v,e= .returned v∧aI w.heap.size w' v (l++aD n)∧Grow w w':=by
 have Hc:=ae (aui h);obtain ⟨xa,xc,rfl⟩:=h.slice;clear h;go_enter Tryz.func81,Tryz.ntmps81
 go_wp2_with fail
 (with_reducible refine Hc.out.mono ?_);rintro e w1 ⟨ca,rfl,oB,cp⟩;have hw2:=cp.symm;subst hw2;clear cp Hc;have bJ:Hid (UH w l n (.slice ca l.length l.length) (.int .u64 n) w):=ae ⟨[],n,9,rfl,.inr ⟨ca,by simp,by simpa using oB⟩,by omega,rfl,rfl,hn,aV _⟩;clear oB
 go_wp2_with fail
 go_loopw [0,1] (fun bv vv wr=>UH w l n bv vv wr) (fun _ vv _=>(intOf vv).toNat)
 case atStart=>exact bJ.out
 case round=>
  obtain ⟨pre,m,k,rfl,hown,hm,hk,jf,acf,hg⟩:=hrel;have eT:=hg.size;have nk:(l++pre).length+1≤140737488355328:=by simp;omega
  obtain ⟨ba,bc,rfl⟩:=hown.slice;by_cases hlt:128≤m
  ·have iM:decide ((128:Int)≤(m:Int))=true:=by simp;omega
   have mY:0<k:=by
    rcases Nat.eq_zero_or_pos k with rfl|h1
    ·simp at hm;omega
    ·exact h1
   obtain ⟨k',rfl⟩:∃ k',k=k'+1:=⟨k-1,by omega⟩
   obtain ⟨v',w',h1,h2,h3⟩:=adD hown (UInt8.ofNat (m%128+128)) (acd m) eT nk;have cW:=ae h1;have hrel:UH w l n v' (.int .u64 ((m:Int) / 128)) w':=by
    refine ⟨pre++ [UInt8.ofNat (m%128+128)],m / 128,k',by simp,.inl (by rw [←ju];exact h2),?_,by simp;omega,?_,by omega,Below.trans hg h3⟩
    ·rw [Nat.pow_succ] at hm;exact Nat.div_lt_of_lt_mul (by rw [Nat.mul_comm];exact hm)
    ·rw [jf,iw,if_neg (by omega)];simp
   have aX:=ae hrel;clear h1 h2 h3 hrel hown jf hm hk hg eT nk
   go_wp2_with (at_builtin;refine fI rfl rfl rfl rfl cW.out ?_)
   go_roundw
   case rel=>exact aX.out
   case measure=>simp [intOf];omega
  ·have iM:decide ((128:Int)≤(m:Int))=false:=by simp;omega
   have hx:(m:Int)=(((UInt8.ofNat m).toNat:Nat):Int):=by rw [UInt8.toNat_ofNat_of_lt' (by simp [UInt8.size];omega)]
   obtain ⟨v',w',h1,h2,h3⟩:=adD hown (UInt8.ofNat m) hx eT nk;have cW:=ae h1;have jS:aI w.heap.size w' v' (l++aD n):=by
    rw [jf,iw,if_pos (by omega),←ju];exact h2
   have gP:=ae jS;have Hg:=ae (Below.trans hg h3);clear h1 h2 h3 hown jf hm hk hg jS hx eT nk
   go_wp2_with (at_builtin;refine fI rfl rfl rfl rfl cW.out ?_)
   go_ret;exact ⟨_,rfl,gP.out,Hg.out⟩
def aW (x:List UInt8):List UInt8:=aD x.length++x
theorem auj (hq:w.heap[qb]?=some (.cells #[pv] 49 (0,0))) (hx:Bv w pv x) (hl:x.length≤1000000000000):
  Calls Tryz.prog 127 #[.slice (some ⟨qb,0,none⟩) 1 1] w fun e w'=>e= .returned (.int .i64 x.length)∧w'=w:=by
 have c0:w.cell? ⟨qb,0,none⟩=some pv:=by simp [World.cell?,hq]
 have lq:=af hq;obtain ⟨xa,xc,rfl⟩:=hx.slice;have hw:IntKind.i64.wrap (0+(x.length:Int))=(x.length:Int):=by rw [Int.zero_add];exact aS _ (by omega)
 have cp:IntKind.i64.wrap (x.length:Int)=(x.length:Int):=aS _ (by omega);clear hx hq;go_enter Tryz.func127,Tryz.ntmps127
 go_wp2_with fail
 refine wp_loop_rounds 2 ?_;rw [rounds_succ];go_wp2;rw [rounds_succ];go_wp2;go_ret;exact ⟨rfl,rfl⟩
theorem CN (h:Bv w bv l) (hl:l.length≤900000000000) (hq:w.heap[qb]?=some (.cells #[pv] 49 (0,0))) (hx:Bv w pv x) (ia:x.length≤10000000000):
  Calls Tryz.prog 82 #[bv,.slice (some ⟨qb,0,none⟩) 1 1] w fun e w'=>∃ v,e= .returned v∧aI w.heap.size w' v (l++aW x)∧Grow w w':=by
 have Hs:=ae (auj hq hx (by omega));have Hn:=ae (oI h (by omega) (n:=x.length) (by omega));obtain ⟨ba,bc,rfl⟩:=h.slice;have Hq:=ae hq;have Hx:=ae hx;have hwu:IntKind.u64.wrap (x.length:Int)=(x.length:Int):=by simp [IntKind.wrap,IntKind.bits,IntKind.signed];omega
 clear h hq hx;go_enter Tryz.func82,Tryz.ntmps82
 go_wp2_with fail
 (with_reducible refine Hs.out.mono ?_);rintro e w1 ⟨rfl,cp⟩;have hw2:=cp.symm;subst hw2;clear cp Hs
 go_wp2_with fail
 (with_reducible refine Hn.out.mono ?_);rintro e w2 ⟨nv,rfl,fY,hb2⟩;have iV:=hb2.heap Hq.out;have hx2:=Hx.out.grow hb2;obtain ⟨v',w',h1,h2,h3,_⟩:=rB fY hx2 hb2.size (by have:=Jn 10 x.length;simp;unfold aD;omega);have cW:=ae h1;have jS:aI w.heap.size w' v' (l++aW x):=by unfold aW;rw [←ju];exact h2
 have gP:=ae jS;have Hg:=ae (below_grown hb2 hb2.size fY h3);clear jS h2 h3;generalize l++aD x.length=y at*;have c0:w2.cell? ⟨qb,0,none⟩=some pv:=by simp [World.cell?,iV]
 have lq:=af iV;obtain ⟨na,nc,rfl⟩:=fY.slice;obtain ⟨xa,xc,rfl⟩:=hx2.slice;clear h1 fY hx2 iV Hn Hq Hx hb2
 go_wp2_with fail
 refine wp_loop_rounds 2 ?_;rw [rounds_succ]
 go_wp2_with (at_builtin;refine fI rfl rfl rfl rfl cW.out ?_)
 rw [rounds_succ];go_wp2;go_ret;exact ⟨_,rfl,gP.out,Hg.out⟩
theorem CO (h:Bv w v l):(convert 49 9 v).run Tryz.prog w= .ok (.string ⟨l.toArray⟩) w:=by
 obtain ⟨a,c,rfl,_,_,_,h⟩:=h;by_cases h0:l= []
 ·subst h0
  rw [iK,run_convert_bytes_string w 49 9 5 a 0 c Tryz.underlying49 Tryz.underlying5 Tryz.underlying9];cases a<;>simp [Conv.bytesToString,loadCells,loadCellsFrom]<;>rfl
 ·rcases h with h|⟨b,o,rfl,hb,hc⟩
  ·exact absurd h h0
  ·exact aqQ Tryz.underlying49 Tryz.underlying5 Tryz.underlying9 (.inr ⟨b,o,c,rfl,hb,hc⟩)
theorem Aj (s:ByteArray) (hs:s.size≤140737488355328) (w:World):∃ cap w',(convert 9 49 (.string s)).run Tryz.prog w= .ok (.slice (some ⟨w.heap.size,0,none⟩) s.size cap) w'∧Bv w' (.slice (some ⟨w.heap.size,0,none⟩) s.size cap) s.data.toList∧Grow w w':=by
 have hr:=Lib.run_convert_string_bytes (P:=Tryz.prog) w 9 49 5 s Tryz.underlying9 Tryz.underlying49 Tryz.underlying5;have iM:=grownCap_ge w s.size 0 5;have mC:grownCap w s.size 0 5≤maxLen:=grownCap_le_maxLen w s.size 0 5 (by unfold maxLen;omega);have hgrow:=Lib.bytesWorld_below w 5 s;have hblk:(Lib.bytesWorld w 5 s).heap[w.heap.size]?=some (.cells (Lib.bytesCells w 5 s) 5 ((Lib.bytesCells w 5 s).size,(Lib.bytesCells w 5 s).size+1)):=by
  simp [Lib.bytesWorld,World.freeze,World.alloc,World.drew,-World.alloc_eq,-World.drew_eq,Array.getElem_modify]
 have nU:s.data.toList.length=s.size:=by rw [gO];rfl
 have eG:(Lib.bytesCells w 5 s).toList.take s.size=dE s.data.toList:=by
  unfold Lib.bytesCells;rw [Array.toList_append,Array.toList_map];have hl:(s.data.toList.map fun b=>Value.int .u8 b.toNat).length=s.size:=by rw [bF,gO];rfl
  rw [←hl,List.take_left];rfl
 refine ⟨_,_,hr,?_,hgrow⟩;refine ⟨some ⟨w.heap.size,0,none⟩,_,by rw [nU],by rw [nU];exact iM,mC,(fun h=>by cases h),.inr ⟨w.heap.size,0,rfl,af hblk,fun j k hk=> ?_⟩⟩;have h1:(dE s.data.toList)[j]?=some (.int .u8 k.toNat):=by simp [dE,hk]
 rw [←eG,List.getElem?_take] at h1
 split at h1
 ·simp only [World.cell?,hblk]
  simpa using h1
 ·cases h1
end Go.Proofs.YtoolkdapflaeeaaGreatDoor
