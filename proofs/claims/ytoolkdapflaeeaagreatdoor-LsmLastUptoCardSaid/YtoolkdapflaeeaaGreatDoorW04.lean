/- Helpers. -/
import Derived.Test.YtoolkdapflaeeaaGreatDoorW03
import Derived.Shelf.Strconv.Itoa3
import Derived.Shelf.Strconv.Atoi
import Derived.Shelf.Strings.Prefix
import Derived.Lib.AtoiErrMem
set_option maxRecDepth 100000
set_option maxHeartbeats 16000000
namespace Go.Proofs.YtoolkdapflaeeaaGreatDoor
open Go.RowKit Go.Gl Go.aH Go.Sort
def BC (fs:List Fe):List (List UInt8):=(pick (fun _=>true) (fs.map Fe.az)).mergeSort (fun x y=>decide (x≤y))
theorem apK {fs:List Fe} {n:List UInt8} (h:n∈BC fs):(⟨n.toArray⟩:ByteArray)∈(vw fs).map (·.1):=by
 have h1:=(List.mergeSort_perm _ _).mem_iff.1 h;unfold pick at h1;obtain ⟨e,he,rfl⟩:=List.mem_map.1 h1;obtain ⟨f,hf,rfl⟩:=List.mem_map.1 (List.mem_filter.1 he).1;simp only [vw,List.map_map,List.mem_map,Function.comp];exact ⟨f,hf,by simp [Fe.az]⟩
theorem apL {B:Nat} {w:World} {p r:Nat} {size born:Int} {fs:List Fe} (h:bM B w p r size (cG (vw fs)) born fs) (hroom:cG (vw fs)≤1073741824) (kY:fs.length<1000000000)
  {pv:Value} {picks:List Int} (hp:Iv w pv picks) (nZ:picks≠ []→Sx (cN p r fs) pv):
  Calls Tryz.prog 38 #[.pointer (some ⟨p,0,none⟩),pv] w fun e w'=>e= .returned (.tuple #[])∧∃ br,bM B w' p r size (cG (vw br)) born br∧Sep (cN p r fs) w w' (cN p r br)∧vw br=yU picks 0 (BC fs) (vw fs):=by
 have aaH:=apB h kY;obtain ⟨pa,pc,mY,wK,_⟩:=id hp;subst mY;have H:=ae h;have Hp:=ae hp;have MH:=ae nZ;have apM:=ae aaH;clear h hp nZ aaH;go_enter Tryz.func38,Tryz.ntmps38
 go_wp2_with fail
 (with_reducible refine apM.out.mono ?_);rintro e w1 ⟨nv,rfl,hrow,hg1⟩;have mW:(BC fs).length=(pick (fun _=>true) (fs.map Fe.az)).length:=List.length_mergeSort _;have hrow':w1.ownsRow w.heap.size 9 1 nv (BC fs).length ((BC fs).map encStr):=by rw [mW];exact hrow
 have cO:∀ n∈BC fs,(⟨n.toArray⟩:ByteArray)∈(vw fs).map (·.1):=fun n hn=>apK hn
 generalize aaI:BC fs=ns at*;have Eh:=ae aaI;clear aaI;have h1:=H.out.grow hg1;rcases hrow'.2 with ⟨rfl,gD⟩|⟨gN,cap,cur,rfl,iK,yV,BD,hcm,hcs,cC⟩
 ·have iT:ns= []:=jb gD
  subst iT;have cS:=ae h1;have dK:=ae hg1;clear h1 hg1 hrow hrow' mW cO gD
  go_wp2_with fail
  refine wp_loop_rounds 1 ?_;rw [rounds_succ];go_wp2;go_end0;exact ⟨rfl,fs,cS.out,Sep.bF dK.out,by rw [Eh.out];rfl⟩
 ·have gG:∀ (i:Nat) (n:List UInt8),ns[i]?=some n→∀ W:World,W.heap[gN]?=some (.cells cur 9 (0,0))→W.cell? ⟨gN,i,none⟩=some (.string ⟨n.toArray⟩):=fun i n hi W hW=>by
   have h2:(ns.map encStr)[i]?=some (.string ⟨n.toArray⟩):=by simp [hi,encStr]
   rw [←cC,Nat.mul_one,List.getElem?_take] at h2
   split at h2
   ·have h3:cur[i]?=some (.string ⟨n.toArray⟩):=by simpa using h2
    simp [World.cell?,hW,h3]
   ·cases h2
  have hst:Sy B w p r size born (vw fs) (cN p r fs) picks ns gN cur (.int .i64 0) w1:=⟨0,fs,rfl,bk _,h1,rfl,rfl,Sep.bF hg1,yV,hroom⟩
  have bI:=ae hst;have Sz:=ae gG;have SA:=ae cO;have iB:ns.length<1000000000:=by
   have h2:(pick (fun _=>true) (fs.map Fe.az)).length≤(fs.map Fe.az).length:=by unfold pick;rw [List.length_map];exact List.length_filter_le _ _
   rw [List.length_map] at h2;omega
  clear h1 hg1 hrow hrow' hst yV BD hcm hcs cC iK mW gG cO
  go_wp2_with fail
  go_loopw [11] (fun iv wr=>Sy B w p r size born (vw fs) (cN p r fs) picks ns gN cur iv wr) (fun iv _=>ns.length-(intOf iv).toNat)
  case atStart=>exact bI.out
  case round=>
   obtain ⟨i,br,rfl,hi,hI⟩:=hrel;by_cases hlt:i<ns.length
   ·obtain ⟨n,hn⟩:∃ n,ns[i]?=some n:=⟨ns[i],by simp [hlt]⟩
    have yX:=Sz.out i n hn wr hI.row;have lgN:=af hI.row;obtain ⟨f,eN⟩:∃ f,fileOf ⟨n.toArray⟩ br=some f:=apI (by rw [hI.names];exact SA.out n (dY hn))
    obtain ⟨hm,hfn⟩:=rG eN;have hlk:(Instr.lookup 123 (.map (some r)) (.string ⟨n.toArray⟩) false).run Tryz.prog wr= .ok (.pointer (some ⟨f.fb,0,none⟩)) wr:=by
     have:=hI.aW.lookup ⟨n.toArray⟩;simpa only [mj,eN] using this
    obtain ⟨c0,c1,c2,c3⟩:=hI.aW.cells;have lp:=af hI.aW.self;have bh:=hI.aW.files f hm;obtain ⟨ba,bc,bg⟩:=bh.row.slice;rw [iL] at bg;have z0:wr.cell? ⟨f.fb,0,none⟩=some (.slice ba f.b.length bc):=by simp [World.cell?,bh.cell,bg]
    have z1:wr.cell? ⟨f.fb,1,none⟩=some (.int .i64 f.synced):=by simp [World.cell?,bh.cell]
    have aDA:f.b.length≤bc:=by
     have:=cy bh.row;rw [bg] at this;obtain ⟨_,_,he,h5,_⟩:=this;cases he;exact h5
    have lf:=af bh.cell;have qo:=bh.sync;have hbl:=aaG hm;have hrm:=hI.room;obtain ⟨kp,iA⟩:∃ kp,kp=uO picks i f.b.length f.synced:=⟨_,rfl⟩
    have eP:=aaF picks i qo;rw [←iA] at eP;have tD:Iv wr (.slice pa picks.length pc) picks:=Hp.out.sep hI.sep MH.out;have dJ:(i:Int)<(ns.length:Int):=by omega
    have bK:(0:Int)≤(i:Int):=by omega
    have eE:IntKind.i64.wrap ((i:Int)+1)=(i:Int)+1:=aR _ (by omega);have Ei:Hid (∀ W,Grow wr W→Sy B w p r size born (vw fs) (cN p r fs) picks ns gN cur (.int .i64 ((i:Int)+1)) (((W.setCell ⟨p,1,none⟩ (.int .i64 ((cG (vw br):Int)-((f.b.length:Int)-(kp:Int))))).setCell ⟨f.fb,0,none⟩ (.slice ba kp kp)).setCell ⟨f.fb,1,none⟩ (.int .i64 kp))):=ae (fun W hW=>by
     obtain ⟨hd,hs⟩:=apJ (hI.aW.grow hW) hm bg eP.2 ((cG (vw br):Int)-((f.b.length:Int)-(kp:Int)));have hv:=apD hI.aW.names hm (.slice ba kp kp) kp;have ht:=apE hI.aW.names hm eP.2;rw [←hv] at ht;have ku:=(hI.sep.trans (Sep.bF hW)).trans hs;refine ⟨i+1,jf f.name (.slice ba kp kp) (f.b.take kp) kp br,by simp,hlt,?_,?_,?_,ku,?_,by omega⟩
     ·have:((cG (vw (jf f.name (.slice ba kp kp) (f.b.take kp) kp br)):Nat):Int)=(cG (vw br):Int)-((f.b.length:Int)-(kp:Int)):=by omega
      rw [this];exact hd
     ·rw [hI.run]
      have hdr:ns.drop i=n::ns.drop (i+1):=by
       obtain ⟨h5,rfl⟩:=dQ.1 hn;exact List.drop_eq_getElem_cons h5
      rw [hdr,yU,uP,eN];simp only [Option.map_some];rw [←iA,hv,hfn]
     ·rw [hv,apG];exact hI.names
     ·have Br:=(hI.aW.grow hW).apart (hW.heap hI.row) (by decide) (by decide) (by decide)
      rw [hs.out gN (af (hW.heap hI.row)) Br];exact hW.heap hI.row)
    have ff:∀ W:World,Grow wr W→(∀ j,W.frozen? ⟨p,j,none⟩=false)∧(∀ j,W.frozen? ⟨f.fb,j,none⟩=false):=fun W hW=>⟨fun j=>by simp [World.frozen?,hW.heap hI.aW.self],fun j=>by simp [World.frozen?,hW.heap bh.cell]⟩
    have hfp:f.fb≠p:=(hI.aW.yN hm).1;have hpf:p≠f.fb:=Ne.symm hfp;have aDC:(f.fb=p)=False:=by simpa using hfp
    have aDD:(p=f.fb)=False:=by simpa using hpf
    clear hI bh bg hm eN hn;have aQ:=Grow.cells (w:=wr);have hgd:Grow wr wr.drew:=Grow.drew wr;by_cases SB:i<picks.length
    ·obtain ⟨k,hk⟩:∃ k,picks[i]?=some k:=⟨picks[i],by simp [SB]⟩
     obtain ⟨pb,po,rfl,lpb,ot⟩:∃ b o,pa=some ⟨b,o,none⟩∧b<wr.heap.size∧∀ (j:Nat) (k:Int),picks[j]?=some k→wr.cell? ⟨b,o+j,none⟩=some (.int .i64 k):=by
      obtain ⟨a',c',he,_,h5⟩:=tD;cases he;rcases h5 with h5|h5
      ·rw [h5] at SB;simp at SB
      ·exact h5
     have pk:=ot i k hk;have apO:(i:Int)<(picks.length:Int):=by omega
     by_cases jA:0≤k
     ·have e1:decide ((0:Int)≤k)=true:=by simpa using jA
      have tF:(kp:Int)=(f.synced:Int)+k%(((f.b.length-f.synced+1:Nat)):Int):=by
       rw [iA];unfold uO;rw [hk];simp only [if_pos jA];have:=Int.emod_nonneg k (b:=((f.b.length-f.synced+1:Nat):Int)) (by omega);omega
      clear ot hk tD iA
      go_upto_region 6 with fail
      have oq:IntKind.i64.wrap ((f.b.length:Int)-(f.synced:Int))=(f.b.length:Int)-(f.synced:Int):=aR _ (by omega);have IC:IntKind.i64.wrap ((f.b.length:Int)-(f.synced:Int)+1)=(f.b.length:Int)-(f.synced:Int)+1:=aR _ (by omega);have hnz:¬ ((f.b.length:Int)-(f.synced:Int)+1=0):=by omega
      refine bX (fun W=>Below wr.heap.size wr W) [(0,false),(1,false),(2,false),(3,false),(4,false),(5,false),(6,false),(7,false),(8,false),(9,false),(10,false),(11,false),(12,false),(13,false),(14,false),(15,false),(16,false),(17,false),(18,false)] (by kernel_rfl) (by kernel_rfl) (fun c a d v w h=>by cases d<;>exact h) (Grow.drew _) ?_;simp only [aP,nth]
      repeat (first|(refine aB (v:= ?_) (by rfl) ?_ ?_;rotate_left;(rintro W hW;go_simp;with_reducible rfl);simp only [ag,List.set])|(refine aC (by rfl) ?_;simp only [ag,List.set]))
      refine bm ?_;have h7:IntKind.i64.wrap ((f.synced:Int)+k.tmod ((f.b.length:Int)-(f.synced:Int)+1))=(kp:Int):=by
       rw [Int.tmod_eq_emod_of_nonneg jA,show ((f.b.length:Int)-(f.synced:Int)+1)=((f.b.length-f.synced+1:Nat):Int) by omega,←tF];exact aR _ (by omega)
      rw [h7];clear h7 tF
      go_upto_region 7 with fail
      have uQ:Grow wr wr.drew:=(Grow.drew wr)
      have bq:=ae (Ei.out (wr.drew).drew (uQ.trans (Grow.drew _)));have aaL:IntKind.i64.wrap ((f.b.length:Int)-(kp:Int))=(f.b.length:Int)-(kp:Int):=aR _ (by omega);have MI:IntKind.i64.wrap ((cG (vw br):Int)-((f.b.length:Int)-(kp:Int)))=(cG (vw br):Int)-((f.b.length:Int)-(kp:Int)):=aR _ (by omega);obtain ⟨ff1,ff2⟩:=ff wr (Grow.refl _);have hcb:kp≤bc:=by omega
      clear Ei ff uQ;refine sX (fun W=>Below wr.heap.size wr W) [(0,false),(1,false),(2,false),(3,false),(4,false),(5,false),(6,false),(7,false),(8,false),(9,false),(10,false),(11,false),(12,false),(13,false)] 14 (by kernel_rfl) (by kernel_rfl) (fun c a d v w h=>by cases d<;>exact h) ((Grow.drew wr).trans (Grow.drew _)) ?_;simp only [aP,nth]
      repeat (first|(refine aB (v:= ?_) (by rfl) ?_ ?_;rotate_left;(rintro W hW;go_simp;with_reducible rfl);simp only [ag,List.set])|(refine aC (by rfl) ?_;simp only [ag,List.set]))
      refine bm ?_;refine sY (by rfl) (fun K hK=> ?_);go_simp;refine hK _ _ ?_;clear hK K aQ
      try first|simp only [ag,List.set]|simp only [aD]
      go_wp2;go_roundw
      case rel=>exact bq.out
      case measure=>simp [intOf];omega
     ·have e1:decide ((0:Int)≤k)=false:=by simpa using jA
      have tF:kp=f.synced:=by rw [iA];unfold uO;rw [hk];simp only [if_neg jA]
      clear ot hk tD iA;subst tF
      go_upto_region 7 with fail
      have uQ:Grow wr wr:=(Grow.refl wr)
      have bq:=ae (Ei.out (wr).drew (uQ.trans (Grow.drew _)));have aaL:IntKind.i64.wrap ((f.b.length:Int)-(f.synced:Int))=(f.b.length:Int)-(f.synced:Int):=aR _ (by omega);have MI:IntKind.i64.wrap ((cG (vw br):Int)-((f.b.length:Int)-(f.synced:Int)))=(cG (vw br):Int)-((f.b.length:Int)-(f.synced:Int)):=aR _ (by omega);obtain ⟨ff1,ff2⟩:=ff wr uQ;have hcb:f.synced≤bc:=by omega
      clear Ei ff uQ;refine sX (fun W=>Below wr.heap.size wr W) [(0,false),(1,false),(2,false),(3,false),(4,false),(5,false),(6,false),(7,false),(8,false),(9,false),(10,false),(11,false),(12,false),(13,false)] 14 (by kernel_rfl) (by kernel_rfl) (fun c a d v w h=>by cases d<;>exact h) ((Grow.refl wr).trans (Grow.drew _)) ?_;simp only [aP,nth]
      repeat (first|(refine aB (v:= ?_) (by rfl) ?_ ?_;rotate_left;(rintro W hW;go_simp;with_reducible rfl);simp only [ag,List.set])|(refine aC (by rfl) ?_;simp only [ag,List.set]))
      refine bm ?_;refine sY (by rfl) (fun K hK=> ?_);go_simp;refine hK _ _ ?_;clear hK K aQ
      try first|simp only [ag,List.set]|simp only [aD]
      go_wp2;go_roundw
      case rel=>exact bq.out
      case measure=>simp [intOf];omega
    ·have tF:kp=f.synced:=by rw [iA];unfold uO;rw [List.getElem?_eq_none (by omega)]
     have apO:¬ (i:Int)<(picks.length:Int):=by omega
     clear tD iA;subst tF
     go_upto_region 7 with fail
     have uQ:Grow wr wr:=(Grow.refl wr)
     have bq:=ae (Ei.out (wr).drew (uQ.trans (Grow.drew _)));have aaL:IntKind.i64.wrap ((f.b.length:Int)-(f.synced:Int))=(f.b.length:Int)-(f.synced:Int):=aR _ (by omega);have MI:IntKind.i64.wrap ((cG (vw br):Int)-((f.b.length:Int)-(f.synced:Int)))=(cG (vw br):Int)-((f.b.length:Int)-(f.synced:Int)):=aR _ (by omega);obtain ⟨ff1,ff2⟩:=ff wr uQ;have hcb:f.synced≤bc:=by omega
     clear Ei ff uQ;refine sX (fun W=>Below wr.heap.size wr W) [(0,false),(1,false),(2,false),(3,false),(4,false),(5,false),(6,false),(7,false),(8,false),(9,false),(10,false),(11,false),(12,false),(13,false)] 14 (by kernel_rfl) (by kernel_rfl) (fun c a d v w h=>by cases d<;>exact h) ((Grow.refl wr).trans (Grow.drew _)) ?_;simp only [aP,nth]
     repeat (first|(refine aB (v:= ?_) (by rfl) ?_ ?_;rotate_left;(rintro W hW;go_simp;with_reducible rfl);simp only [ag,List.set])|(refine aC (by rfl) ?_;simp only [ag,List.set]))
     refine bm ?_;refine sY (by rfl) (fun K hK=> ?_);go_simp;refine hK _ _ ?_;clear hK K aQ
     try first|simp only [ag,List.set]|simp only [aD]
     go_wp2;go_roundw
     case rel=>exact bq.out
     case measure=>simp [intOf];omega
   ·obtain rfl:i=ns.length:=by omega
    have hv:=hI.run;rw [List.drop_length] at hv;have Hd:=ae hI.aW;have Hs:=ae hI.sep;have Hv:=ae hv;clear hI hv;go_wp2;go_end0;exact ⟨rfl,br,Hd.out,Hs.out,by rw [Eh.out,Hv.out];rfl⟩
def cI (N B:Nat) (w:World):Prop:=∀ n:Nat,n<N→∀ W:World,(∀ b,b<B→W.heap[b]?=w.heap[b]?)→Calls Tryz.prog 123 #[.int .i64 n] W fun e w'=>e= .returned (.string ⟨(Lib.decDigits n).toArray⟩)∧Grow W w'
theorem SC (B:Nat) (w:World):cI 100 B w:=fun n hn W _=>(Any.strconv_Itoa_small Tryz.itoa n hn W).mono (by rintro e w' ⟨rfl,rfl⟩;exact ⟨rfl,Grow.refl _⟩)
theorem cI.keep {N B:Nat} {w w':World} (h:cI N B w) (hk:∀ b,b<B→w'.heap[b]?=w.heap[b]?):cI N B w':=fun n hn W hW=>h n hn W (fun b hb=>(hW b hb).trans (hk b hb))
def eB (n:Nat):List UInt8:=List.replicate (6-(Lib.decDigits n).length) 48++Lib.decDigits n
theorem uR (x y:List UInt8):(⟨x.toArray⟩:ByteArray)++⟨y.toArray⟩=⟨(x++y).toArray⟩:=by
 apply ByteArray.ext;simp
def aaO (w:World) (n:Nat) (sv:Value) (wr:World):Prop:=∃ k:Nat,sv= .string ⟨(List.replicate k 48++Lib.decDigits n).toArray⟩∧(k=0∨k+(Lib.decDigits n).length≤6)∧Grow w wr
theorem Ej {n:Nat} (h:n<1000000):(Lib.decDigits n).length≤6:=by
 have h0:∀ m,(Lib.decDigits m).length=if m<10 then 1 else (Lib.decDigits (m / 10)).length+1:=fun m=>by
  rw [Lib.decDigits];split
  ·simp
  ·simp
 rw [h0];split;· omega
 rw [h0];split;· omega
 rw [h0];split;· omega
 rw [h0];split;· omega
 rw [h0];split;· omega
 rw [h0,if_pos (by omega)];decide
theorem cI.grow {N B:Nat} {w w':World} (h:cI N B w) (hg:Grow w w') (hB:B≤w.heap.size):cI N B w':=h.keep (fun b hb=>hg.block b (by omega))
theorem ID (n:Nat):∀ c∈Lib.decDigits n,48≤c.toNat∧c.toNat≤57:=by
 induction n using Nat.strongRecOn with
 |_ n ih=>
  rw [Lib.decDigits];split
  ·intro c hc
   rw [cY] at hc;subst hc;simp only [UInt8.toNat_ofNat'];omega
  ·intro c hc
   rcases List.mem_append.1 hc with h|h
   ·exact ih (n / 10) (by omega) c h
   ·rw [cY] at h
    subst h;simp only [UInt8.toNat_ofNat'];omega
theorem wL {n:Nat} (h:n<1000000):(eB n).length=6:=by
 have:=Ej h;simp [eB];omega
theorem IE {l:List UInt8} (h1:1≤l.length) (h2:l.length≤64) (h:∀ c∈l,yM c=true):jC ⟨l.toArray⟩:=by
 refine ⟨by simpa [ByteArray.size] using h1,by simpa [ByteArray.size] using h2,fun i hi=>h _ ?_⟩;have hi':i<l.length:=by simpa [ByteArray.size] using hi
 have:(⟨l.toArray⟩:ByteArray)[i]=l[i]:=rfl;rw [this];exact List.getElem_mem hi'
theorem SD {c:UInt8} (h:48≤c.toNat∧c.toNat≤57):yM c=true:=by simp [yM,h.1,h.2]
theorem apP (x y:List UInt8):∀ acc,Lib.decFrom acc (x++y)=(Lib.decFrom acc x).bind fun a=>Lib.decFrom a y:=by
 induction x with
 |nil=>intro acc;rfl
 |cons b r ih=>
  intro acc;simp only [List.cons_append,Lib.decFrom];cases Lib.digitVal b with
  |none=>rfl
  |some d=>simp only [ih];try rfl
theorem aaP {k:Nat} (h:k<10):Lib.digitVal (UInt8.ofNat (48+k))=some k:=by
 have:k=0∨k=1∨k=2∨k=3∨k=4∨k=5∨k=6∨k=7∨k=8∨k=9:=by omega
 rcases this with rfl|rfl|rfl|rfl|rfl|rfl|rfl|rfl|rfl|rfl<;>decide
theorem aaQ (n:Nat):Lib.decFrom 0 (Lib.decDigits n)=some n:=by
 induction n using Nat.strongRecOn with
 |_ n ih=>
  rw [Lib.decDigits];split
  ·rename_i h
   simp only [Lib.decFrom,aaP h];congr 1;omega
  ·rename_i h
   rw [apP,ih (n / 10) (by omega)];simp only [Option.bind_some,Lib.decFrom,aaP (Nat.mod_lt n (by omega:10>0))];congr 1;omega
theorem apQ (k:Nat) (l:List UInt8):Lib.decFrom 0 (List.replicate k 48++l)=Lib.decFrom 0 l:=by
 induction k with
 |zero=>rfl
 |succ k ih=>
  rw [List.replicate_succ,List.cons_append,Lib.decFrom,show Lib.digitVal 48=some 0 by decide];simpa using ih
theorem BF (n:Nat):Lib.decFrom 0 (eB n)=some n:=by rw [eB,apQ,aaQ]
theorem apR {n:Nat} (h:n<1000000):Lib.atoi (eB n)=some (n:Int):=by
 have hl:=wL h;have hd:=BF n;have hall:∀ c∈eB n,48≤c.toNat:=fun c hc=>by
  rcases List.mem_append.1 hc with hc|hc
  ·rw [(List.mem_replicate.1 hc).2];decide
  ·exact (ID n c hc).1
 cases hp:eB n with
 |nil=>rw [hp] at hl;cases hl
 |cons b r=>
  have hb:=hall b (by rw [hp];exact eQ ..);have h1:(b==45)=false:=by
   cases hx:b==45 with
   |false=>rfl
   |true=>rw [eq_of_beq hx] at hb;exact absurd hb (by decide)
  have h2:(b==43)=false:=by
   cases hx:b==43 with
   |false=>rfl
   |true=>rw [eq_of_beq hx] at hb;exact absurd hb (by decide)
  rw [hp] at hd;simp [Lib.atoi,h1,h2,Lib.decNat,hd]
theorem aaR {n:Nat} (h:n<1000000) (w:World):Calls Tryz.prog 90 #[.string ⟨(eB n).toArray⟩] w fun e w'=>e= .returned (.tuple #[.int .i64 n,.nilIface])∧Grow w w':=by
 have hl:=wL h;refine (Any.strconv_Atoi Tryz.atoi ⟨(eB n).toArray⟩ n (by simp [ByteArray.size,hl]) (by simpa using apR h) w).mono ?_;rintro e w' ⟨rfl,t,rfl⟩;exact ⟨rfl,Lib.bytesWorld_below w _ t⟩
theorem aaS (s p:ByteArray) (w:World):Calls Tryz.prog 91 #[.string s,.string p] w fun e w'=>e= .returned (.string ⟨(Lib.trimPrefix s.data.toList p.data.toList).toArray⟩)∧w'=w:=Any.strings_TrimPrefix Tryz.apo s p w
theorem apT (n:Nat):Lib.atoi (Lib.decDigits n)=some (n:Int):=by
 have hd:=aaQ n;have hall:=ID n;have hne:Lib.decDigits n≠ []:=by
  rw [Lib.decDigits];split<;>simp
 cases hp:Lib.decDigits n with
 |nil=>exact absurd hp hne
 |cons b r=>
  have hb:=(hall b (by rw [hp];exact eQ ..)).1;have h1:(b==45)=false:=by
   cases hx:b==45 with
   |false=>rfl
   |true=>rw [eq_of_beq hx] at hb;exact absurd hb (by decide)
  have h2:(b==43)=false:=by
   cases hx:b==43 with
   |false=>rfl
   |true=>rw [eq_of_beq hx] at hb;exact absurd hb (by decide)
  rw [hp] at hd;simp [Lib.atoi,h1,h2,Lib.decNat,hd]
theorem apU {n:Nat} (h:n<1000000) (w:World):Calls Tryz.prog 90 #[.string ⟨(Lib.decDigits n).toArray⟩] w fun e w'=>e= .returned (.tuple #[.int .i64 n,.nilIface])∧Grow w w':=by
 have hl:=Ej h;refine (Any.strconv_Atoi Tryz.atoi ⟨(Lib.decDigits n).toArray⟩ n (by simp [ByteArray.size];omega) (by simpa using apT n) w).mono ?_;rintro e w' ⟨rfl,t,rfl⟩;exact ⟨rfl,Lib.bytesWorld_below w _ t⟩
abbrev qp:List UInt8:= [109,97,110,105,102,101,115,116,45]
def cD (n:Nat):ByteArray:=⟨(qp++eB n).toArray⟩
abbrev rR:ByteArray:=⟨#[99,117,114,114,101,110,116]⟩
abbrev pg:ByteArray:=⟨#[99,117,114,114,101,110,116,46,116,109,112]⟩
def dF (n:Nat):ByteArray:=⟨(([116,45]:List UInt8)++eB n).toArray⟩
theorem apV {m n:Nat} (h:cD m=cD n):m=n:=by
 have h1:qp++eB m=qp++eB n:=by
  have:=congrArg (fun b:ByteArray=>b.data.toList) h;simpa [cD] using this
 have h2:eB m=eB n:=List.append_cancel_left h1;have h3:=BF m;rw [h2,BF n] at h3;cases h3;rfl
theorem apW:rR≠pg:=by decide
theorem SE (n:Nat):cD n≠rR:=by
 intro h;have:=congrArg (fun b:ByteArray=>b.data.toList) h;simp [cD] at this
theorem MJ (n:Nat):cD n≠pg:=by
 intro h;have:=congrArg (fun b:ByteArray=>b.data.toList) h;simp [cD] at this
theorem apX:jC rR:=IE (l:= [99,117,114,114,101,110,116]) (by decide) (by decide) (by decide)
theorem apY:jC pg:=IE (l:= [99,117,114,114,101,110,116,46,116,109,112]) (by decide) (by decide) (by decide)
theorem aaT {n:Nat} (h:n<1000000):jC (cD n):=by
 have hl:=wL h;refine IE (by simp) (by simp [hl]) ?_;intro c hc;rcases List.mem_append.1 hc with hc|hc
 ·exact (by decide:∀ c∈qp,yM c=true) c hc
 ·rcases List.mem_append.1 hc with hc|hc
  ·rw [(List.mem_replicate.1 hc).2];decide
  ·exact SD (ID n c hc)
theorem aaU {N B:Nat} {w:World} (h:cI N B w) {n:Nat} (hn:n<N) (h6:n<1000000):
  Calls Tryz.prog 73 #[.int .i64 n] w fun e w'=>e= .returned (.string ⟨(eB n).toArray⟩)∧Grow w w':=by
 have hd:=Ej h6;have Hi:=ae (h n hn w (fun _ _=>rfl));clear h;go_enter Tryz.func73,Tryz.ntmps73
 go_wp2_with fail
 (with_reducible refine Hi.out.mono ?_);rintro e w1 ⟨rfl,hg1⟩;have dK:=ae hg1;clear hg1
 go_wp2_with fail
 go_loopw [3] (fun sv wr=>aaO w n sv wr) (fun sv _=>6-(match sv with| .string s=>s.size|_=>0))
 case atStart=>exact ⟨0,by simp,.inl rfl,dK.out⟩
 case round=>
  obtain ⟨k,rfl,hk,hg⟩:=hrel;have Hg:=ae hg;clear hg;have hsz:(⟨(List.replicate k 48++Lib.decDigits n).toArray⟩:ByteArray).size=k+(Lib.decDigits n).length:=by simp [ByteArray.size]
  by_cases hlt:k+(Lib.decDigits n).length<6
  ·have e1:(k:Int)+((Lib.decDigits n).length:Int)<6:=by omega
   have e3:¬ 9223372036854775807<1+(k+(Lib.decDigits n).length):=by omega
   go_wp2;go_roundw
   case rel=>
    refine ⟨k+1,?_,.inr (by omega),Hg.out⟩;rw [show (⟨#[48]⟩:ByteArray)=⟨([48]:List UInt8).toArray⟩ from rfl,uR,List.replicate_succ];rfl
   case measure=>
    rw [show (⟨#[48]⟩:ByteArray)=⟨([48]:List UInt8).toArray⟩ from rfl,uR];simp only [ByteArray.size,List.size_toArray,List.length_append,List.length_replicate,List.length_cons,List.length_nil];omega
  ·have Ik:decide ((k:Int)+((Lib.decDigits n).length:Int)<6)=false:=by simp;omega
   have tG:k=6-(Lib.decDigits n).length:=by omega
   have SF:=ae tG;clear tG;go_wp2;go_ret;refine ⟨?_,Hg.out⟩;rw [eB,←SF.out];rfl
theorem IG {N B:Nat} {w:World} (h:cI N B w) {n:Nat} (hn:n<N) (h6:n<1000000):
  Calls Tryz.prog 92 #[.int .i64 n] w fun e w'=>e= .returned (.string (cD n))∧Grow w w':=by
 have Hi:=ae (aaU h hn h6);have hl:=wL h6;have e3:¬ 9223372036854775807<9+(eB n).length:=by omega
 clear h;go_enter Tryz.func92,Tryz.ntmps92
 go_wp2_with fail
 (with_reducible refine Hi.out.mono ?_);rintro e w1 ⟨rfl,hg1⟩;go_wp2;go_ret;exact ⟨by rw [show (⟨#[109,97,110,105,102,101,115,116,45]⟩:ByteArray)=⟨(qp:List UInt8).toArray⟩ from rfl,uR];rfl,hg1⟩
def lK (V:Vw):Prop:=(V.map (·.1)).Nodup
theorem lK.tail {e:ByteArray×List UInt8×Nat} {V:Vw} (h:lK (e::V)):lK V:=(List.nodup_cons.1 h).2
theorem lK.head {e:ByteArray×List UInt8×Nat} {V:Vw} (h:lK (e::V)):∀ g∈V,g.1≠e.1:=fun g hg he=>(List.nodup_cons.1 h).1 (List.mem_map.2 ⟨g,hg,he⟩)
theorem Ek (e:ByteArray×List UInt8×Nat) (V:Vw):cG (e::V)=e.2.1.length+cG V:=by simp [cG]
theorem eF (n:ByteArray) (e:ByteArray×List UInt8×Nat) (V:Vw):cH n (e::V)=if n=e.1 then some e.2 else cH n V:=by
 unfold cH;rw [List.find?_cons];by_cases h:n=e.1<;>simp [h]
theorem apZ {V:Vw} {n:ByteArray} (h:∀ g∈V,g.1≠n) (k:ByteArray×List UInt8×Nat→ByteArray×List UInt8×Nat):(V.map fun e=>if e.1=n then k e else e)=V:=by
 induction V with
 |nil=>rfl
 |cons e V ih=>rw [List.map_cons,if_neg (h e (eQ ..)),ih (fun g hg=>h g (gz _ hg))]
theorem aaV {V:Vw} (hV:lK V) {n:ByteArray} {b0:List UInt8} {s0:Nat} (h:cH n V=some (b0,s0)) (k:ByteArray×List UInt8×Nat→ByteArray×List UInt8×Nat):
  cG (V.map fun e=>if e.1=n then k e else e)+b0.length=cG V+(k (n,b0,s0)).2.1.length:=by
 induction V with
 |nil=>cases h
 |cons e V ih=>
  rw [eF] at h;rw [List.map_cons,Ek,Ek];by_cases hn:n=e.1
  ·rw [if_pos hn] at h
   have he:e=(n,b0,s0):=by obtain ⟨e1,e2⟩:=e;cases h;cases hn;rfl
   rw [if_pos hn.symm,apZ (fun g hg=>hn ▸ hV.head g hg)];subst he;simp only;omega
  ·rw [if_neg hn] at h
   rw [if_neg (fun x=>hn x.symm)];have:=ih hV.tail h;omega
theorem aaW (n:ByteArray) (V:Vw):cG (rO n V)=cG V:=by
 unfold cG rO;rw [List.map_map];congr 1;apply List.map_congr_left;intro e _;simp only [Function.comp]
 split<;>rfl
theorem aaX {n:ByteArray} {V:Vw}:V.any (fun e=>decide (e.1=n))=(cH n V).isSome:=by
 induction V with
 |nil=>rfl
 |cons e V ih=>
  rw [List.any_cons,eF,ih];by_cases h:n=e.1
  ·simp [h]
  ·have:¬ e.1=n:=fun x=>h x.symm
   simp [h,this]
theorem aaY {V:Vw} (hV:lK V) (n:ByteArray) (x:List UInt8):cG (rK n x V)=cG V+x.length:=by
 unfold rK;rw [aaX];cases h:cH n V with
 |none=>simp [cG]
 |some q=>
  obtain ⟨b0,s0⟩:=q;rw [if_pos (show (some (b0,s0)).isSome=true from rfl)];have:=aaV hV h (fun e=>(e.1,e.2.1++x,e.2.2));simp only [List.length_append] at this;omega
theorem MK {V:Vw} (hV:lK V) {n:ByteArray} {b0:List UInt8} {s0:Nat} (h:cH n V=some (b0,s0)):cG (jm n V)+b0.length=cG V:=by
 induction V with
 |nil=>cases h
 |cons e V ih=>
  rw [eF] at h;unfold jm;by_cases hn:n=e.1
  ·rw [if_pos hn] at h
   rw [List.filter_cons_of_neg (by simp [hn]),List.filter_eq_self.2 (fun g hg=>by have:=hV.head g hg;simp [hn];exact fun x=>this x.symm),Ek];obtain ⟨e1,e2⟩:=e;cases h;simp only;omega
  ·rw [if_neg hn] at h
   rw [List.filter_cons_of_pos (by simp [hn]),Ek,Ek];have:=ih hV.tail h;unfold jm at this;omega
theorem aqa {V:Vw} {m n:ByteArray} (h:m≠n):cH n (jm m V)=cH n V:=by
 induction V with
 |nil=>rfl
 |cons e V ih=>
  unfold jm at ih ⊢;by_cases hm:m=e.1
  ·rw [List.filter_cons_of_neg (by simp [hm]),ih,eF,if_neg (fun x=>h (hm.trans x.symm))]
  ·rw [List.filter_cons_of_pos (by simp [hm]),eF,eF,ih]
theorem aaZ {V:Vw} (hV:lK V) {m n:ByteArray} (eY:m≠n) {b b0:List UInt8} {s s0:Nat} (hm:cH m V=some (b,s)) (hn:cH n V=some (b0,s0)):cG (tB m n b s V)+b0.length=cG V:=by
 have h1:=MK hV hm;have hd:lK (jm m V):=List.Nodup.sublist (List.filter_sublist.map _) hV;have h2:=aaV hd ((aqa eY).trans hn) (fun e=>(e.1,b,s));unfold tB;simp only at h2;omega
def SG (n:ByteArray) (x:List UInt8) (V:Vw):Vw:=V.map fun e=>if e.1=n then (e.1,x,x.length) else e
theorem SH {n:ByteArray} {V:Vw} (h:cH n V=none) (q:List UInt8×Nat):cH n (V++ [(n,q)])=some q:=by
 induction V with
 |nil=>rw [List.nil_append,eF,if_pos rfl]
 |cons e V ih=>
  rw [eF] at h;by_cases hn:n=e.1
  ·rw [if_pos hn] at h;cases h
  ·rw [if_neg hn] at h
   rw [List.cons_append,eF,if_neg hn,ih h]
theorem SI {m n:ByteArray} (eY:n≠m) (V:Vw) (q:List UInt8×Nat):cH n (V++ [(m,q)])=cH n V:=by
 induction V with
 |nil=>rw [List.nil_append,eF,if_neg eY]
 |cons e V ih=>rw [List.cons_append,eF,eF,ih]
end Go.Proofs.YtoolkdapflaeeaaGreatDoor
namespace Go.Proofs.YtoolkdapflaeeaaGreatDoor
open Go.RowKit Go.Gl Go.aH Go.Sort
def Dk (Z B:Nat) (w:World) (p r:Nat) (V:Vw) (F:Nat→Prop):Prop:=Z≤1073741824∧cG V≤Z∧∃ (born:Int) (fs:List Fe),bM B w p r Z (cG V) born fs∧vw fs=V∧cN p r fs=F
def IH (Z B:Nat) (w:World) (p r:Nat) (F:Nat→Prop) (w':World) (V':Vw):Prop:=∃ F',Dk Z B w' p r V' F'∧Sep F w w' F'
variable {Z B:Nat} {w w':World} {p r:Nat} {V:Vw} {F:Nat→Prop}
theorem Dk.grow (h:Dk Z B w p r V F) (hg:Grow w w'):Dk Z B w' p r V F:=by
 obtain ⟨hZ,h0,born,fs,h1,h2,h3⟩:=h;exact ⟨hZ,h0,born,fs,h1.grow hg,h2,h3⟩
theorem SJ (fs:List Fe):(vw fs).map (·.1)=fs.map Fe.name:=by simp [vw,Function.comp]
theorem Dk.names (h:Dk Z B w p r V F):lK V:=by
 obtain ⟨hZ,h0,born,fs,h1,rfl,h3⟩:=h;unfold lK;rw [SJ];exact h1.names
theorem Dk.base (h:Dk Z B w p r V F):B≤w.heap.size:=by
 obtain ⟨hZ,h0,born,fs,h1,rfl,h3⟩:=h;exact h1.base.2.2
theorem Dk.foot (h:Dk Z B w p r V F) {b:Nat} (hb:F b):B≤b∧b<w.heap.size:=by
 obtain ⟨hZ,h0,born,fs,h1,rfl,rfl⟩:=h;exact h1.RY hb
theorem Dk.apart (h:Dk Z B w p r V F) {b:Nat} {arr:Array Value} {t:TypeId} {f:Nat×Nat} (hb:w.heap[b]?=some (.cells arr t f)) (h1:t≠125) (h2:t≠165) (h3:t≠5):¬ F b:=by
 obtain ⟨hZ,h0,born,fs,hd,rfl,rfl⟩:=h;exact hd.apart hb h1 h2 h3
theorem El {fs:List Fe} {f:Fe} (hf:f∈fs) {Z:Nat} (h:cG (vw fs)≤Z):f.b.length≤Z:=aN (aaG hf) h
theorem aqb (h:Dk Z B w p r V F) (n:ByteArray):Calls Tryz.prog 34 #[.pointer (some ⟨p,0,none⟩),.string n] w fun e w'=>
  (match cH n V with
   |none=>e= .returned (.tuple #[.slice none 0 0,.int .i64 4])
   |some (b,_)=>∃ v,e= .returned (.tuple #[v,.int .i64 0])∧aG w.heap.size w' v b)∧Grow w w':=by
 obtain ⟨hZ,h0,born,fs,h1,rfl,rfl⟩:=h;refine (aan h1 n (fun f hf=>by have:=El hf h0;omega)).mono ?_;rintro e w2 ⟨hm,hg⟩;refine ⟨?_,hg⟩;rw [uP];cases hf:fileOf n fs with
 |none=>rw [hf] at hm;exact hm
 |some f=>rw [hf] at hm;exact hm
theorem aqc (h:Dk Z B w p r V F) {n:ByteArray} (hn:jC n) {qb:Nat} {pv:Value} {x:List UInt8} (hq:w.heap[qb]?=some (.cells #[pv] 49 (0,0))) (hx:Bv w pv x) (hroom:cG V+x.length≤Z):
  Calls Tryz.prog 78 #[.pointer (some ⟨p,0,none⟩),.string n,.slice (some ⟨qb,0,none⟩) 1 1] w fun e w'=>e= .returned (.int .i64 0)∧IH Z B w p r F w' (rK n x V):=by
 have hN:=h.names;obtain ⟨hZ,h0,born,fs,h1,rfl,rfl⟩:=h;have key:Calls Tryz.prog 78 #[.pointer (some ⟨p,0,none⟩),.string n,.slice (some ⟨qb,0,none⟩) 1 1] w (Ib B w p r Z (cG (vw fs)) born fs n x):=by
  cases hf:fileOf n fs with
  |none=>exact aoU h1 hf hn hq hx (by omega) (by omega) (by omega)
  |some f=>exact aoS h1 hf hn hq hx (by omega) (by omega) (by omega) (by have:=El (rG hf).1 h0;omega)
 refine key.mono ?_;rintro e w2 ⟨rfl,br,hd,hs,hv⟩;have ht:=aaY hN n x;refine ⟨rfl,_,⟨hZ,by omega,born,br,?_,hv,rfl⟩,hs⟩;rw [ht,Int.natCast_add];exact hd
theorem aqd (h:Dk Z B w p r V F) {n:ByteArray} (hn:jC n) (hl:cH n V=none):
  Calls Tryz.prog 78 #[.pointer (some ⟨p,0,none⟩),.string n,.slice none 0 0] w fun e w'=>e= .returned (.int .i64 0)∧IH Z B w p r F w' (V++ [(n,[],0)]):=by
 obtain ⟨hZ,h0,born,fs,h1,rfl,rfl⟩:=h;have hf:fileOf n fs=none:=by rw [uP] at hl;simpa using hl
 refine (aoW h1 hf hn (by omega) (by omega) (by omega)).mono ?_;rintro e w2 ⟨rfl,br,hd,hs,hv⟩;have ht:cG (vw fs++ [(n,[],0)])=cG (vw fs):=by simp [cG]
 exact ⟨rfl,_,⟨hZ,by omega,born,br,by rw [ht];exact hd,hv,rfl⟩,hs⟩
theorem aqe (h:Dk Z B w p r V F) {n:ByteArray} {b:List UInt8} {s:Nat} (hl:cH n V=some (b,s)) {qb:Nat} (hq:w.heap[qb]?=some (.cells #[.string n] 9 (0,0))):
  Calls Tryz.prog 83 #[.pointer (some ⟨p,0,none⟩),.slice (some ⟨qb,0,none⟩) 1 1] w fun e w'=>e= .returned (.int .i64 0)∧IH Z B w p r F w' (rO n V):=by
 obtain ⟨hZ,h0,born,fs,h1,rfl,rfl⟩:=h;rw [uP] at hl;obtain ⟨f,hf,_⟩:=Option.map_eq_some_iff.1 hl;refine (apa h1 hf hq (by have:=El (rG hf).1 h0;omega)).mono ?_;rintro e w2 ⟨rfl,br,hd,hs,hv⟩;have ht:=aaW n (vw fs);exact ⟨rfl,_,⟨hZ,by omega,born,br,by rw [ht];exact hd,hv,rfl⟩,hs⟩
theorem aqf (h:Dk Z B w p r V F) {n:ByteArray} (hl:cH n V=none) {qb:Nat} (hq:w.heap[qb]?=some (.cells #[.string n] 9 (0,0))):
  Calls Tryz.prog 64 #[.pointer (some ⟨p,0,none⟩),.slice (some ⟨qb,0,none⟩) 1 1] w fun e w'=>e= .returned (.int .i64 4)∧Grow w w':=by
 obtain ⟨hZ,h0,born,fs,h1,rfl,rfl⟩:=h;exact apb h1 (by rw [uP] at hl;simpa using hl) hq
theorem aqg (h:Dk Z B w p r V F) {n:ByteArray} {b:List UInt8} {s:Nat} (hl:cH n V=some (b,s)) {qb:Nat} (hq:w.heap[qb]?=some (.cells #[.string n] 9 (0,0))):
  Calls Tryz.prog 64 #[.pointer (some ⟨p,0,none⟩),.slice (some ⟨qb,0,none⟩) 1 1] w fun e w'=>e= .returned (.int .i64 0)∧IH Z B w p r F w' (jm n V):=by
 have ht:=MK h.names hl;obtain ⟨hZ,h0,born,fs,h1,rfl,rfl⟩:=h;rw [uP] at hl;obtain ⟨f,hf,qu⟩:=Option.map_eq_some_iff.1 hl;cases qu;refine (apc h1 hf hq (by have:=El (rG hf).1 h0;omega) (by omega) (by omega)).mono ?_;rintro e w2 ⟨rfl,br,hd,hs,hv⟩;refine ⟨rfl,_,⟨hZ,by omega,born,br,?_,hv,rfl⟩,hs⟩;have:((cG (jm n (vw fs)):Nat):Int)=(cG (vw fs):Int)-(f.b.length:Int):=by omega
 rw [this];exact hd
theorem aqh (h:Dk Z B w p r V F) {m n:ByteArray} (eY:m≠n) (hn:jC n) {b b0:List UInt8} {s s0:Nat} (tH:cH m V=some (b,s)) (mW:cH n V=some (b0,s0)):
  Calls Tryz.prog 153 #[.pointer (some ⟨p,0,none⟩),.string m,.string n] w fun e w'=>e= .returned (.int .i64 0)∧IH Z B w p r F w' (tB m n b s V):=by
 have ht:=aaZ h.names eY tH mW;obtain ⟨hZ,h0,born,fs,h1,rfl,rfl⟩:=h;rw [uP] at tH mW;obtain ⟨f,hf,qu⟩:=Option.map_eq_some_iff.1 tH;obtain ⟨g,hg,hgb⟩:=Option.map_eq_some_iff.1 mW;cases qu;cases hgb;refine (aph h1 hf hg eY hn (by have:=El (rG hg).1 h0;omega) (by omega) (by omega)).mono ?_;rintro e w2 ⟨rfl,br,hd,hs,hv⟩;refine ⟨rfl,_,⟨hZ,by omega,born,br,?_,hv,rfl⟩,hs⟩;have:((cG (tB m n f.b f.synced (vw fs)):Nat):Int)=(cG (vw fs):Int)-(g.b.length:Int):=by omega
 rw [this];exact hd
end Go.Proofs.YtoolkdapflaeeaaGreatDoor
namespace Go.Proofs.YtoolkdapflaeeaaGreatDoor
open Go.RowKit Go.Gl Go.aH
def lu (m n:ByteArray) (f:Fe) (c:Nat) (fs:List Fe):List Fe:=om m fs++ [⟨n,c,f.fb,f.bv,f.b,f.synced⟩]
def wM (m n:ByteArray) (b:List UInt8) (s:Nat) (V:Vw):Vw:=jm m V++ [(n,b,s)]
theorem aqi (m n:ByteArray) (f:Fe) (c:Nat) (fs:List Fe):vw (lu m n f c fs)=wM m n f.b f.synced (vw fs):=by
 unfold lu wM;rw [←Sh];simp [vw]
theorem aqj (m n:ByteArray) (f:Fe) (c:Nat) (fs:List Fe) (eY:m≠n):(lu m n f c fs).map Fe.az=((fs.map Fe.az)++ [(⟨n,.pointer (some ⟨f.fb,0,none⟩),c⟩:aF ByteArray)]).filter (fun e=>decide (m≠e.key)):=by
 unfold lu;rw [List.map_append,aau,List.filter_append];congr 1;rw [List.filter_cons_of_pos (by simpa using eY),List.filter_nil];rfl
section
variable {B:Nat} {w:World} {p r:Nat} {size used born:Int} {fs:List Fe}
theorem bM.aqk (h:bM B w p r size used born fs) {m n:ByteArray} {f:Fe} (hf:f∈fs) (jD:f.name=m) (iU:∀ g∈fs,n≠g.name) {c:Nat} (hm:MapAt w r Value.string (fs.map Fe.az) c) (hc:∀ f∈fs,f.born<c):
  bM B (cB w r (.map (((lu m n f c fs).map Fe.az).map (aF.raw Value.string)).toArray (c+1))) p r size used born (lu m n f c fs)∧
  Sep (cN p r fs) w (cB w r (.map (((lu m n f c fs).map Fe.az).map (aF.raw Value.string)).toArray (c+1))) (cN p r (lu m n f c fs)):=by
 have qj:=af hm;generalize hw2:cB w r (.map (((lu m n f c fs).map Fe.az).map (aF.raw Value.string)).toArray (c+1))=w2;have ho:∀ b,b≠r→w2.heap[b]?=w.heap[b]?:=fun b hbr=>by rw [←hw2,wC hbr]
 have hr2:MapAt w2 r Value.string ((lu m n f c fs).map Fe.az) (c+1):=by
  rw [←hw2];unfold MapAt;rw [yE qj]
 have hsz:w2.heap.size=w.heap.size:=by rw [←hw2];simp [cB]
 have cO:∀ g∈om m fs,g∈fs∧g.name≠m:=fun g hg=>by
  obtain ⟨h1,h2⟩:=List.mem_filter.1 hg;exact ⟨h1,fun e=>by simp [e] at h2⟩
 have gP:∀ g∈lu m n f c fs,∃ g0∈fs,g.fb=g0.fb∧g.bv=g0.bv∧g.b=g0.b∧g.synced=g0.synced:=by
  intro g hg;rcases List.mem_append.1 hg with h1|h1
  ·exact ⟨g,(cO g h1).1,rfl,rfl,rfl,rfl⟩
  ·obtain rfl:=cY.1 h1
   exact ⟨f,hf,rfl,rfl,rfl,rfl⟩
 refine ⟨⟨(ho p h.Bq).trans h.self,⟨c+1,hr2,fun g hg=> ?_⟩,?_,?_,?_,?_,fun g hg=> ?_,h.base.1,h.base.2.1,by rw [hsz];exact h.base.2.2⟩,⟨by rw [←hw2];rfl,by rw [←hw2];rfl,by rw [←hw2];rfl,by omega,fun b _ hn=>ho b (fun e=>hn (.inr (.inl e))),?_⟩⟩
 ·rcases List.mem_append.1 hg with h1|h1
  ·have:=hc g (cO g h1).1;omega
  ·obtain rfl:=cY.1 h1;simp
 ·unfold lu
  rw [List.map_append];refine List.nodup_append.2 ⟨h.names.sublist (List.filter_sublist.map _),by simp,fun a ha b hb=> ?_⟩;simp only [List.map_cons,List.map_nil,cY] at hb;subst hb;obtain ⟨g,hg,rfl⟩:=List.mem_map.1 ha;exact Ne.symm (iU g (cO g hg).1)
 ·unfold lu
  rw [List.map_append];refine List.nodup_append.2 ⟨h.rD.sublist (List.filter_sublist.map _),by simp,fun a ha b hb=> ?_⟩;simp only [List.map_cons,List.map_nil,cY] at hb;subst hb;obtain ⟨g,hg,rfl⟩:=List.mem_map.1 ha;have:=hc g (cO g hg).1;omega
 ·unfold lu
  rw [List.map_append];refine List.nodup_append.2 ⟨h.rE.sublist (List.filter_sublist.map _),by simp,fun a ha b hb=> ?_⟩;simp only [List.map_cons,List.map_nil,cY] at hb;subst hb;obtain ⟨g,hg,rfl⟩:=List.mem_map.1 ha;intro e;have:=RZ h.rE (cO g hg).1 hf e;exact (cO g hg).2 (by rw [this,jD])
 ·intro a ha b hb x hx1 hx2
  rcases List.mem_append.1 ha with h1|h1
  ·rcases List.mem_append.1 hb with h2|h2
   ·exact h.rows a (cO a h1).1 b (cO b h2).1 x hx1 hx2
   ·obtain rfl:=cY.1 h2
    have:=h.rows a (cO a h1).1 f hf x hx1 hx2;exact absurd (this.trans jD) (cO a h1).2
  ·obtain rfl:=cY.1 h1
   rcases List.mem_append.1 hb with h2|h2
   ·have:=h.rows f hf b (cO b h2).1 x hx1 hx2
    exact absurd (this.symm.trans jD) (cO b h2).2
   ·obtain rfl:=cY.1 h2;rfl
 ·obtain ⟨g0,h0,e1,e2,e3,e4⟩:=gP g hg
  have bh:=h.files g0 h0;exact ⟨by rw [e1,e2,e4];exact (ho _ (h.yN h0).2).trans bh.cell,by rw [e2,e3];exact bh.row.keep (fun b hb=>ho b (h.tz h0 hb).2.1),by rw [e1];exact bh.base,by rw [e3,e4];exact bh.sync⟩
 ·rintro b (rfl|rfl|⟨g,hg,hb⟩)
  ·exact .inl (.inl rfl)
  ·exact .inl (.inr (.inl rfl))
  ·obtain ⟨g0,h0,e1,e2,_,_⟩:=gP g hg
   rw [e1,e2] at hb;exact .inl (.inr (.inr ⟨g0,h0,hb⟩))
end
theorem aql {B:Nat} {w:World} {p r:Nat} {size used born:Int} {fs:List Fe} (h:bM B w p r size used born fs) {m n:ByteArray} {f:Fe} (eN:fileOf m fs=some f) (hgo:fileOf n fs=none) (eY:m≠n) (hn:jC n):
  Calls Tryz.prog 153 #[.pointer (some ⟨p,0,none⟩),.string m,.string n] w fun e w'=>e= .returned (.int .i64 0)∧∃ br,bM B w' p r size used born br∧Sep (cN p r fs) w w' (cN p r br)∧vw br=wM m n f.b f.synced (vw fs):=by
 obtain ⟨hm,jD⟩:=rG eN;have iU:=Bp hgo;have api:(Instr.lookup 123 (.map (some r)) (.string m) false).run Tryz.prog w= .ok (.pointer (some ⟨f.fb,0,none⟩)) w:=by
  have:=h.lookup m;simpa only [mj,eN] using this
 have apj:(Instr.lookup 123 (.map (some r)) (.string n) false).run Tryz.prog w= .ok (.pointer none) w:=by
  have:=h.lookup n;simpa only [mj,hgo] using this
 obtain ⟨c0,c1,c2,c3⟩:=h.cells;have lp:=af h.self;obtain ⟨ck,hmap,gH⟩:=h.map;have rP:((fs.map Fe.az).map aF.key).Nodup:=by have:=h.names;rw [List.map_map];exact this
 have ME:=Mo yK Tryz.underlying123 hmap n (.pointer (some ⟨f.fb,0,none⟩)) (fun e he=>by obtain ⟨g,hg,rfl⟩:=List.mem_map.1 he;exact iU g hg);have Il:MapAt (cB w r (.map (((fs.map Fe.az)++ [(⟨n,.pointer (some ⟨f.fb,0,none⟩),ck⟩:aF ByteArray)]).map (aF.raw Value.string)).toArray (ck+1))) r Value.string ((fs.map Fe.az)++ [(⟨n,.pointer (some ⟨f.fb,0,none⟩),ck⟩:aF ByteArray)]) (ck+1):=by
  unfold MapAt;rw [yE (af hmap)]
 have Im:(((fs.map Fe.az)++ [(⟨n,.pointer (some ⟨f.fb,0,none⟩),ck⟩:aF ByteArray)]).map aF.key).Nodup:=by
  rw [List.map_append];refine List.nodup_append.2 ⟨rP,by simp,fun a ha b hb=> ?_⟩;simp only [List.map_cons,List.map_nil,cY] at hb;subst hb;obtain ⟨e,he,rfl⟩:=List.mem_map.1 ha;obtain ⟨g,hg,rfl⟩:=List.mem_map.1 he;exact Ne.symm (iU g hg)
 have hdel:=Rx (ty:=0) (kt':=9) yK Tryz.underlying123 Il Im m;rw [←aqj m n f ck fs eY] at hdel;obtain ⟨eV,hs3⟩:=h.aqk hm jD iU hmap gH;have Bz:cB (cB w r (.map (((fs.map Fe.az)++ [(⟨n,.pointer (some ⟨f.fb,0,none⟩),ck⟩:aF ByteArray)]).map (aF.raw Value.string)).toArray (ck+1))) r (.map (((lu m n f ck fs).map Fe.az).map (aF.raw Value.string)).toArray (ck+1))=cB w r (.map (((lu m n f ck fs).map Fe.az).map (aF.raw Value.string)).toArray (ck+1)):=by
  unfold cB;simp
 rw [Bz] at hdel;have wI:(cB w r (.map (((fs.map Fe.az)++ [(⟨n,.pointer (some ⟨f.fb,0,none⟩),ck⟩:aF ByteArray)]).map (aF.raw Value.string)).toArray (ck+1))).heap[p]?=w.heap[p]?:=wC h.Bq;have lp3:=af (wI.trans h.self);have fK:Hid (∃ br,bM B (cB w r (.map (((lu m n f ck fs).map Fe.az).map (aF.raw Value.string)).toArray (ck+1))) p r size used born br∧Sep (cN p r fs) w (cB w r (.map (((lu m n f ck fs).map Fe.az).map (aF.raw Value.string)).toArray (ck+1))) (cN p r br)∧vw br=wM m n f.b f.synced (vw fs)):=ae ⟨_,eV,hs3,aqi m n f ck fs⟩;generalize hw3:cB w r (.map (((fs.map Fe.az)++ [(⟨n,.pointer (some ⟨f.fb,0,none⟩),ck⟩:aF ByteArray)]).map (aF.raw Value.string)).toArray (ck+1))=w3 at*;generalize hw4:cB w r (.map (((lu m n f ck fs).map Fe.az).map (aF.raw Value.string)).toArray (ck+1))=w4 at*;have e3':w3.cell? ⟨p,3,none⟩=some (.map (some r)):=by simp [World.cell?,wI,h.self]
 clear hw3 hw4 eV hs3 hmap gH h hm eN hgo jD iU c0 c1 c2 rP Im Il Bz wI;have hne:(m==n)=false:=by
  cases hb:(m==n) with
  |false=>rfl
  |true=>exact absurd ((Go.MapKept.bytes_beq _ _).1 hb) eY
 have Sl:(m.toList==n.toList)=false:=by
  cases hb:(m.toList==n.toList) with
  |false=>rfl
  |true=>exact absurd (ByteArray.ext (by simpa [ByteArray.toList_eq] using hb)) eY
 go_enter Tryz.func153,Tryz.ntmps153
 go_wp2_with ((with_reducible refine (Ec hn _).mono ?_);rintro e w1 ⟨rfl,hw⟩;have hw':=hw.symm;subst hw';clear hw)
 go_ret;exact ⟨rfl,fK.out⟩
theorem aqm {B:Nat} {w:World} {p r:Nat} {size used born:Int} {fs:List Fe} (h:bM B w p r size used born fs) {n:ByteArray} (hn:jC n)
  {qb:Nat} {pv:Value} {x:List UInt8} (hq:w.heap[qb]?=some (.cells #[pv] 49 (0,0))) (hx:Bv w pv x) (hu:0≤used) (hus:used≤1073741824) (ic:x.length≤1000000000000) (pj:size<used+x.length):
  Calls Tryz.prog 78 #[.pointer (some ⟨p,0,none⟩),.string n,.slice (some ⟨qb,0,none⟩) 1 1] w fun e w'=>e= .returned (.int .i64 5)∧Grow w w':=by
 obtain ⟨c0,c1,c2,c3⟩:=h.cells;have lp:=af h.self;have p0:w.cell? ⟨qb,0,none⟩=some pv:=by simp [World.cell?,hq]
 have lq:=af hq;obtain ⟨xa,xc,rfl⟩:=hx.slice;have Sc:decide (size<used+(x.length:Int))=true:=by simpa using pj
 have bS:IntKind.i64.wrap (used+(x.length:Int))=used+(x.length:Int):=aR _ (by omega);have hw2:IntKind.i64.wrap (0+(x.length:Int))=(x.length:Int):=by rw [Int.zero_add];exact aR _ (by omega)
 have hw3:IntKind.i64.wrap (x.length:Int)=(x.length:Int):=aR _ (by omega);have aQ:=Grow.cells (w:=w);clear h hx hq;go_enter Tryz.func78,Tryz.ntmps78
 go_wp2_with fail
 refine wp_loop_rounds 2 ?_;rw [rounds_succ]
 go_wp2_with fail
 rw [rounds_succ]
 go_wp2_with ((with_reducible refine (Ec hn _).mono ?_);rintro e w1 ⟨rfl,hw⟩;have hw':=hw.symm;subst hw';clear hw)
 refine bX (fun W=>Below w.heap.size w W) [(0,false),(1,false),(2,false),(3,false),(4,false),(5,false),(6,false),(7,false),(8,false),(9,false),(10,false),(11,false)] (by kernel_rfl) (by kernel_rfl) (fun c a d v w h=>by cases d<;>exact h) (Grow.drew _) ?_;simp only [aP,nth]
 repeat (first|(refine aB (v:= ?_) (by rfl) ?_ ?_;rotate_left;(rintro W hW;go_simp;with_reducible rfl);simp only [ag,List.set])|(refine aC (by rfl) ?_;simp only [ag,List.set]))
 refine bm ?_;go_wp2;go_ret;exact ⟨rfl,Grow.drew w⟩
end Go.Proofs.YtoolkdapflaeeaaGreatDoor
namespace Go.Proofs.YtoolkdapflaeeaaGreatDoor
open Go.RowKit Go.Gl Go.aH Go.Sort
abbrev Lk:=ByteArray→Option (List UInt8×Nat)
def Lk.set (f:Lk) (n:ByteArray) (q:List UInt8×Nat):Lk:=fun m=>if m=n then some q else f m
def Lk.del (f:Lk) (n:ByteArray):Lk:=fun m=>if m=n then none else f m
def Lk.add (f:Lk) (n:ByteArray) (x:List UInt8):Lk:=f.set n (match f n with|none=>(x,0)|some q=>(q.1++x,q.2))
def fM (V:Vw):Lk:=fun n=>cH n V
theorem qw (f:Lk) (n:ByteArray) (q:List UInt8×Nat):(f.set n q) n=some q:=if_pos rfl
theorem fZ (f:Lk) {m n:ByteArray} (h:m≠n) (q:List UInt8×Nat):(f.set n q) m=f m:=if_neg h
theorem aba (f:Lk) (n:ByteArray):(f.del n) n=none:=if_pos rfl
theorem abb (f:Lk) {m n:ByteArray} (h:m≠n):(f.del n) m=f m:=if_neg h
theorem ML (f:Lk) (n:ByteArray) (q q':List UInt8×Nat):(f.set n q).set n q'=f.set n q':=by
 funext m;by_cases h:m=n<;>simp [Lk.set,h]
theorem abc (f:Lk) (n:ByteArray) (q:List UInt8×Nat):(f.set n q).del n=f.del n:=by
 funext m;by_cases h:m=n<;>simp [Lk.set,Lk.del,h]
theorem aqn (f:Lk) (n:ByteArray) (q:List UInt8×Nat):(f.del n).set n q=f.set n q:=by
 funext m;by_cases h:m=n<;>simp [Lk.set,Lk.del,h]
theorem SK {f:Lk} {n:ByteArray} (h:f n=none):f.del n=f:=by
 funext m;by_cases h1:m=n
 ·subst h1;simp [Lk.del,h]
 ·simp [Lk.del,h1]
theorem aqo (f:Lk) {m n:ByteArray} (h:m≠n) (a b:List UInt8×Nat):(f.set m a).set n b=(f.set n b).set m a:=by
 funext k;by_cases h1:k=n
 ·subst h1;simp [Lk.set,Ne.symm h]
 ·simp [Lk.set,h1]
theorem abd {f:Lk} {n:ByteArray} {q:List UInt8×Nat} (h:f n=some q):f.set n q=f:=by
 funext k;unfold Lk.set;split
 ·rename_i e;rw [e,h]
 ·rfl
theorem SL (n:ByteArray) (x:List UInt8):∀ (V:Vw) (m:ByteArray),cH m (V.map (fun e=>if e.1=n then (e.1,e.2.1++x,e.2.2) else e))=if m=n then (cH n V).map (fun q=>(q.1++x,q.2)) else cH m V
 | [],m=>by simp [cH]
 |e::V,m=>by
  rw [List.map_cons];by_cases h2:e.1=n
  ·rw [if_pos h2,eF,SL n x V m,eF,eF]
   by_cases h1:m=n<;>simp [h1,h2]
  ·rw [if_neg h2,eF,SL n x V m,eF,eF]
   by_cases h1:m=n
   ·subst h1;simp [Ne.symm h2]
   ·simp [h1]
theorem aqp (n:ByteArray) (x:List UInt8) (V:Vw):fM (rK n x V)=(fM V).add n x:=by
 funext m
 unfold rK fM Lk.add Lk.set;rw [aaX];cases h:cH n V with
 |none=>
  simp only [Option.isSome_none,Bool.false_eq_true,if_false];by_cases h1:m=n
  ·subst h1;rw [if_pos rfl,SH h];simp [h]
  ·rw [if_neg h1,SI h1]
 |some q=>
  simp only [Option.isSome_some,if_true];rw [SL,h];rfl
theorem abe (n:ByteArray):∀ (V:Vw) (m:ByteArray),cH m (rO n V)=if m=n then (cH n V).map (fun q=>(q.1,q.1.length)) else cH m V
 | [],m=>by simp [cH,rO]
 |e::V,m=>by
  have ih:=abe n V m;unfold rO at ih ⊢;rw [List.map_cons];by_cases h2:e.1=n
  ·rw [if_pos h2,eF,ih,eF,eF]
   by_cases h1:m=n<;>simp [h1,h2]
  ·rw [if_neg h2,eF,ih,eF,eF]
   by_cases h1:m=n
   ·subst h1;simp [Ne.symm h2]
   ·simp [h1]
theorem aqq {n:ByteArray} {V:Vw} {q:List UInt8×Nat} (h:fM V n=some q):fM (rO n V)=(fM V).set n (q.1,q.1.length):=by
 funext m
 unfold fM at h;unfold fM Lk.set;rw [abe,h];rfl
theorem Em (n:ByteArray):∀ (V:Vw) (m:ByteArray),cH m (jm n V)=if m=n then none else cH m V
 | [],m=>by simp [cH,jm]
 |e::V,m=>by
  have ih:=Em n V m;unfold jm at ih ⊢;by_cases h2:n=e.1
  ·rw [List.filter_cons_of_neg (by simpa using h2),ih,eF]
   by_cases h1:m=n
   ·rw [if_pos h1,if_pos h1]
   ·rw [if_neg h1,if_neg h1,if_neg (fun e'=>h1 (e'.trans h2.symm))]
  ·rw [List.filter_cons_of_pos (by simpa using h2),eF,ih,eF]
   by_cases h1:m=n
   ·rw [if_pos h1,if_pos h1,if_neg (fun e'=>h2 (h1.symm.trans e'))]
   ·rw [if_neg h1,if_neg h1]
theorem aqr (n:ByteArray) (V:Vw):fM (jm n V)=(fM V).del n:=by
 funext m;unfold fM Lk.del;exact Em n V m
theorem SN (n:ByteArray) (q:List UInt8×Nat):∀ (V:Vw) (m:ByteArray),cH m (V.map (fun e=>if e.1=n then (e.1,q) else e))=if m=n then (cH n V).map (fun _=>q) else cH m V
 | [],m=>by simp [cH]
 |e::V,m=>by
  rw [List.map_cons];by_cases h2:e.1=n
  ·rw [if_pos h2,eF,SN n q V m,eF,eF]
   by_cases h1:m=n<;>simp [h1,h2]
  ·rw [if_neg h2,eF,SN n q V m,eF,eF]
   by_cases h1:m=n
   ·subst h1;simp [Ne.symm h2]
   ·simp [h1]
theorem aqs {m n:ByteArray} (eY:m≠n) {V:Vw} {q:List UInt8×Nat} (hn:fM V n=some q) (b:List UInt8) (s:Nat):fM (tB m n b s V)=((fM V).del m).set n (b,s):=by
 funext k
 unfold fM at hn;unfold tB fM Lk.set Lk.del;rw [SN n (b,s),Em,Em,if_neg (Ne.symm eY),hn];rfl
theorem aqt {m n:ByteArray} (eY:m≠n) {V:Vw} (hn:fM V n=none) (b:List UInt8) (s:Nat):fM (wM m n b s V)=((fM V).del m).set n (b,s):=by
 funext k
 unfold fM at hn;unfold wM fM Lk.set Lk.del;have hd:cH n (jm m V)=none:=by rw [Em,if_neg (Ne.symm eY),hn]
 by_cases h1:k=n
 ·subst h1;rw [if_pos rfl,SH hd]
 ·rw [if_neg h1,SI h1,Em]
def Dl (Z B:Nat) (w:World) (p r:Nat) (f:Lk) (T K:Nat) (F:Nat→Prop):Prop:=∃ V,Dk Z B w p r V F∧fM V=f∧cG V=T∧V.length≤K
def mZ (Z B:Nat) (w:World) (p r:Nat) (F:Nat→Prop) (w':World) (f:Lk) (T K:Nat):Prop:=∃ F',Dl Z B w' p r f T K F'∧Sep F w w' F'
variable {Z B:Nat} {w w':World} {p r:Nat} {f:Lk} {T K:Nat} {F:Nat→Prop}
theorem Dl.grow (h:Dl Z B w p r f T K F) (hg:Grow w w'):Dl Z B w' p r f T K F:=by
 obtain ⟨V,h1,h2,h3,h4⟩:=h;exact ⟨V,h1.grow hg,h2,h3,h4⟩
theorem Dl.base (h:Dl Z B w p r f T K F):B≤w.heap.size:=by obtain ⟨V,h1,_⟩:=h;exact h1.base
theorem Dl.foot (h:Dl Z B w p r f T K F) {b:Nat} (hb:F b):B≤b∧b<w.heap.size:=by obtain ⟨V,h1,_⟩:=h;exact h1.foot hb
theorem Dl.apart (h:Dl Z B w p r f T K F) {b:Nat} {arr:Array Value} {t:TypeId} {fz:Nat×Nat} (hb:w.heap[b]?=some (.cells arr t fz)) (h1:t≠125) (h2:t≠165) (h3:t≠5):¬ F b:=by
 obtain ⟨V,h0,_⟩:=h;exact h0.apart hb h1 h2 h3
theorem Dl.total (h:Dl Z B w p r f T K F):T≤Z:=by obtain ⟨V,⟨_,h0,_⟩,_,h1,_⟩:=h;omega
theorem Dl.size (h:Dl Z B w p r f T K F):Z≤1073741824:=by obtain ⟨V,⟨h0,_⟩,_⟩:=h;exact h0
theorem Dl.more (h:Dl Z B w p r f T K F) {K':Nat} (hK:K≤K'):Dl Z B w p r f T K' F:=by obtain ⟨V,h1,h2,h3,h4⟩:=h;exact ⟨V,h1,h2,h3,by omega⟩
theorem abf {n:ByteArray} {q:List UInt8×Nat}:∀ {V:Vw},cH n V=some q→q.1.length≤cG V
 | [],h=>by simp [cH] at h
 |e::V,h=>by
  rw [eF] at h;rw [Ek]
  split at h
  ·cases h;omega
  ·have:=abf h;omega
theorem Dl.len (h:Dl Z B w p r f T K F) {n:ByteArray} {q:List UInt8×Nat} (hn:f n=some q):q.1.length≤T:=by
 obtain ⟨V,_,h2,h3,_⟩:=h;rw [←h2] at hn;rw [←h3];exact abf hn
theorem II (h:Dl Z B w p r f T K F) (n:ByteArray):Calls Tryz.prog 34 #[.pointer (some ⟨p,0,none⟩),.string n] w fun e w'=>
  (match f n with
   |none=>e= .returned (.tuple #[.slice none 0 0,.int .i64 4])
   |some (b,_)=>∃ v,e= .returned (.tuple #[v,.int .i64 0])∧aG w.heap.size w' v b)∧Grow w w':=by
 obtain ⟨V,h1,rfl,h3,_⟩:=h;exact aqb h1 n
theorem abg (h:Dl Z B w p r f T K F) {n:ByteArray} (hn:jC n) {qb:Nat} {pv:Value} {x:List UInt8} (hq:w.heap[qb]?=some (.cells #[pv] 49 (0,0))) (hx:Bv w pv x) (hroom:T+x.length≤Z):
  Calls Tryz.prog 78 #[.pointer (some ⟨p,0,none⟩),.string n,.slice (some ⟨qb,0,none⟩) 1 1] w fun e w'=>e= .returned (.int .i64 0)∧mZ Z B w p r F w' (f.add n x) (T+x.length) (K+1):=by
 obtain ⟨V,h1,rfl,rfl,h4⟩:=h;refine (aqc h1 hn hq hx hroom).mono ?_;rintro e w2 ⟨he,F',hd,hs⟩;refine ⟨he,F',⟨_,hd,aqp n x V,aaY h1.names n x,?_⟩,hs⟩;unfold rK
 split<;>simp<;>omega
theorem abh (h:Dl Z B w p r f T K F) {n:ByteArray} (hn:jC n) {qb:Nat} {pv:Value} {x:List UInt8} (hq:w.heap[qb]?=some (.cells #[pv] 49 (0,0))) (hx:Bv w pv x) (ic:x.length≤1000000000000) (pj:Z<T+x.length):
  Calls Tryz.prog 78 #[.pointer (some ⟨p,0,none⟩),.string n,.slice (some ⟨qb,0,none⟩) 1 1] w fun e w'=>e= .returned (.int .i64 5)∧Grow w w':=by
 obtain ⟨V,⟨hZ,h0,born,fs,hd,rfl,rfl⟩,rfl,rfl,h4⟩:=h;exact aqm hd hn hq hx (by omega) (by omega) ic (by omega)
theorem IJ (h:Dl Z B w p r f T K F) {n:ByteArray} {q:List UInt8×Nat} (hl:f n=some q) {qb:Nat} (hq:w.heap[qb]?=some (.cells #[.string n] 9 (0,0))):
  Calls Tryz.prog 83 #[.pointer (some ⟨p,0,none⟩),.slice (some ⟨qb,0,none⟩) 1 1] w fun e w'=>e= .returned (.int .i64 0)∧mZ Z B w p r F w' (f.set n (q.1,q.1.length)) T K:=by
 obtain ⟨V,h1,rfl,rfl,h4⟩:=h;refine (aqe h1 hl hq).mono ?_;rintro e w2 ⟨he,F',hd,hs⟩;exact ⟨he,F',⟨_,hd,aqq hl,aaW n V,by simpa [rO] using h4⟩,hs⟩
theorem abi (h:Dl Z B w p r f T K F) {n:ByteArray} (hl:f n=none) {qb:Nat} (hq:w.heap[qb]?=some (.cells #[.string n] 9 (0,0))):
  Calls Tryz.prog 64 #[.pointer (some ⟨p,0,none⟩),.slice (some ⟨qb,0,none⟩) 1 1] w fun e w'=>e= .returned (.int .i64 4)∧Grow w w':=by
 obtain ⟨V,h1,rfl,rfl,h4⟩:=h;exact aqf h1 hl hq
theorem SP (h:Dl Z B w p r f T K F) {n:ByteArray} {q:List UInt8×Nat} (hl:f n=some q) {qb:Nat} (hq:w.heap[qb]?=some (.cells #[.string n] 9 (0,0))):
  Calls Tryz.prog 64 #[.pointer (some ⟨p,0,none⟩),.slice (some ⟨qb,0,none⟩) 1 1] w fun e w'=>e= .returned (.int .i64 0)∧mZ Z B w p r F w' (f.del n) (T-q.1.length) K:=by
 obtain ⟨V,h1,rfl,rfl,h4⟩:=h;refine (aqg h1 hl hq).mono ?_;rintro e w2 ⟨he,F',hd,hs⟩;have ht:=MK h1.names hl;exact ⟨he,F',⟨_,hd,aqr n V,by omega,aN (List.length_filter_le _ _) h4⟩,hs⟩
def jE (f:Lk) (n:ByteArray):Nat:=match f n with|none=>0|some q=>q.1.length
theorem aqu (h:Dl Z B w p r f T K F) (n:ByteArray) {qb:Nat} (hq:w.heap[qb]?=some (.cells #[.string n] 9 (0,0))):
  Calls Tryz.prog 64 #[.pointer (some ⟨p,0,none⟩),.slice (some ⟨qb,0,none⟩) 1 1] w fun e w'=>(∃ c:Int,e= .returned (.int .i64 c))∧mZ Z B w p r F w' (f.del n) (T-jE f n) K:=by
 cases hl:f n with
 |none=>
  refine (abi h hl hq).mono ?_;rintro e w2 ⟨he,hg⟩;exact ⟨⟨_,he⟩,F,by rw [SK hl,show jE f n=0 by unfold jE;rw [hl],Nat.sub_zero];exact h.grow hg,Sep.bF hg⟩
 |some q=>
  refine (SP h hl hq).mono ?_;rintro e w2 ⟨he,hd⟩;exact ⟨⟨_,he⟩,by rw [show jE f n=q.1.length by unfold jE;rw [hl]];exact hd⟩
theorem aqv {V:Vw} (hV:lK V) {m n:ByteArray} {b:List UInt8} {s:Nat} (hm:cH m V=some (b,s)):cG (wM m n b s V)=cG V:=by
 have:=MK hV hm;unfold wM;have h2:cG (jm m V++ [(n,b,s)])=cG (jm m V)+b.length:=by simp [cG]
 omega
theorem aqw (h:Dl Z B w p r f T K F) {m n:ByteArray} (eY:m≠n) (hn:jC n) {q:List UInt8×Nat} (tH:f m=some q):
  Calls Tryz.prog 153 #[.pointer (some ⟨p,0,none⟩),.string m,.string n] w fun e w'=>e= .returned (.int .i64 0)∧mZ Z B w p r F w' ((f.del m).set n q) (T-jE f n) (K+1):=by
 obtain ⟨V,h1,rfl,rfl,h4⟩:=h;obtain ⟨b,s⟩:=q;cases hl:fM V n with
 |some q0=>
  refine (aqh h1 eY hn tH hl).mono ?_;rintro e w2 ⟨he,F',hd,hs⟩;have ht:=aaZ h1.names eY tH hl;have hk:jE (fM V) n=q0.1.length:=by unfold jE;rw [hl]
  refine ⟨he,F',⟨_,hd,aqs eY hl b s,by omega,?_⟩,hs⟩;have:(jm m V).length≤V.length:=List.length_filter_le _ _;unfold tB;simp;omega
 |none=>
  have hN:=h1.names;obtain ⟨hZ,h0,born,fs,hd,rfl,rfl⟩:=h1;have aqx:=tH;unfold fM at tH;rw [uP] at tH;obtain ⟨fe,hfe,qu⟩:=Option.map_eq_some_iff.1 tH;cases qu;have hg:fileOf n fs=none:=by unfold fM at hl;rw [uP] at hl;simpa using hl
  have hk:jE (fM (vw fs)) n=0:=by unfold jE;rw [hl]
  refine (aql hd hfe hg eY hn).mono ?_;rintro e w2 ⟨he,br,mN,hs,hv⟩;have ht:=aqv (n:=n) hN aqx;refine ⟨he,_,⟨_,⟨hZ,by omega,born,br,?_,hv,rfl⟩,aqt eY hl _ _,by omega,?_⟩,hs⟩
  ·rw [ht];exact mN
  ·have:(jm m (vw fs)).length≤(vw fs).length:=List.length_filter_le _ _
   unfold wM;simp;omega
end Go.Proofs.YtoolkdapflaeeaaGreatDoor
