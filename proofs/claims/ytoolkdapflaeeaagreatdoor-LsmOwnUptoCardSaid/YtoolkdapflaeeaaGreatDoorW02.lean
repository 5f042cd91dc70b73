/- Helpers. -/
import Derived.Test.YtoolkdapflaeeaaGreatDoorW01
import Derived.Shelf.Strconv.Itoa3
import Derived.Shelf.Strconv.Atoi
import Derived.Shelf.Strings.Prefix
import Derived.Lib.AtoiErrMem
set_option maxRecDepth 100000
set_option maxHeartbeats 16000000
set_option linter.unusedSimpArgs false
open Go
variable{B K' b c k m n p qb r s s0:Nat}{arr:Array Value}{b0 l x:List UInt8}{born:Int}{bv pv v:Value}{f fz:Nat × Nat}{t:TypeId}{w w':World}
namespace Go.Proofs.YtoolkdapflaeeaaGreatDoor
open Go.RowKit Go.Gl Go.aF Go.Sort
def Ea(fs:List Fe):List (List UInt8):=(pick (λ_=>true) (fs.map Fe.aB)).mergeSort (λx a=>decide (x<=a))
theorem awf{fs:List Fe}{n:List UInt8}(h:n∈Ea fs):(⟨n.toArray⟩:ByteArray)∈(vw fs).map (·.1):=by have h1:=(List.mergeSort_perm _ _).mem_iff.1 h;unfold pick at h1;obtain⟨e,he,rfl⟩:=aV.1 h1;obtain⟨f,hf,rfl⟩:=aV.1 (List.mem_filter.1 he).1;simp only[vw,fh,aV,Function.comp];exact⟨f,hf,by simp[Fe.aB]⟩
theorem awg{size:Int}{fs:List Fe}(h:bX B w p r size (cV (vw fs)) born fs)(hroom:cV (vw fs)<=1073741824)(nI:fs.length<1000000000){picks:List Int}(hp:Iv w pv picks)(qC:picks≠[]->WG (dH p r fs) pv):
  Calls Tryz.prog 38 #[.pointer (some ⟨p,0,none⟩),pv] w λe w'=>e=.returned (.tuple #[])/\∃bK,bX B w' p r size (cV (vw bK)) born bK/\Sep (dH p r fs) w w' (dH p r bK)/\vw bK=BC picks 0 (Ea fs) (vw fs):=by
 have afv:=avX h nI;obtain⟨pa,pc,pQ,uy,_⟩:=id hp;subst pQ;have H:=ae h;have Hp:=ae hp;have QN:=ae qC;have awh:=ae afv;clear h hp qC afv;go_enter Tryz.func38,Tryz.ntmps38
 go_wp2_with fail
 (with_reducible refine awh.out.mono ?_);rintro e w1 ⟨nv,rfl,hrow,hg1⟩;have lB:(Ea fs).length=(pick (λ_=>true) (fs.map Fe.aB)).length:=List.length_mergeSort _;have hrow':w1.ownsRow w.heap.size 9 1 nv (Ea fs).length ((Ea fs).map encStr):=by rw[lB];exact hrow
 have cM:∀n∈Ea fs,(⟨n.toArray⟩:ByteArray)∈(vw fs).map (·.1):=λn hn=>awf hn
 generalize afw:Ea fs=ns at*;have Iu:=ae afw;clear afw;have h1:=H.out.grow hg1;rcases hrow'.2 with⟨rfl,iQ⟩|⟨gN,cap,cur,rfl,ji,BD,Eb,hcm,hcs,dN⟩
 .have ki:ns=[]:=je iQ
  subst ki;have cP:=ae h1;have eV:=ae hg1;clear h1 hg1 hrow hrow' lB cM iQ
  go_wp2_with fail
  refine wp_loop_rounds 1 ?_;rw[rounds_succ];go_wp2;go_end0;exact⟨rfl,fs,cP.out,Sep.bO eV.out,by rw[Iu.out];rfl⟩
 .have fM:∀(i:Nat)(n:List UInt8),ns[i]?=some n->∀W:World,W.heap[gN]?=some (.cells cur 9 (0,0))->W.cell? ⟨gN,i,none⟩=some (.string ⟨n.toArray⟩):=λi n hi W hW=>by
   have h2:(ns.map encStr)[i]?=some (.string ⟨n.toArray⟩):=by simp[hi,encStr]
   rw[<-dN,Nat.mul_one,List.getElem?_take]at h2
   split at h2
   .have h3:cur[i]?=some (.string ⟨n.toArray⟩):=by simpa using h2
    simp[World.cell?,hW,h3]
   .cases h2
  have hst:WH B w p r size born (vw fs) (dH p r fs) picks ns gN cur (.int .i64 0) w1:=⟨0,fs,rfl,aY _,h1,rfl,rfl,Sep.bO hg1,BD,hroom⟩
  have bz:=ae hst;have zF:=ae fM;have WI:=ae cM;have iX:ns.length<1000000000:=by
   have h2:(pick (λ_=>true) (fs.map Fe.aB)).length<=(fs.map Fe.aB).length:=by unfold pick;rw[bA];exact List.length_filter_le _ _
   rw[bA]at h2;omega
  clear h1 hg1 hrow hrow' hst BD Eb hcm hcs dN ji lB fM cM
  go_wp2_with fail
  go_loopw [11] (λiv wr=>WH B w p r size born (vw fs) (dH p r fs) picks ns gN cur iv wr) (λiv _=>ns.length-(intOf iv).toNat)
  case atStart=>exact bz.out
  case round=>
   obtain⟨i,bK,rfl,hi,hI⟩:=hrel;by_cases hlt:i<ns.length
   .obtain⟨n,hn⟩:∃n,ns[i]?=some n:=⟨ns[i],by simp[hlt]⟩
    have BF:=zF.out i n hn wr hI.row;have lgN:=af hI.row;obtain⟨f,gh⟩:∃f,fileOf ⟨n.toArray⟩ bK=some f:=awd (by rw[hI.names];exact WI.out n (dm hn))
    obtain⟨hm,hfn⟩:=um gh;have hlk:(Instr.lookup 123 (.map (some r)) (.string ⟨n.toArray⟩) false).run Tryz.prog wr=.ok (.pointer (some ⟨f.fb,0,none⟩)) wr:=by have:=hI.aS.lookup ⟨n.toArray⟩;simpa only[oO,gh]using this
    obtain⟨c0,c1,c2,c3⟩:=hI.aS.cells;have lp:=af hI.aS.self;have bE:=hI.aS.files f hm;obtain⟨ba,bc,bD⟩:=bE.row.slice;rw[jX]at bD;have z0:wr.cell? ⟨f.fb,0,none⟩=some (.slice ba f.b.length bc):=by simp[World.cell?,bE.cell,bD]
    have z1:wr.cell? ⟨f.fb,1,none⟩=some (.int .i64 f.synced):=by simp[World.cell?,bE.cell]
    have aKT:f.b.length<=bc:=by have:=cE bE.row;rw[bD]at this;obtain⟨_,_,he,h5,_⟩:=this;cases he;exact h5
    have lf:=af bE.cell;have sK:=bE.sync;have hbl:=afu hm;have hrm:=hI.room;obtain⟨kp,ic⟩:∃kp,kp=xM picks i f.b.length f.synced:=⟨_,rfl⟩
    have gi:=aft picks i sK;rw[<-ic]at gi;have vU:Iv wr (.slice pa picks.length pc) picks:=Hp.out.sep hI.sep QN.out;have eN:(i:Int)<(ns.length:Int):=by omega
    have bU:(0:Int)<=(i:Int):=by omega
    have fT:IntKind.i64.wrap ((i:Int)+1)=(i:Int)+1:=aQ _ (by omega);have Iy:Hid (∀W,Grow wr W->WH B w p r size born (vw fs) (dH p r fs) picks ns gN cur (.int .i64 ((i:Int)+1)) (((W.setCell ⟨p,1,none⟩ (.int .i64 ((cV (vw bK):Int)-((f.b.length:Int)-(kp:Int))))).setCell ⟨f.fb,0,none⟩ (.slice ba kp kp)).setCell ⟨f.fb,1,none⟩ (.int .i64 kp))):=ae (λW hW=>by
     obtain⟨hd,hs⟩:=awe (hI.aS.grow hW) hm bD gi.2 ((cV (vw bK):Int)-((f.b.length:Int)-(kp:Int)));have hv:=avY hI.aS.names hm (.slice ba kp kp) kp;have ht:=avZ hI.aS.names hm gi.2;rw[<-hv]at ht;have iq:=(hI.sep.trans (Sep.bO hW)).trans hs;refine⟨i+1,kC f.name (.slice ba kp kp) (f.b.take kp) kp bK,by simp,hlt,?_,?_,?_,iq,?_,by omega⟩
     .have:((cV (vw (kC f.name (.slice ba kp kp) (f.b.take kp) kp bK)):Nat):Int)=(cV (vw bK):Int)-((f.b.length:Int)-(kp:Int)):=by omega
      rw[this];exact hd
     .rw[hI.run]
      have hdr:ns.drop i=n::ns.drop (i+1):=by obtain⟨h5,rfl⟩:=dW.1 hn;exact nA h5
      rw[hdr,BC,xN,gh];simp only[Option.map_some];rw[<-ic,hv,hfn]
     .rw[hv,awb];exact hI.names
     .have DW:=(hI.aS.grow hW).apart (hW.heap hI.row) (by decide) (by decide) (by decide);rw[hs.out gN (af (hW.heap hI.row)) DW];exact hW.heap hI.row)
    have ff:∀W:World,Grow wr W->(∀j,W.frozen? ⟨p,j,none⟩=false)/\(∀j,W.frozen? ⟨f.fb,j,none⟩=false):=λW hW=>⟨λj=>by simp[World.frozen?,hW.heap hI.aS.self],λj=>by simp[World.frozen?,hW.heap bE.cell]⟩
    have hfp:f.fb≠p:=(hI.aS.Bu hm).1;have hpf:p≠f.fb:=Ne.symm hfp;have aKV:(f.fb=p)=False:=by simpa using hfp
    have aKW:(p=f.fb)=False:=by simpa using hpf
    clear hI bE bD hm gh hn;have aU:=Grow.cells (w:=wr);have hgd:Grow wr wr.drew:=ay wr;by_cases WJ:i<picks.length
    .obtain⟨k,hk⟩:∃k,picks[i]?=some k:=⟨picks[i],by simp[WJ]⟩
     obtain⟨pb,po,rfl,lpb,oT⟩:∃b o,pa=some ⟨b,o,none⟩/\b<wr.heap.size/\∀(j:Nat)(k:Int),picks[j]?=some k->wr.cell? ⟨b,o+j,none⟩=some (.int .i64 k):=by
      obtain⟨a',c',he,_,h5⟩:=vU;cases he;rcases h5 with h5|h5
      .rw[h5]at WJ;simp at WJ
      .exact h5
     have pk:=oT i k hk;have awk:(i:Int)<(picks.length:Int):=by omega
     by_cases jZ:0<=k
     .have e1:decide ((0:Int)<=k)=true:=by simpa using jZ
      have vW:(kp:Int)=(f.synced:Int)+k%(((f.b.length-f.synced+1:Nat)):Int):=by rw[ic];unfold xM;rw[hk];simp only[if_pos jZ];have:=Int.emod_nonneg k (b:=((f.b.length-f.synced+1:Nat):Int)) (by omega);omega
      clear oT hk vU ic
      go_upto_region 6 with fail
      have oQ:IntKind.i64.wrap ((f.b.length:Int)-(f.synced:Int))=(f.b.length:Int)-(f.synced:Int):=aQ _ (by omega);have LP:IntKind.i64.wrap ((f.b.length:Int)-(f.synced:Int)+1)=(f.b.length:Int)-(f.synced:Int)+1:=aQ _ (by omega);have hnz:¬((f.b.length:Int)-(f.synced:Int)+1=0):=by omega
      refine cN (λW=>Below wr.heap.size wr W) [] (by kernel_rfl) (bB λ_ _ _ _ _ h=>h) (ay _) ?_;simp only[ct]
      repeat ((first|(apply az;rfl;rintro W hW;go_simp;with_reducible rfl)|(apply aA;rfl));simp only[ah,List.set])
      refine bg ?_;have h7:IntKind.i64.wrap ((f.synced:Int)+k.tmod ((f.b.length:Int)-(f.synced:Int)+1))=(kp:Int):=by rw[Int.tmod_eq_emod_of_nonneg jZ,show((f.b.length:Int)-(f.synced:Int)+1)=((f.b.length-f.synced+1:Nat):Int)by omega,<-vW];exact aQ _ (by omega)
      rw[h7];clear h7 vW
      go_upto_region 7 with fail
      have xO:Grow wr wr.drew:=(ay wr)
      have aR:=ae (Iy.out (wr.drew).drew (xO.trans (ay _)));have afz:IntKind.i64.wrap ((f.b.length:Int)-(kp:Int))=(f.b.length:Int)-(kp:Int):=aQ _ (by omega);have QO:IntKind.i64.wrap ((cV (vw bK):Int)-((f.b.length:Int)-(kp:Int)))=(cV (vw bK):Int)-((f.b.length:Int)-(kp:Int)):=aQ _ (by omega);obtain⟨ff1,ff2⟩:=ff wr (aW _);have hcb:kp<=bc:=by omega
      clear Iy ff xO;refine ue (λW=>Below wr.heap.size wr W) [(0,false),(1,false),(2,false),(3,false),(4,false),(5,false),(6,false),(7,false),(8,false),(9,false),(10,false),(11,false),(12,false),(13,false)] 14 (by kernel_rfl) (by kernel_rfl) (bB λ_ _ _ _ _ h=>h) ((ay wr).trans (ay _)) ?_;simp only[cm,nth]
      repeat ((first|(apply az;rfl;rintro W hW;go_simp;with_reducible rfl)|(apply aA;rfl));simp only[ah,List.set])
      refine bg ?_;refine uf (by rfl) (λK hK=>?_);go_simp;refine hK _ _ ?_;clear hK K aU
      try simp only[ah,List.set,aC]
      go_wp2;go_roundw
      case rel=>exact aR.out
      case measure=>simp[intOf];omega
     .have e1:decide ((0:Int)<=k)=false:=by simpa using jZ
      have vW:kp=f.synced:=by rw[ic];unfold xM;rw[hk];simp only[if_neg jZ]
      clear oT hk vU ic;subst vW
      go_upto_region 7 with fail
      have xO:Grow wr wr:=(aW wr)
      have aR:=ae (Iy.out (wr).drew (xO.trans (ay _)));have afz:IntKind.i64.wrap ((f.b.length:Int)-(f.synced:Int))=(f.b.length:Int)-(f.synced:Int):=aQ _ (by omega);have QO:IntKind.i64.wrap ((cV (vw bK):Int)-((f.b.length:Int)-(f.synced:Int)))=(cV (vw bK):Int)-((f.b.length:Int)-(f.synced:Int)):=aQ _ (by omega);obtain⟨ff1,ff2⟩:=ff wr xO;have hcb:f.synced<=bc:=by omega
      clear Iy ff xO;refine ue (λW=>Below wr.heap.size wr W) [(0,false),(1,false),(2,false),(3,false),(4,false),(5,false),(6,false),(7,false),(8,false),(9,false),(10,false),(11,false),(12,false),(13,false)] 14 (by kernel_rfl) (by kernel_rfl) (bB λ_ _ _ _ _ h=>h) ((aW wr).trans (ay _)) ?_;simp only[cm,nth]
      repeat ((first|(apply az;rfl;rintro W hW;go_simp;with_reducible rfl)|(apply aA;rfl));simp only[ah,List.set])
      refine bg ?_;refine uf (by rfl) (λK hK=>?_);go_simp;refine hK _ _ ?_;clear hK K aU
      try simp only[ah,List.set,aC]
      go_wp2;go_roundw
      case rel=>exact aR.out
      case measure=>simp[intOf];omega
    .have vW:kp=f.synced:=by rw[ic];unfold xM;rw[List.getElem?_eq_none (by omega)]
     have awk:¬(i:Int)<(picks.length:Int):=by omega
     clear vU ic;subst vW
     go_upto_region 7 with fail
     have xO:Grow wr wr:=(aW wr)
     have aR:=ae (Iy.out (wr).drew (xO.trans (ay _)));have afz:IntKind.i64.wrap ((f.b.length:Int)-(f.synced:Int))=(f.b.length:Int)-(f.synced:Int):=aQ _ (by omega);have QO:IntKind.i64.wrap ((cV (vw bK):Int)-((f.b.length:Int)-(f.synced:Int)))=(cV (vw bK):Int)-((f.b.length:Int)-(f.synced:Int)):=aQ _ (by omega);obtain⟨ff1,ff2⟩:=ff wr xO;have hcb:f.synced<=bc:=by omega
     clear Iy ff xO;refine ue (λW=>Below wr.heap.size wr W) [(0,false),(1,false),(2,false),(3,false),(4,false),(5,false),(6,false),(7,false),(8,false),(9,false),(10,false),(11,false),(12,false),(13,false)] 14 (by kernel_rfl) (by kernel_rfl) (bB λ_ _ _ _ _ h=>h) ((aW wr).trans (ay _)) ?_;simp only[cm,nth]
     repeat ((first|(apply az;rfl;rintro W hW;go_simp;with_reducible rfl)|(apply aA;rfl));simp only[ah,List.set])
     refine bg ?_;refine uf (by rfl) (λK hK=>?_);go_simp;refine hK _ _ ?_;clear hK K aU
     try simp only[ah,List.set,aC]
     go_wp2;go_roundw
     case rel=>exact aR.out
     case measure=>simp[intOf];omega
   .obtain rfl:i=ns.length:=by omega
    have hv:=hI.run;rw[List.drop_length]at hv;have Hd:=ae hI.aS;have Hs:=ae hI.sep;have Hv:=ae hv;clear hI hv;go_wp2;go_end0;exact⟨rfl,bK,Hd.out,Hs.out,by rw[Iu.out,Hv.out];rfl⟩
def df(N B:Nat)(w:World):Prop:=∀n:Nat,n<N->∀a:World,(∀b,b<B->a.heap[b]?=w.heap[b]?)->Calls Tryz.prog 123 #[.int .i64 n] a λb w'=>b=.returned (.string ⟨(Lib.decDigits n).toArray⟩)/\Grow a w'
theorem afC(B:Nat)(w:World):df 100 B w:=λn a b _=>(Any.strconv_Itoa_small Tryz.itoa n a b).mono (by rintro a w' ⟨rfl,rfl⟩;exact⟨rfl,aW _⟩)
theorem df.keep{N:Nat}(a:df N B w)(c:∀b,b<B->w'.heap[b]?=w.heap[b]?):df N B w':=λn d e f=>a n d e (λb a=>(f b a).trans (c b a))
def fN(n:Nat):List UInt8:=List.replicate (6-(Lib.decDigits n).length) 48++Lib.decDigits n
theorem xP(x y:List UInt8):(⟨x.toArray⟩:ByteArray)++⟨y.toArray⟩=⟨(x++y).toArray⟩:=by apply ByteArray.ext;simp
def afD(w:World)(n:Nat)(a:Value)(b:World):Prop:=∃k:Nat,a=.string ⟨(List.replicate k 48++Lib.decDigits n).toArray⟩/\(k=0\/k+(Lib.decDigits n).length<=6)/\Grow w b
theorem Iz(a:n<1000000):(Lib.decDigits n).length<=6:=by
 have a:∀m,(Lib.decDigits m).length=if m<10 then 1 else(Lib.decDigits (m/10)).length+1:=λm=>by
  rw[Lib.decDigits];split
  .simp
  .simp
 rw[a];split;· omega
 rw[a];split;· omega
 rw[a];split;· omega
 rw[a];split;· omega
 rw[a];split;· omega
 rw[a,if_pos (by omega)];decide
theorem df.grow{N:Nat}(a:df N B w)(c:Grow w w')(d:B<=w.heap.size):df N B w':=a.keep (λb a=>c.block b (by omega))
theorem LQ(n:Nat):∀c∈Lib.decDigits n,48<=c.toNat/\c.toNat<=57:=by
 induction n using Nat.strongRecOn with
 |_ n b=>
  rw[Lib.decDigits];split
  .intro c a;rw[cZ]at a;subst a;simp only[UInt8.toNat_ofNat'];omega
  .intro c a
   rcases dn.1 a with a|a
   .exact b (n/10) (by omega) c a
   .rw[cZ]at a;subst a;simp only[UInt8.toNat_ofNat'];omega
theorem zG(a:n<1000000):(fN n).length=6:=by have:=Iz a;simp[fN];omega
theorem LR{l:List UInt8}(a:1<=l.length)(b:l.length<=64)(d:∀c∈l,Br c=true):lA ⟨l.toArray⟩:=by
 refine⟨by simpa[ByteArray.size]using a,by simpa[ByteArray.size]using b,λa b=>d _ ?_⟩;have c:a<l.length:=by simpa[ByteArray.size]using b
 have:(⟨l.toArray⟩:ByteArray)[a]=l[a]:=rfl;rw[this];exact List.getElem_mem c
theorem WK{c:UInt8}(a:48<=c.toNat/\c.toNat<=57):Br c=true:=by simp[Br,a.1,a.2]
theorem awl(x y:List UInt8):∀c,Lib.decFrom c (x++y)=(Lib.decFrom c x).bind λa=>Lib.decFrom a y:=by
 induction x with
 |nil=>intro c;rfl
 |cons b r a=>
  intro c;simp only[gP,Lib.decFrom];cases Lib.digitVal b with
  |none=>rfl
  |some b=>simp only[a];try rfl
theorem afE(a:k<10):Lib.digitVal (UInt8.ofNat (48+k))=some k:=by
 have:k=0\/k=1\/k=2\/k=3\/k=4\/k=5\/k=6\/k=7\/k=8\/k=9:=by omega
 rcases this with rfl|rfl|rfl|rfl|rfl|rfl|rfl|rfl|rfl|rfl<;>decide
theorem afF(n:Nat):Lib.decFrom 0 (Lib.decDigits n)=some n:=by
 induction n using Nat.strongRecOn with
 |_ n b=>
  rw[Lib.decDigits];split
  .rename_i a
   simp only[Lib.decFrom,afE a];congr 1;omega
  .rename_i a
   rw[awl,b (n/10) (by omega)];simp only[Option.bind_some,Lib.decFrom,afE (Nat.mod_lt n (by omega:10>0))];congr 1;omega
theorem awm(k:Nat)(l:List UInt8):Lib.decFrom 0 (List.replicate k 48++l)=Lib.decFrom 0 l:=by
 induction k with
 |zero=>rfl
 |succ k a=>rw[List.replicate_succ,gP,Lib.decFrom,show Lib.digitVal 48=some 0 by decide];simpa using a
theorem Ec(n:Nat):Lib.decFrom 0 (fN n)=some n:=by rw[fN,awm,afF]
theorem awn{n:Nat}(a:n<1000000):Lib.atoi (fN n)=some (n:Int):=by
 have d:=zG a;have e:=Ec n;have f:∀c∈fN n,48<=c.toNat:=λc a=>by
  rcases dn.1 a with a|a
  .rw[(List.mem_replicate.1 a).2];decide
  .exact(LQ n c a).1
 cases c:fN n with
 |nil=>rw[c]at d;cases d
 |cons b r=>
  have a:=f b (by rw[c];exact ej ..);have f:(b==45)=false:=by
   cases d:b==45 with
   |false=>rfl
   |true=>rw[eq_of_beq d]at a;exact absurd a (by decide)
  have g:(b==43)=false:=by
   cases d:b==43 with
   |false=>rfl
   |true=>rw[eq_of_beq d]at a;exact absurd a (by decide)
  rw[c]at e;simp[Lib.atoi,f,g,Lib.decNat,e]
theorem afG{n:Nat}(a:n<1000000)(w:World):Calls Tryz.prog 90 #[.string ⟨(fN n).toArray⟩] w λe w'=>e=.returned (.tuple #[.int .i64 n,.nilIface])/\Grow w w':=by have b:=zG a;refine(Any.strconv_Atoi Tryz.atoi ⟨(fN n).toArray⟩ n (by simp[ByteArray.size,b]) (by simpa using awn a) w).mono ?_;rintro e w' ⟨rfl,t,rfl⟩;exact⟨rfl,Lib.bytesWorld_below w _ t⟩
theorem afH(s p:ByteArray)(w:World):Calls Tryz.prog 91 #[.string s,.string p] w λe w'=>e=.returned (.string ⟨(Lib.trimPrefix s.data.toList p.data.toList).toArray⟩)/\w'=w:=Any.strings_TrimPrefix Tryz.avM s p w
theorem awo(n:Nat):Lib.atoi (Lib.decDigits n)=some (n:Int):=by
 have e:=afF n;have d:=LQ n;have a:Lib.decDigits n≠[]:=by rw[Lib.decDigits];split<;>simp
 cases c:Lib.decDigits n with
 |nil=>exact absurd c a
 |cons b r=>
  have a:=(d b (by rw[c];exact ej ..)).1;have f:(b==45)=false:=by
   cases d:b==45 with
   |false=>rfl
   |true=>rw[eq_of_beq d]at a;exact absurd a (by decide)
  have g:(b==43)=false:=by
   cases d:b==43 with
   |false=>rfl
   |true=>rw[eq_of_beq d]at a;exact absurd a (by decide)
  rw[c]at e;simp[Lib.atoi,f,g,Lib.decNat,e]
theorem awp{n:Nat}(a:n<1000000)(w:World):Calls Tryz.prog 90 #[.string ⟨(Lib.decDigits n).toArray⟩] w λe w'=>e=.returned (.tuple #[.int .i64 n,.nilIface])/\Grow w w':=by have b:=Iz a;refine(Any.strconv_Atoi Tryz.atoi ⟨(Lib.decDigits n).toArray⟩ n (by simp[ByteArray.size];omega) (by simpa using awo n) w).mono ?_;rintro e w' ⟨rfl,t,rfl⟩;exact⟨rfl,Lib.bytesWorld_below w _ t⟩
abbrev sL:List UInt8:=[109,97,110,105,102,101,115,116,45]
def dt(n:Nat):ByteArray:=⟨(sL++fN n).toArray⟩
abbrev uz:ByteArray:=⟨#[99,117,114,114,101,110,116]⟩
abbrev rH:ByteArray:=⟨#[99,117,114,114,101,110,116,46,116,109,112]⟩
def eR(n:Nat):ByteArray:=⟨(([116,45]:List UInt8)++fN n).toArray⟩
theorem awq(a:dt m=dt n):m=n:=by
 have c:sL++fN m=sL++fN n:=by have:=congrArg (λb:ByteArray=>b.data.toList) a;simpa[dt]using this
 have b:fN m=fN n:=List.append_cancel_left c;have a:=Ec m;rw[b,Ec n]at a;cases a;rfl
theorem awr:uz≠rH:=by decide
theorem WL(n:Nat):dt n≠uz:=by intro a;have:=congrArg (λb:ByteArray=>b.data.toList) a;simp[dt]at this
theorem QP(n:Nat):dt n≠rH:=by intro a;have:=congrArg (λb:ByteArray=>b.data.toList) a;simp[dt]at this
theorem aws:lA uz:=LR (l:=[99,117,114,114,101,110,116]) (by decide) (by decide) (by decide)
theorem awt:lA rH:=LR (l:=[99,117,114,114,101,110,116,46,116,109,112]) (by decide) (by decide) (by decide)
theorem afI(a:n<1000000):lA (dt n):=by
 have b:=zG a;refine LR (by simp) (by simp[b]) ?_;intro c a;rcases dn.1 a with a|a
 .exact(by decide:∀c∈sL,Br c=true) c a
 .rcases dn.1 a with a|a
  .rw[(List.mem_replicate.1 a).2];decide
  .exact WK (LQ n c a)
theorem afJ{N:Nat}(a:df N B w)(b:n<N)(c:n<1000000):
  Calls Tryz.prog 73 #[.int .i64 n] w λe w'=>e=.returned (.string ⟨(fN n).toArray⟩)/\Grow w w':=by
 have d:=Iz c;have c:=ae (a n b w (λ_ _=>rfl));clear a;go_enter Tryz.func73,Tryz.ntmps73
 go_wp2_with fail
 (with_reducible refine c.out.mono ?_);rintro e a ⟨rfl,a⟩;have b:=ae a;clear a
 go_wp2_with fail
 go_loopw [3] (λa c=>afD w n a c) (λa _=>6-(match a with| .string s=>s.size|_=>0))
 case atStart=>exact⟨0,by simp,.inl rfl,b.out⟩
 case round=>
  obtain⟨k,rfl,a,a⟩:=hrel;have b:=ae a;clear a;have a:(⟨(List.replicate k 48++Lib.decDigits n).toArray⟩:ByteArray).size=k+(Lib.decDigits n).length:=by simp[ByteArray.size]
  by_cases a:k+(Lib.decDigits n).length<6
  .have a:(k:Int)+((Lib.decDigits n).length:Int)<6:=by omega
   have a:¬9223372036854775807<1+(k+(Lib.decDigits n).length):=by omega
   go_wp2;go_roundw
   case rel=>refine⟨k+1,?_,.inr (by omega),b.out⟩;rw[show(⟨#[48]⟩:ByteArray)=⟨([48]:List UInt8).toArray⟩from rfl,xP,List.replicate_succ];rfl
   case measure=>rw[show(⟨#[48]⟩:ByteArray)=⟨([48]:List UInt8).toArray⟩from rfl,xP];simp only[ByteArray.size,List.size_toArray,aM,List.length_replicate,dD,iJ];omega
  .have a:decide ((k:Int)+((Lib.decDigits n).length:Int)<6)=false:=by simp;omega
   have a:k=6-(Lib.decDigits n).length:=by omega
   have c:=ae a;clear a;go_wp2;go_ret;refine⟨?_,b.out⟩;rw[fN,<-c.out];rfl
theorem LS{N:Nat}(h:df N B w)(hn:n<N)(a:n<1000000):
  Calls Tryz.prog 92 #[.int .i64 n] w λe w'=>e=.returned (.string (dt n))/\Grow w w':=by
 have b:=ae (afJ h hn a);have c:=zG a;have a:¬9223372036854775807<9+(fN n).length:=by omega
 clear h;go_enter Tryz.func92,Tryz.ntmps92
 go_wp2_with fail
 (with_reducible refine b.out.mono ?_);rintro e a ⟨rfl,a⟩;go_wp2;go_ret;exact⟨by rw[show(⟨#[109,97,110,105,102,101,115,116,45]⟩:ByteArray)=⟨(sL:List UInt8).toArray⟩from rfl,xP];rfl,a⟩
def oh(V:Vw):Prop:=(V.map (·.1)).Nodup
theorem oh.tail{e:ByteArray×List UInt8×Nat}{V:Vw}(a:oh (e::V)):oh V:=(List.nodup_cons.1 a).2
theorem oh.head{e:ByteArray×List UInt8×Nat}{V:Vw}(a:oh (e::V)):∀g∈V,g.1≠e.1:=λg b c=>(List.nodup_cons.1 a).1 (aV.2 ⟨g,b,c⟩)
theorem IA(e:ByteArray×List UInt8×Nat)(V:Vw):cV (e::V)=e.2.1.length+cV V:=by simp[cV]
theorem fV(n:ByteArray)(e:ByteArray×List UInt8×Nat)(V:Vw):dz n (e::V)=if n=e.1 then some e.2 else dz n V:=by unfold dz;rw[List.find?_cons];by_cases a:n=e.1<;>simp[a]
theorem awu{V:Vw}{n:ByteArray}(a:∀g∈V,g.1≠n)(k:ByteArray×List UInt8×Nat->ByteArray×List UInt8×Nat):(V.map λe=>if e.1=n then k e else e)=V:=by
 induction V with
 |nil=>rfl
 |cons e V b=>rw[cr,if_neg (a e (ej ..)),b (λg b=>a g (fE _ b))]
theorem afK{V:Vw}(c:oh V){n:ByteArray}{b0:List UInt8}(a:dz n V=some (b0,s0))(k:ByteArray×List UInt8×Nat->ByteArray×List UInt8×Nat):
  cV (V.map λe=>if e.1=n then k e else e)+b0.length=cV V+(k (n,b0,s0)).2.1.length:=by
 induction V with
 |nil=>cases a
 |cons e V d=>
  rw[fV]at a;rw[cr,IA,IA];by_cases b:n=e.1
  .rw[if_pos b]at a
   have f:e=(n,b0,s0):=by obtain⟨g,g⟩:=e;cases a;cases b;rfl
   rw[if_pos b.symm,awu (λe g=>b ▸ c.head e g)];subst f;simp only;omega
  .rw[if_neg b]at a;rw[if_neg (λx=>b x.symm)];have:=d c.tail a;omega
theorem afL(n:ByteArray)(V:Vw):cV (uv n V)=cV V:=by
 unfold cV uv;rw[fh];congr 1;apply jf;intro a _;simp only[Function.comp]
 split<;>rfl
theorem afM{n:ByteArray}{V:Vw}:V.any (λe=>decide (e.1=n))=(dz n V).isSome:=by
 induction V with
 |nil=>rfl
 |cons e V a=>
  rw[List.any_cons,fV,a];by_cases a:n=e.1
  .simp[a]
  .have:¬e.1=n:=λx=>a x.symm
   simp[a,this]
theorem afN{V:Vw}(a:oh V)(n:ByteArray)(x:List UInt8):cV (ur n x V)=cV V+x.length:=by
 unfold ur;rw[afM];cases b:dz n V with
 |none=>simp[cV]
 |some c=>obtain⟨b0,s0⟩:=c;rw[if_pos (show(some (b0,s0)).isSome=true from rfl)];have:=afK a b (λa=>(a.1,a.2.1++x,a.2.2));simp only[aM]at this;omega
theorem QQ{V:Vw}(c:oh V){n:ByteArray}(a:dz n V=some (b0,s0)):cV (kF n V)+b0.length=cV V:=by
 induction V with
 |nil=>cases a
 |cons d V e=>
  rw[fV]at a;unfold kF;by_cases b:n=d.1
  .rw[if_pos b]at a;rw[List.filter_cons_of_neg (by simp[b]),List.filter_eq_self.2 (λf g=>by have:=c.head f g;simp[b];exact λx=>this x.symm),IA];obtain⟨f,f⟩:=d;cases a;simp only;omega
  .rw[if_neg b]at a;rw[List.filter_cons_of_pos (by simp[b]),IA,IA];have:=e c.tail a;unfold kF at this;omega
theorem awv{V:Vw}{m n:ByteArray}(c:m≠n):dz n (kF m V)=dz n V:=by
 induction V with
 |nil=>rfl
 |cons d V a=>
  unfold kF at a ⊢;by_cases b:m=d.1
  .rw[List.filter_cons_of_neg (by simp[b]),a,fV,if_neg (λx=>c (b.trans x.symm))]
  .rw[List.filter_cons_of_pos (by simp[b]),fV,fV,a]
theorem afO{V:Vw}(a:oh V){m n:ByteArray}(c:m≠n){b:List UInt8}(d:dz m V=some (b,s))(e:dz n V=some (b0,s0)):cV (vR m n b s V)+b0.length=cV V:=by have f:=QQ a d;have d:oh (kF m V):=List.Nodup.sublist (List.filter_sublist.map _) a;have a:=afK d ((awv c).trans e) (λc=>(c.1,b,s));unfold vR;simp only at a;omega
def WN(n:ByteArray)(x:List UInt8)(V:Vw):Vw:=V.map λa=>if a.1=n then(a.1,x,x.length)else a
theorem WO{n:ByteArray}{V:Vw}(a:dz n V=none)(q:List UInt8×Nat):dz n (V++[(n,q)])=some q:=by
 induction V with
 |nil=>rw[iK,fV,if_pos rfl]
 |cons c V d=>
  rw[fV]at a;by_cases b:n=c.1
  .rw[if_pos b]at a;cases a
  .rw[if_neg b]at a;rw[gP,fV,if_neg b,d a]
theorem WQ{m n:ByteArray}(a:n≠m)(V:Vw)(q:List UInt8×Nat):dz n (V++[(m,q)])=dz n V:=by
 induction V with
 |nil=>rw[iK,fV,if_neg a]
 |cons a V a=>rw[gP,fV,fV,a]
section
def Dk(Z B:Nat)(w:World)(p r:Nat)(V:Vw)(F:Nat->Prop):Prop:=Z<=1073741824/\cV V<=Z/\∃(born:Int)(fs:List Fe),bX B w p r Z (cV V) born fs/\vw fs=V/\dH p r fs=F
def LU(Z B:Nat)(w:World)(p r:Nat)(F:Nat->Prop)(w':World)(b:Vw):Prop:=∃a,Dk Z B w' p r b a/\Sep F w w' a
variable{Z B:Nat}{w w':World}{p r:Nat}{V:Vw}{F:Nat→Prop}
theorem Dk.grow(a:Dk Z B w p r V F)(b:Grow w w'):Dk Z B w' p r V F:=by obtain⟨c,d,born,fs,e,f,g⟩:=a;exact⟨c,d,born,fs,e.grow b,f,g⟩
theorem WR(fs:List Fe):(vw fs).map (·.1)=fs.map Fe.name:=by simp[vw,Function.comp]
theorem Dk.names(a:Dk Z B w p r V F):oh V:=by obtain⟨b,b,born,fs,b,rfl,c⟩:=a;unfold oh;rw[WR];exact b.names
theorem Dk.base(a:Dk Z B w p r V F):B<=w.heap.size:=by obtain⟨b,b,born,fs,b,rfl,c⟩:=a;exact b.base.2.2
theorem Dk.foot(a:Dk Z B w p r V F)(c:F b):B<=b/\b<w.heap.size:=by obtain⟨b,b,born,fs,b,rfl,rfl⟩:=a;exact b.Wn c
theorem Dk.apart(a:Dk Z B w p r V F)(c:w.heap[b]?=some (.cells arr t f))(d:t≠125)(e:t≠165)(f:t≠5):¬F b:=by obtain⟨b,b,born,fs,b,rfl,rfl⟩:=a;exact b.apart c d e f
theorem IB{fs:List Fe}{f:Fe}(a:f∈fs){Z:Nat}(b:cV (vw fs)<=Z):f.b.length<=Z:=aJ (afu a) b
theorem aww(a:Dk Z B w p r V F)(n:ByteArray):Calls Tryz.prog 34 #[.pointer (some ⟨p,0,none⟩),.string n] w λe w'=>
  (match dz n V with
   |none=>e=.returned (.tuple #[.slice none 0 0,.int .i64 4])
   |some (b,_)=>∃v,e=.returned (.tuple #[v,.int .i64 0])/\aI w.heap.size w' v b)/\Grow w w':=by
 obtain⟨b,b,born,fs,c,rfl,rfl⟩:=a;refine(aeZ c n (λf a=>by have:=IB a b;omega)).mono ?_;rintro e b ⟨b,c⟩;refine⟨?_,c⟩;rw[xN];cases a:fileOf n fs with
 |none=>rw[a]at b;exact b
 |some f=>rw[a]at b;exact b
theorem awx(a:Dk Z B w p r V F){n:ByteArray}(b:lA n)(c:w.heap[qb]?=some (.cells #[pv] 49 (0,0)))(d:Bv w pv x)(g:cV V+x.length<=Z):
  Calls Tryz.prog 78 #[.pointer (some ⟨p,0,none⟩),.string n,.slice (some ⟨qb,0,none⟩) 1 1] w λe w'=>e=.returned (.int .i64 0)/\LU Z B w p r F w' (ur n x V):=by
 have h:=a.names;obtain⟨i,j,born,fs,g,rfl,rfl⟩:=a;have k:Calls Tryz.prog 78 #[.pointer (some ⟨p,0,none⟩),.string n,.slice (some ⟨qb,0,none⟩) 1 1] w (Lp B w p r Z (cV (vw fs)) born fs n x):=by
  cases a:fileOf n fs with
  |none=>exact avs g a b c d (by omega) (by omega) (by omega)
  |some f=>exact avq g a b c d (by omega) (by omega) (by omega) (by have:=IB (um a).1 j;omega)
 refine k.mono ?_;rintro e a ⟨rfl,a,b,c,d⟩;have e:=afN h n x;refine⟨rfl,_,⟨i,by omega,born,a,?_,d,rfl⟩,c⟩;rw[e,Int.natCast_add];exact b
theorem awy(b:Dk Z B w p r V F){n:ByteArray}(c:lA n)(a:dz n V=none):
  Calls Tryz.prog 78 #[.pointer (some ⟨p,0,none⟩),.string n,.slice none 0 0] w λe w'=>e=.returned (.int .i64 0)/\LU Z B w p r F w' (V++[(n,[],0)]):=by
 obtain⟨d,f,born,fs,f,rfl,rfl⟩:=b;have b:fileOf n fs=none:=by rw[xN]at a;simpa using a
 refine(avu f b c (by omega) (by omega) (by omega)).mono ?_;rintro e a ⟨rfl,a,b,c,e⟩;have f:cV (vw fs++[(n,[],0)])=cV (vw fs):=by simp[cV]
 exact⟨rfl,_,⟨d,by omega,born,a,by rw[f];exact b,e,rfl⟩,c⟩
theorem awz(c:Dk Z B w p r V F){n:ByteArray}{b:List UInt8}(a:dz n V=some (b,s))(d:w.heap[qb]?=some (.cells #[.string n] 9 (0,0))):
  Calls Tryz.prog 83 #[.pointer (some ⟨p,0,none⟩),.slice (some ⟨qb,0,none⟩) 1 1] w λe w'=>e=.returned (.int .i64 0)/\LU Z B w p r F w' (uv n V):=by
 obtain⟨g,h,born,fs,i,rfl,rfl⟩:=c;rw[xN]at a;obtain⟨f,b,_⟩:=Option.map_eq_some_iff.1 a;refine(avy i b d (by have:=IB (um b).1 h;omega)).mono ?_;rintro e a ⟨rfl,a,b,c,d⟩;have e:=afL n (vw fs);exact⟨rfl,_,⟨g,by omega,born,a,by rw[e];exact b,d,rfl⟩,c⟩
theorem awA(b:Dk Z B w p r V F){n:ByteArray}(a:dz n V=none)(c:w.heap[qb]?=some (.cells #[.string n] 9 (0,0))):
  Calls Tryz.prog 64 #[.pointer (some ⟨p,0,none⟩),.slice (some ⟨qb,0,none⟩) 1 1] w λe w'=>e=.returned (.int .i64 4)/\Grow w w':=by
 obtain⟨d,d,born,fs,d,rfl,rfl⟩:=b;exact avz d (by rw[xN]at a;simpa using a) c
theorem awB(h:Dk Z B w p r V F){n:ByteArray}{b:List UInt8}(hl:dz n V=some (b,s))(hq:w.heap[qb]?=some (.cells #[.string n] 9 (0,0))):
  Calls Tryz.prog 64 #[.pointer (some ⟨p,0,none⟩),.slice (some ⟨qb,0,none⟩) 1 1] w λe w'=>e=.returned (.int .i64 0)/\LU Z B w p r F w' (kF n V):=by
 have ht:=QQ h.names hl;obtain⟨hZ,h0,born,fs,h1,rfl,rfl⟩:=h;rw[xN]at hl;obtain⟨f,hf,sM⟩:=Option.map_eq_some_iff.1 hl;cases sM;refine(avA h1 hf hq (by have:=IB (um hf).1 h0;omega) (by omega) (by omega)).mono ?_;rintro e w2 ⟨rfl,bK,hd,hs,hv⟩;refine⟨rfl,_,⟨hZ,by omega,born,bK,?_,hv,rfl⟩,hs⟩;have:((cV (kF n (vw fs)):Nat):Int)=(cV (vw fs):Int)-(f.b.length:Int):=by omega
 rw[this];exact hd
theorem awC(h:Dk Z B w p r V F){m n:ByteArray}(fU:m≠n)(hn:lA n){b:List UInt8}(vY:dz m V=some (b,s))(lB:dz n V=some (b0,s0)):
  Calls Tryz.prog 153 #[.pointer (some ⟨p,0,none⟩),.string m,.string n] w λe w'=>e=.returned (.int .i64 0)/\LU Z B w p r F w' (vR m n b s V):=by
 have ht:=afO h.names fU vY lB;obtain⟨hZ,h0,born,fs,h1,rfl,rfl⟩:=h;rw[xN]at vY lB;obtain⟨f,hf,sM⟩:=Option.map_eq_some_iff.1 vY;obtain⟨g,hg,hgb⟩:=Option.map_eq_some_iff.1 lB;cases sM;cases hgb;refine(avF h1 hf hg fU hn (by have:=IB (um hg).1 h0;omega) (by omega) (by omega)).mono ?_;rintro e w2 ⟨rfl,bK,hd,hs,hv⟩;refine⟨rfl,_,⟨hZ,by omega,born,bK,?_,hv,rfl⟩,hs⟩;have:((cV (vR m n f.b f.synced (vw fs)):Nat):Int)=(cV (vw fs):Int)-(g.b.length:Int):=by omega
 rw[this];exact hd
end
end Go.Proofs.YtoolkdapflaeeaaGreatDoor
namespace Go.Proofs.YtoolkdapflaeeaaGreatDoor
open Go.RowKit Go.Gl Go.aF
section
def nM(m n:ByteArray)(f:Fe)(c:Nat)(fs:List Fe):List Fe:=qH m fs++[⟨n,c,f.fb,f.bv,f.b,f.synced⟩]
def zH(m n:ByteArray)(b:List UInt8)(s:Nat)(V:Vw):Vw:=kF m V++[(n,b,s)]
theorem awD(m n:ByteArray)(f:Fe)(c:Nat)(fs:List Fe):vw (nM m n f c fs)=zH m n f.b f.synced (vw fs):=by unfold nM zH;rw[<-Wu];simp[vw]
theorem awE(m n:ByteArray)(f:Fe)(c:Nat)(fs:List Fe)(a:m≠n):(nM m n f c fs).map Fe.aB=((fs.map Fe.aB)++[(⟨n,.pointer (some ⟨f.fb,0,none⟩),c⟩:aD ByteArray)]).filter (λe=>decide (m≠e.key)):=by unfold nM;rw[dS,afh,List.filter_append];congr 1;rw[List.filter_cons_of_pos (by simpa using a),List.filter_nil];rfl
section
variable{B:Nat}{w:World}{p r:Nat}{size used born:Int}{fs:List Fe}
theorem bX.awF(h:bX B w p r size used born fs){m n:ByteArray}{f:Fe}(l:f∈fs)(q:f.name=m)(t:∀g∈fs,n≠g.name)(hm:MapAt w r Value.string (fs.map Fe.aB) c)(s:∀f∈fs,f.born<c):
  bX B (dp w r (.map (((nM m n f c fs).map Fe.aB).map (aD.raw Value.string)).toArray (c+1))) p r size used born (nM m n f c fs)/\
  Sep (dH p r fs) w (dp w r (.map (((nM m n f c fs).map Fe.aB).map (aD.raw Value.string)).toArray (c+1))) (dH p r (nM m n f c fs)):=by
 have i:=af hm;generalize a:dp w r (.map (((nM m n f c fs).map Fe.aB).map (aD.raw Value.string)).toArray (c+1))=d;have o:∀b,b≠r->d.heap[b]?=w.heap[b]?:=λb j=>by rw[<-a,zu j]
 have u:MapAt d r Value.string ((nM m n f c fs).map Fe.aB) (c+1):=by rw[<-a];unfold MapAt;rw[zt i]
 have v:d.heap.size=w.heap.size:=by rw[<-a];simp[dp]
 have i:∀g∈qH m fs,g∈fs/\g.name≠m:=λg hg=>by obtain⟨d,j⟩:=List.mem_filter.1 hg;exact⟨d,λe=>by simp[e]at j⟩
 have r:∀g∈nM m n f c fs,∃k∈fs,g.fb=k.fb/\g.bv=k.bv/\g.b=k.b/\g.synced=k.synced:=by
  intro g hg;rcases dn.1 hg with d|d
  .exact⟨g,(i g d).1,rfl,rfl,rfl,rfl⟩
  .obtain rfl:=cZ.1 d;exact⟨f,l,rfl,rfl,rfl,rfl⟩
 refine⟨⟨(o p h.DV).trans h.self,⟨c+1,u,λg hg=>?_⟩,?_,?_,?_,?_,λg hg=>?_,h.base.1,h.base.2.1,by rw[v];exact h.base.2.2⟩,⟨by rw[<-a];rfl,by rw[<-a];rfl,by rw[<-a];rfl,by omega,λb _ hn=>o b (λe=>hn (.inr (.inl e))),?_⟩⟩
 .rcases dn.1 hg with d|d
  .have:=s g (i g d).1;omega
  .obtain rfl:=cZ.1 d;simp
 .unfold nM;rw[dS];refine List.nodup_append.2 ⟨h.names.sublist (List.filter_sublist.map _),by simp,λc ha b a=>?_⟩;simp only[cr,List.map_nil,cZ]at a;subst a;obtain⟨g,hg,rfl⟩:=aV.1 ha;exact Ne.symm (t g (i g hg).1)
 .unfold nM;rw[dS];refine List.nodup_append.2 ⟨h.uj.sublist (List.filter_sublist.map _),by simp,λc ha b a=>?_⟩;simp only[cr,List.map_nil,cZ]at a;subst a;obtain⟨g,hg,rfl⟩:=aV.1 ha;have:=s g (i g hg).1;omega
 .unfold nM;rw[dS];refine List.nodup_append.2 ⟨h.uk.sublist (List.filter_sublist.map _),by simp,λc ha b a=>?_⟩;simp only[cr,List.map_nil,cZ]at a;subst a;obtain⟨g,hg,rfl⟩:=aV.1 ha;intro e;have:=Wo h.uk (i g hg).1 l e;exact(i g hg).2 (by rw[this,q])
 .intro c ha b a x e m
  rcases dn.1 ha with d|d
  .rcases dn.1 a with j|j
   .exact h.rows c (i c d).1 b (i b j).1 x e m
   .obtain rfl:=cZ.1 j;have:=h.rows c (i c d).1 f l x e m;exact absurd (this.trans q) (i c d).2
  .obtain rfl:=cZ.1 d
   rcases dn.1 a with j|j
   .have:=h.rows f l b (i b j).1 x e m;exact absurd (this.symm.trans q) (i b j).2
   .obtain rfl:=cZ.1 j;rfl
 .obtain⟨k,c,d,e,i,j⟩:=r g hg;have f:=h.files k c;exact⟨by rw[d,e,j];exact(o _ (h.Bu c).2).trans f.cell,by rw[e,i];exact f.row.keep (λb a=>o b (h.vP c a).2.1),by rw[d];exact f.base,by rw[i,j];exact f.sync⟩
 .rintro b (rfl|rfl|⟨g,hg,a⟩)
  .exact .inl (.inl rfl)
  .exact .inl (.inr (.inl rfl))
  .obtain⟨k,c,d,e,_,_⟩:=r g hg;rw[d,e]at a;exact .inl (.inr (.inr ⟨k,c,a⟩))
end
theorem awG{B:Nat}{w:World}{p r:Nat}{size used born:Int}{fs:List Fe}(h:bX B w p r size used born fs){m n:ByteArray}{f:Fe}(gh:fileOf m fs=some f)(hgo:fileOf n fs=none)(fU:m≠n)(hn:lA n):
  Calls Tryz.prog 153 #[.pointer (some ⟨p,0,none⟩),.string m,.string n] w λe w'=>e=.returned (.int .i64 0)/\∃bK,bX B w' p r size used born bK/\Sep (dH p r fs) w w' (dH p r bK)/\vw bK=zH m n f.b f.synced (vw fs):=by
 obtain⟨hm,lC⟩:=um gh;have jY:=DU hgo;have avG:(Instr.lookup 123 (.map (some r)) (.string m) false).run Tryz.prog w=.ok (.pointer (some ⟨f.fb,0,none⟩)) w:=by have:=h.lookup m;simpa only[oO,gh]using this
 have avH:(Instr.lookup 123 (.map (some r)) (.string n) false).run Tryz.prog w=.ok (.pointer none) w:=by have:=h.lookup n;simpa only[oO,hgo]using this
 obtain⟨c0,c1,c2,c3⟩:=h.cells;have lp:=af h.self;obtain⟨ck,hmap,iT⟩:=h.map;have uw:((fs.map Fe.aB).map aD.key).Nodup:=by have:=h.names;rw[fh];exact this
 have QK:=Qw sH Tryz.underlying123 hmap n (.pointer (some ⟨f.fb,0,none⟩)) (λe he=>by obtain⟨g,hg,rfl⟩:=aV.1 he;exact jY g hg);have LA:MapAt (dp w r (.map (((fs.map Fe.aB)++[(⟨n,.pointer (some ⟨f.fb,0,none⟩),ck⟩:aD ByteArray)]).map (aD.raw Value.string)).toArray (ck+1))) r Value.string ((fs.map Fe.aB)++[(⟨n,.pointer (some ⟨f.fb,0,none⟩),ck⟩:aD ByteArray)]) (ck+1):=by unfold MapAt;rw[zt (af hmap)]
 have LB:(((fs.map Fe.aB)++[(⟨n,.pointer (some ⟨f.fb,0,none⟩),ck⟩:aD ByteArray)]).map aD.key).Nodup:=by rw[dS];refine List.nodup_append.2 ⟨uw,by simp,λa ha b hb=>?_⟩;simp only[cr,List.map_nil,cZ]at hb;subst hb;obtain⟨e,he,rfl⟩:=aV.1 ha;obtain⟨g,hg,rfl⟩:=aV.1 he;exact Ne.symm (jY g hg)
 have hdel:=Qx (ty:=0) (kt':=9) sH Tryz.underlying123 LA LB m;rw[<-awE m n f ck fs fU]at hdel;obtain⟨gA,hs3⟩:=h.awF hm lC jY hmap iT;have xI:dp (dp w r (.map (((fs.map Fe.aB)++[(⟨n,.pointer (some ⟨f.fb,0,none⟩),ck⟩:aD ByteArray)]).map (aD.raw Value.string)).toArray (ck+1))) r (.map (((nM m n f ck fs).map Fe.aB).map (aD.raw Value.string)).toArray (ck+1))=dp w r (.map (((nM m n f ck fs).map Fe.aB).map (aD.raw Value.string)).toArray (ck+1)):=by unfold dp;simp
 rw[xI]at hdel;have zC:(dp w r (.map (((fs.map Fe.aB)++[(⟨n,.pointer (some ⟨f.fb,0,none⟩),ck⟩:aD ByteArray)]).map (aD.raw Value.string)).toArray (ck+1))).heap[p]?=w.heap[p]?:=zu h.DV;have lp3:=af (zC.trans h.self);have ib:Hid (∃bK,bX B (dp w r (.map (((nM m n f ck fs).map Fe.aB).map (aD.raw Value.string)).toArray (ck+1))) p r size used born bK/\Sep (dH p r fs) w (dp w r (.map (((nM m n f ck fs).map Fe.aB).map (aD.raw Value.string)).toArray (ck+1))) (dH p r bK)/\vw bK=zH m n f.b f.synced (vw fs)):=ae ⟨_,gA,hs3,awD m n f ck fs⟩;generalize hw3:dp w r (.map (((fs.map Fe.aB)++[(⟨n,.pointer (some ⟨f.fb,0,none⟩),ck⟩:aD ByteArray)]).map (aD.raw Value.string)).toArray (ck+1))=w3 at*;generalize hw4:dp w r (.map (((nM m n f ck fs).map Fe.aB).map (aD.raw Value.string)).toArray (ck+1))=w4 at*;have e3':w3.cell? ⟨p,3,none⟩=some (.map (some r)):=by simp[World.cell?,zC,h.self]
 clear hw3 hw4 gA hs3 hmap iT h hm gh hgo lC jY c0 c1 c2 uw LB LA xI zC;have hne:(m==n)=false:=by
  cases hb:(m==n)with
  |false=>rfl
  |true=>exact absurd ((Go.MapKept.bytes_beq _ _).1 hb) fU
 have zD:(m.toList==n.toList)=false:=by
  cases hb:(m.toList==n.toList)with
  |false=>rfl
  |true=>exact absurd (ByteArray.ext (by simpa[jz]using hb)) fU
 go_enter Tryz.func153,Tryz.ntmps153
 go_wp2_with ((with_reducible refine(Im hn _).mono ?_);rintro e w1 ⟨rfl,hw⟩;have hw':=hw.symm;subst hw';clear hw)
 go_ret;exact⟨rfl,ib.out⟩
theorem awH{B:Nat}{w:World}{p r:Nat}{size used born:Int}{fs:List Fe}(a:bX B w p r size used born fs){n:ByteArray}(d:lA n)(b:w.heap[qb]?=some (.cells #[pv] 49 (0,0)))(c:Bv w pv x)(f:0<=used)(f:used<=1073741824)(f:x.length<=1000000000000)(f:size<used+x.length):
  Calls Tryz.prog 78 #[.pointer (some ⟨p,0,none⟩),.string n,.slice (some ⟨qb,0,none⟩) 1 1] w λe w'=>e=.returned (.int .i64 5)/\Grow w w':=by
 obtain⟨g,g,g,g⟩:=a.cells;have g:=af a.self;have g:w.cell? ⟨qb,0,none⟩=some pv:=by simp[World.cell?,b]
 have g:=af b;obtain⟨g,g,rfl⟩:=c.slice;have g:decide (size<used+(x.length:Int))=true:=by simpa using f
 have f:IntKind.i64.wrap (used+(x.length:Int))=used+(x.length:Int):=aQ _ (by omega);have f:IntKind.i64.wrap (0+(x.length:Int))=(x.length:Int):=by rw[Int.zero_add];exact aQ _ (by omega)
 have f:IntKind.i64.wrap (x.length:Int)=(x.length:Int):=aQ _ (by omega);have f:=Grow.cells (w:=w);clear a c b;go_enter Tryz.func78,Tryz.ntmps78
 go_wp2_with fail
 refine wp_loop_rounds 2 ?_;rw[rounds_succ]
 go_wp2_with fail
 rw[rounds_succ]
 go_wp2_with ((with_reducible refine(Im d _).mono ?_);rintro e b ⟨rfl,b⟩;have c:=b.symm;subst c;clear b)
 refine cN (λb=>Below w.heap.size w b) [] (by kernel_rfl) (bB λ_ _ _ _ _ a=>a) (ay _) ?_;simp only[ct]
 repeat ((first|(apply az;rfl;rintro b a;go_simp;with_reducible rfl)|(apply aA;rfl));simp only[ah,List.set])
 refine bg ?_;go_wp2;go_ret;exact⟨rfl,ay w⟩
end
end Go.Proofs.YtoolkdapflaeeaaGreatDoor
namespace Go.Proofs.YtoolkdapflaeeaaGreatDoor
open Go.RowKit Go.Gl Go.aF Go.Sort
section
abbrev Lk:=ByteArray->Option (List UInt8×Nat)
def Lk.set(f:Lk)(n:ByteArray)(q:List UInt8×Nat):Lk:=λm=>if m=n then some q else f m
def Lk.del(f:Lk)(n:ByteArray):Lk:=λm=>if m=n then none else f m
def Lk.add(f:Lk)(n:ByteArray)(x:List UInt8):Lk:=f.set n (match f n with|none=>(x,0)|some a=>(a.1++x,a.2))
def ie(V:Vw):Lk:=λn=>dz n V
theorem sN(f:Lk)(n:ByteArray)(q:List UInt8×Nat):(f.set n q) n=some q:=if_pos rfl
theorem iC(f:Lk){m n:ByteArray}(a:m≠n)(q:List UInt8×Nat):(f.set n q) m=f m:=if_neg a
theorem afP(f:Lk)(n:ByteArray):(f.del n) n=none:=if_pos rfl
theorem afQ(f:Lk){m n:ByteArray}(a:m≠n):(f.del n) m=f m:=if_neg a
theorem QR(f:Lk)(n:ByteArray)(q a:List UInt8×Nat):(f.set n q).set n a=f.set n a:=by funext m;by_cases a:m=n<;>simp[Lk.set,a]
theorem afR(f:Lk)(n:ByteArray)(q:List UInt8×Nat):(f.set n q).del n=f.del n:=by funext m;by_cases a:m=n<;>simp[Lk.set,Lk.del,a]
theorem awI(f:Lk)(n:ByteArray)(q:List UInt8×Nat):(f.del n).set n q=f.set n q:=by funext m;by_cases a:m=n<;>simp[Lk.set,Lk.del,a]
theorem WS{f:Lk}{n:ByteArray}(b:f n=none):f.del n=f:=by
 funext m;by_cases a:m=n
 .subst a;simp[Lk.del,b]
 .simp[Lk.del,a]
theorem awJ(f:Lk){m n:ByteArray}(c:m≠n)(a b:List UInt8×Nat):(f.set m a).set n b=(f.set n b).set m a:=by
 funext k;by_cases a:k=n
 .subst a;simp[Lk.set,Ne.symm c]
 .simp[Lk.set,a]
theorem afS{f:Lk}{n:ByteArray}{q:List UInt8×Nat}(a:f n=some q):f.set n q=f:=by
 funext k;unfold Lk.set;split
 .rename_i b;rw[b,a]
 .rfl
theorem WT(n:ByteArray)(x:List UInt8):∀(V:Vw)(m:ByteArray),dz m (V.map (λe=>if e.1=n then(e.1,e.2.1++x,e.2.2)else e))=if m=n then(dz n V).map (λq=>(q.1++x,q.2))else dz m V
 | [],m=>by simp[dz]
 |e::V,m=>by
  rw[cr];by_cases a:e.1=n
  .rw[if_pos a,fV,WT n x V m,fV,fV];by_cases b:m=n<;>simp[b,a]
  .rw[if_neg a,fV,WT n x V m,fV,fV]
   by_cases b:m=n
   .subst b;simp[Ne.symm a]
   .simp[b]
theorem awK(n:ByteArray)(x:List UInt8)(V:Vw):ie (ur n x V)=(ie V).add n x:=by
 funext m
 unfold ur ie Lk.add Lk.set;rw[afM];cases a:dz n V with
 |none=>
  simp only[Option.isSome_none,Bool.false_eq_true,if_false];by_cases b:m=n
  .subst b;rw[if_pos rfl,WO a];simp[a]
  .rw[if_neg b,WQ b]
 |some b=>simp only[Option.isSome_some,if_true];rw[WT,a];rfl
theorem afT(n:ByteArray):∀(V:Vw)(m:ByteArray),dz m (uv n V)=if m=n then(dz n V).map (λq=>(q.1,q.1.length))else dz m V
 | [],m=>by simp[dz,uv]
 |e::V,m=>by
  have c:=afT n V m;unfold uv at c ⊢;rw[cr];by_cases a:e.1=n
  .rw[if_pos a,fV,c,fV,fV];by_cases b:m=n<;>simp[b,a]
  .rw[if_neg a,fV,c,fV,fV]
   by_cases b:m=n
   .subst b;simp[Ne.symm a]
   .simp[b]
theorem awL{n:ByteArray}{V:Vw}{q:List UInt8×Nat}(a:ie V n=some q):ie (uv n V)=(ie V).set n (q.1,q.1.length):=by
 funext m
 unfold ie at a;unfold ie Lk.set;rw[afT,a];rfl
theorem IC(n:ByteArray):∀(V:Vw)(m:ByteArray),dz m (kF n V)=if m=n then none else dz m V
 | [],m=>by simp[dz,kF]
 |e::V,m=>by
  have c:=IC n V m;unfold kF at c ⊢;by_cases b:n=e.1
  .rw[List.filter_cons_of_neg (by simpa using b),c,fV]
   by_cases a:m=n
   .rw[if_pos a,if_pos a]
   .rw[if_neg a,if_neg a,if_neg (λd=>a (d.trans b.symm))]
  .rw[List.filter_cons_of_pos (by simpa using b),fV,c,fV]
   by_cases a:m=n
   .rw[if_pos a,if_pos a,if_neg (λd=>b (a.symm.trans d))]
   .rw[if_neg a,if_neg a]
theorem awM(n:ByteArray)(V:Vw):ie (kF n V)=(ie V).del n:=by funext m;unfold ie Lk.del;exact IC n V m
theorem WU(n:ByteArray)(q:List UInt8×Nat):∀(V:Vw)(m:ByteArray),dz m (V.map (λe=>if e.1=n then(e.1,q)else e))=if m=n then(dz n V).map (λ_=>q)else dz m V
 | [],m=>by simp[dz]
 |e::V,m=>by
  rw[cr];by_cases a:e.1=n
  .rw[if_pos a,fV,WU n q V m,fV,fV];by_cases b:m=n<;>simp[b,a]
  .rw[if_neg a,fV,WU n q V m,fV,fV]
   by_cases b:m=n
   .subst b;simp[Ne.symm a]
   .simp[b]
theorem awN{m n:ByteArray}(c:m≠n){V:Vw}{q:List UInt8×Nat}(a:ie V n=some q)(b:List UInt8)(s:Nat):ie (vR m n b s V)=((ie V).del m).set n (b,s):=by
 funext k
 unfold ie at a;unfold vR ie Lk.set Lk.del;rw[WU n (b,s),IC,IC,if_neg (Ne.symm c),a];rfl
theorem awO{m n:ByteArray}(c:m≠n){V:Vw}(a:ie V n=none)(b:List UInt8)(s:Nat):ie (zH m n b s V)=((ie V).del m).set n (b,s):=by
 funext k
 unfold ie at a;unfold zH ie Lk.set Lk.del;have b:dz n (kF m V)=none:=by rw[IC,if_neg (Ne.symm c),a]
 by_cases a:k=n
 .subst a;rw[if_pos rfl,WO b]
 .rw[if_neg a,WQ a,IC]
def Dl(Z B:Nat)(w:World)(p r:Nat)(f:Lk)(T K:Nat)(F:Nat->Prop):Prop:=∃V,Dk Z B w p r V F/\ie V=f/\cV V=T/\V.length<=K
def pR(Z B:Nat)(w:World)(p r:Nat)(F:Nat->Prop)(w':World)(f:Lk)(T K:Nat):Prop:=∃a,Dl Z B w' p r f T K a/\Sep F w w' a
variable{Z B:Nat}{w w':World}{p r:Nat}{f:Lk}{T K:Nat}{F:Nat→Prop}
theorem Dl.grow(a:Dl Z B w p r f T K F)(b:Grow w w'):Dl Z B w' p r f T K F:=by obtain⟨V,c,d,e,f⟩:=a;exact⟨V,c.grow b,d,e,f⟩
theorem Dl.base(a:Dl Z B w p r f T K F):B<=w.heap.size:=by obtain⟨V,b,_⟩:=a;exact b.base
theorem Dl.foot(a:Dl Z B w p r f T K F)(c:F b):B<=b/\b<w.heap.size:=by obtain⟨V,b,_⟩:=a;exact b.foot c
theorem Dl.apart(a:Dl Z B w p r f T K F)(c:w.heap[b]?=some (.cells arr t fz))(d:t≠125)(e:t≠165)(f:t≠5):¬F b:=by obtain⟨V,b,_⟩:=a;exact b.apart c d e f
theorem Dl.total(a:Dl Z B w p r f T K F):T<=Z:=by obtain⟨V,⟨_,b,_⟩,_,b,_⟩:=a;omega
theorem Dl.size(a:Dl Z B w p r f T K F):Z<=1073741824:=by obtain⟨V,⟨b,_⟩,_⟩:=a;exact b
theorem Dl.more(a:Dl Z B w p r f T K F)(b:K<=K'):Dl Z B w p r f T K' F:=by obtain⟨V,b,c,d,e⟩:=a;exact⟨V,b,c,d,by omega⟩
theorem afU{n:ByteArray}{q:List UInt8×Nat}:∀{V:Vw},dz n V=some q->q.1.length<=cV V
 | [],h=>by simp[dz]at h
 |e::V,h=>by
  rw[fV]at h;rw[IA]
  split at h
  .cases h;omega
  .have:=afU h;omega
theorem Dl.len(b:Dl Z B w p r f T K F){n:ByteArray}{q:List UInt8×Nat}(a:f n=some q):q.1.length<=T:=by obtain⟨V,_,c,d,_⟩:=b;rw[<-c]at a;rw[<-d];exact afU a
theorem LV(a:Dl Z B w p r f T K F)(n:ByteArray):Calls Tryz.prog 34 #[.pointer (some ⟨p,0,none⟩),.string n] w λe w'=>
  (match f n with
   |none=>e=.returned (.tuple #[.slice none 0 0,.int .i64 4])
   |some (b,_)=>∃v,e=.returned (.tuple #[v,.int .i64 0])/\aI w.heap.size w' v b)/\Grow w w':=by
 obtain⟨V,b,rfl,c,_⟩:=a;exact aww b n
theorem afV(b:Dl Z B w p r f T K F){n:ByteArray}(c:lA n)(d:w.heap[qb]?=some (.cells #[pv] 49 (0,0)))(g:Bv w pv x)(h:T+x.length<=Z):
  Calls Tryz.prog 78 #[.pointer (some ⟨p,0,none⟩),.string n,.slice (some ⟨qb,0,none⟩) 1 1] w λe w'=>e=.returned (.int .i64 0)/\pR Z B w p r F w' (f.add n x) (T+x.length) (K+1):=by
 obtain⟨V,a,rfl,rfl,f⟩:=b;refine(awx a c d g h).mono ?_;rintro e b ⟨b,c,d,e⟩;refine⟨b,c,⟨_,d,awK n x V,afN a.names n x,?_⟩,e⟩;unfold ur
 split<;>simp<;>omega
theorem afW(a:Dl Z B w p r f T K F){n:ByteArray}(b:lA n)(c:w.heap[qb]?=some (.cells #[pv] 49 (0,0)))(d:Bv w pv x)(f:x.length<=1000000000000)(g:Z<T+x.length):
  Calls Tryz.prog 78 #[.pointer (some ⟨p,0,none⟩),.string n,.slice (some ⟨qb,0,none⟩) 1 1] w λe w'=>e=.returned (.int .i64 5)/\Grow w w':=by
 obtain⟨V,⟨e,e,born,fs,e,rfl,rfl⟩,rfl,rfl,g⟩:=a;exact awH e b c d (by omega) (by omega) f (by omega)
theorem LW(b:Dl Z B w p r f T K F){n:ByteArray}{q:List UInt8×Nat}(a:f n=some q)(c:w.heap[qb]?=some (.cells #[.string n] 9 (0,0))):
  Calls Tryz.prog 83 #[.pointer (some ⟨p,0,none⟩),.slice (some ⟨qb,0,none⟩) 1 1] w λe w'=>e=.returned (.int .i64 0)/\pR Z B w p r F w' (f.set n (q.1,q.1.length)) T K:=by
 obtain⟨V,d,rfl,rfl,f⟩:=b;refine(awz d a c).mono ?_;rintro e b ⟨b,c,d,e⟩;exact⟨b,c,⟨_,d,awL a,afL n V,by simpa[uv]using f⟩,e⟩
theorem afX(a:Dl Z B w p r f T K F){n:ByteArray}(b:f n=none)(c:w.heap[qb]?=some (.cells #[.string n] 9 (0,0))):
  Calls Tryz.prog 64 #[.pointer (some ⟨p,0,none⟩),.slice (some ⟨qb,0,none⟩) 1 1] w λe w'=>e=.returned (.int .i64 4)/\Grow w w':=by
 obtain⟨V,d,rfl,rfl,e⟩:=a;exact awA d b c
theorem WV(c:Dl Z B w p r f T K F){n:ByteArray}{q:List UInt8×Nat}(a:f n=some q)(d:w.heap[qb]?=some (.cells #[.string n] 9 (0,0))):
  Calls Tryz.prog 64 #[.pointer (some ⟨p,0,none⟩),.slice (some ⟨qb,0,none⟩) 1 1] w λe w'=>e=.returned (.int .i64 0)/\pR Z B w p r F w' (f.del n) (T-q.1.length) K:=by
 obtain⟨V,b,rfl,rfl,f⟩:=c;refine(awB b a d).mono ?_;rintro e c ⟨c,d,e,g⟩;have h:=QQ b.names a;exact⟨c,d,⟨_,e,awM n V,by omega,aJ (List.length_filter_le _ _) f⟩,g⟩
def lF(f:Lk)(n:ByteArray):Nat:=match f n with|none=>0|some a=>a.1.length
theorem awP(b:Dl Z B w p r f T K F)(n:ByteArray)(d:w.heap[qb]?=some (.cells #[.string n] 9 (0,0))):
  Calls Tryz.prog 64 #[.pointer (some ⟨p,0,none⟩),.slice (some ⟨qb,0,none⟩) 1 1] w λe w'=>(∃c:Int,e=.returned (.int .i64 c))/\pR Z B w p r F w' (f.del n) (T-lF f n) K:=by
 cases a:f n with
 |none=>refine(afX b a d).mono ?_;rintro e h ⟨c,g⟩;exact⟨⟨_,c⟩,F,by rw[WS a,show lF f n=0 by unfold lF;rw[a],Nat.sub_zero];exact b.grow g,Sep.bO g⟩
 |some g=>refine(WV b a d).mono ?_;rintro e h ⟨c,b⟩;exact⟨⟨_,c⟩,by rw[show lF f n=g.1.length by unfold lF;rw[a]];exact b⟩
theorem awQ{V:Vw}(a:oh V){m n:ByteArray}{b:List UInt8}(c:dz m V=some (b,s)):cV (zH m n b s V)=cV V:=by
 have:=QQ a c;unfold zH;have a:cV (kF m V++[(n,b,s)])=cV (kF m V)+b.length:=by simp[cV]
 omega
theorem awR(a:Dl Z B w p r f T K F){m n:ByteArray}(d:m≠n)(j:lA n){q:List UInt8×Nat}(c:f m=some q):
  Calls Tryz.prog 153 #[.pointer (some ⟨p,0,none⟩),.string m,.string n] w λe w'=>e=.returned (.int .i64 0)/\pR Z B w p r F w' ((f.del m).set n q) (T-lF f n) (K+1):=by
 obtain⟨V,f,rfl,rfl,g⟩:=a;obtain⟨b,s⟩:=q;cases a:ie V n with
 |some l=>
  refine(awC f d j c a).mono ?_;rintro e o ⟨g,p,h,i⟩;have k:=afO f.names d c a;have q:lF (ie V) n=l.1.length:=by unfold lF;rw[a]
  refine⟨g,p,⟨_,h,awN d a b s,by omega,?_⟩,i⟩;have:(kF m V).length<=V.length:=List.length_filter_le _ _;unfold vR;simp;omega
 |none=>
  have b:=f.names;obtain⟨l,p,born,fs,h,rfl,rfl⟩:=f;have f:=c;unfold ie at c;rw[xN]at c;obtain⟨p,p,r⟩:=Option.map_eq_some_iff.1 c;cases r;have c:fileOf n fs=none:=by unfold ie at a;rw[xN]at a;simpa using a
  have q:lF (ie (vw fs)) n=0:=by unfold lF;rw[a]
  refine(awG h p c d j).mono ?_;rintro e o ⟨g,c,e,i,h⟩;have k:=awQ (n:=n) b f;refine⟨g,_,⟨_,⟨l,by omega,born,c,?_,h,rfl⟩,awO d a _ _,by omega,?_⟩,i⟩
  .rw[k];exact e
  .have:(kF m (vw fs)).length<=(vw fs).length:=List.length_filter_le _ _;unfold zH;simp;omega
end
end Go.Proofs.YtoolkdapflaeeaaGreatDoor
namespace Go.Proofs.YtoolkdapflaeeaaGreatDoor
open Go.RowKit Go.Gl Go.aF
theorem aI.slice(b:aI B w v l):∃a c,v=.slice a l.length c:=by have:=Row1.slice b;rw[jX]at this;exact this
theorem awT{a:Option Addr}{p:List UInt8}(d:Bv w (.slice a l.length l.length) l)(e:Bv w pv p)(b:0<p.length)(f:l.length+p.length<=140737488355328):
  ∃v' w',(Builtin.append_ #[49,49] 49 #[.slice a l.length l.length,pv]).run Tryz.prog w=.ok v' w'/\aI w.heap.size w' v' (l++p)/\Grow w w':=by
 obtain⟨b,g,h,c,i⟩:=info_parts Tryz.QC;have j:Src Tryz.prog b.size 49 pv p.length (dT p) w:=by rw[c];exact e.src
 have e:(Builtin.firstCells b.size l.length (.slice a l.length l.length)).run Tryz.prog w.drew=.ok (dT l).toArray w.drew:=by rw[c];exact d.src.cellsD
 have c:=run_append_grow_src w 49 49 49 5 b _ Tryz.underlying49 g h a l.length l.length (dT l) e pv p.length (dT p) j (by omega) (by omega) (by rw[i];exact growslice_fits (by omega) (by simpa using f));have a:=grownCap_ge w (l.length+p.length) l.length 5;have b:grownCap w (l.length+p.length) l.length 5<=maxLen:=grownCap_le_maxLen w (l.length+p.length) l.length 5 (by unfold maxLen;omega);refine⟨_,_,c,?_,⟨rfl,rfl,rfl,by simp,λk c=>heap_alloc_old w.drew _ c⟩⟩;have c:dT l++dT p=dT (l++p):=(aey l p).symm;refine .inr ⟨w.heap.size,_,_,by rw[jX,aM],aw _,ax w.drew _,by rw[jX,aM];exact a,?_,b,?_⟩
 .have a:(Value.cells (.int .u8 0)).size=1:=rfl;simp only[Array.size_append,List.size_toArray,size_zeroCells,a,aM,jX];omega
 .simp only[Array.toList_append];rw[c];exact List.take_left
def Ext(B:Nat)(w:World)(v:Value)(l:List UInt8):Prop:=aI B w v l\/∃a,v=.slice a l.length l.length/\Bv w v l
theorem Ext.slice(b:Ext B w v l):∃a c,v=.slice a l.length c:=by
 rcases b with b|⟨a,b,_⟩
 .exact b.slice
 .exact⟨a,_,b⟩
theorem afY(b:Ext B w v l)(x:UInt8){n:Int}(d:n=(x.toNat:Int))(c:B<=w.heap.size)(e:l.length+1<=140737488355328):
  ∃v' w',(Builtin.append_ #[49,49] 49 #[v,.slice (some ⟨w.heap.size,0,none⟩) 1 1]).run Tryz.prog (w.alloc (.cells #[.int .u8 n] 5))=.ok v' w'/\aI B w' v' (l++[x])/\Below B w w':=by
 rcases b with b|⟨a,rfl,b⟩
 .exact Lc b x d c e
 .subst d
  have f:Bv (w.alloc (.cells #[.int .u8 x.toNat] 5)) (.slice (some ⟨w.heap.size,0,none⟩) 1 1) [x]:=by
   refine⟨some ⟨w.heap.size,0,none⟩,1,rfl,aw _,by decide,(λb=>by cases b),.inr ⟨w.heap.size,0,rfl,by simp,λd k a=>?_⟩⟩
   match d,a with
   |0,a=>cases a;simp only[World.cell?,ax];rfl
   |d+1,a=>simp at a
  have a:Grow w (w.alloc (.cells #[.int .u8 x.toNat] 5)):=ar _ _;obtain⟨v',w',d,g,h⟩:=awT (b.grow a) f (by simp) (by simpa using e);exact⟨v',w',d,g.mono (aJ c a.size),(a.trans h).mono c⟩
theorem awU(f:Bv w v l):Calls Tryz.prog 126 #[v] w λe w'=>∃a,e=.returned (.slice a l.length l.length)/\Bv w (.slice a l.length l.length) l/\w'=w:=by
 obtain⟨a,c,rfl,g,c,b,d⟩:=f;have f:Bv w (.slice a l.length l.length) l:=⟨a,l.length,rfl,aw _,aJ g c,λe=>by have:=b e;omega,d⟩
 have e:=ae f;cases a with
 |none=>have:=b rfl;have a:l=[]:=je (by omega);subst this a;clear g c b d f;go_enter Tryz.func126,Tryz.ntmps126;go_wp2;go_ret;exact⟨none,rfl,e.out,rfl⟩
 |some x=>clear c b d f;go_enter Tryz.func126,Tryz.ntmps126;go_wp2;go_ret;exact⟨_,rfl,e.out,rfl⟩
def WX(w:World)(l:List UInt8)(n:Nat)(bv c:Value)(b:World):Prop:=
 ∃(a:List UInt8)(m k:Nat),c=.int .u64 m/\Ext w.heap.size b bv (l++a)/\m<128^(k+1)/\a.length+(k+1)=10/\aG n=a++iO (k+1) m/\m<18446744073709551616/\Grow w b
theorem pS(h:Bv w bv l)(hl:l.length<=1000000000000)(hn:n<18446744073709551616):
  Calls Tryz.prog 81 #[bv,.int .u64 n] w λe w'=>∃v,e=.returned v/\aI w.heap.size w' v (l++aG n)/\Grow w w':=by
 have Hc:=ae (awU h);obtain⟨xa,xc,rfl⟩:=h.slice;clear h;go_enter Tryz.func81,Tryz.ntmps81
 go_wp2_with fail
 (with_reducible refine Hc.out.mono ?_);rintro e w1 ⟨ca,rfl,pO,bT⟩;have hw2:=bT.symm;subst hw2;clear bT Hc;have bz:Hid (WX w l n (.slice ca l.length l.length) (.int .u64 n) w):=ae ⟨[],n,9,rfl,.inr ⟨ca,by simp,by simpa using pO⟩,by omega,rfl,rfl,hn,aW _⟩;clear pO
 go_wp2_with fail
 go_loopw [0,1] (λbv vv wr=>WX w l n bv vv wr) (λ_ vv _=>(intOf vv).toNat)
 case atStart=>exact bz.out
 case round=>
  obtain⟨pre,m,k,rfl,hown,hm,hk,jC,aeC,hg⟩:=hrel;have fk:=hg.size;have om:(l++pre).length+1<=140737488355328:=by simp;omega
  obtain⟨ba,bc,rfl⟩:=hown.slice;by_cases hlt:128<=m
  .have ji:decide ((128:Int)<=(m:Int))=true:=by simp;omega
   have lV:0<k:=by
    rcases Nat.eq_zero_or_pos k with rfl|h1
    .simp at hm;omega
    .exact h1
   obtain⟨k',rfl⟩:∃k',k=k'+1:=⟨k-1,by omega⟩
   obtain⟨v',w',h1,h2,h3⟩:=afY hown (UInt8.ofNat (m%128+128)) (aeA m) fk om;have cU:=ae h1;have hrel:WX w l n v' (.int .u64 ((m:Int)/128)) w':=by
    refine⟨pre++[UInt8.ofNat (m%128+128)],m/128,k',by simp,.inl (by rw[<-jL];exact h2),?_,by simp;omega,?_,by omega,Below.trans hg h3⟩
    .rw[Nat.pow_succ]at hm;exact Nat.div_lt_of_lt_mul (by rw[Nat.mul_comm];exact hm)
    .rw[jC,iO,if_neg (by omega)];simp
   have aR:=ae hrel;clear h1 h2 h3 hrel hown jC hm hk hg fk om
   go_wp2_with (at_builtin;refine fP rfl rfl rfl rfl cU.out ?_)
   go_roundw
   case rel=>exact aR.out
   case measure=>simp[intOf];omega
  .have ji:decide ((128:Int)<=(m:Int))=false:=by simp;omega
   have hx:(m:Int)=(((UInt8.ofNat m).toNat:Nat):Int):=by rw[UInt8.toNat_ofNat_of_lt' (by simp[UInt8.size];omega)]
   obtain⟨v',w',h1,h2,h3⟩:=afY hown (UInt8.ofNat m) hx fk om;have cU:=ae h1;have kz:aI w.heap.size w' v' (l++aG n):=by rw[jC,iO,if_pos (by omega),<-jL];exact h2
   have ib:=ae kz;have Hg:=ae (Below.trans hg h3);clear h1 h2 h3 hown jC hm hk hg kz hx fk om
   go_wp2_with (at_builtin;refine fP rfl rfl rfl rfl cU.out ?_)
   go_ret;exact⟨_,rfl,ib.out,Hg.out⟩
def bp(x:List UInt8):List UInt8:=aG x.length++x
theorem awV(a:w.heap[qb]?=some (.cells #[pv] 49 (0,0)))(b:Bv w pv x)(c:x.length<=1000000000000):
  Calls Tryz.prog 127 #[.slice (some ⟨qb,0,none⟩) 1 1] w λe w'=>e=.returned (.int .i64 x.length)/\w'=w:=by
 have c:w.cell? ⟨qb,0,none⟩=some pv:=by simp[World.cell?,a]
 have c:=af a;obtain⟨c,c,rfl⟩:=b.slice;have c:IntKind.i64.wrap (0+(x.length:Int))=(x.length:Int):=by rw[Int.zero_add];exact aQ _ (by omega)
 have c:IntKind.i64.wrap (x.length:Int)=(x.length:Int):=aQ _ (by omega);clear b a;go_enter Tryz.func127,Tryz.ntmps127
 go_wp2_with fail
 refine wp_loop_rounds 2 ?_;rw[rounds_succ];go_wp2;rw[rounds_succ];go_wp2;go_ret;exact⟨rfl,rfl⟩
theorem Ed(a:Bv w bv l)(b:l.length<=900000000000)(b:w.heap[qb]?=some (.cells #[pv] 49 (0,0)))(c:Bv w pv x)(d:x.length<=10000000000):
  Calls Tryz.prog 82 #[bv,.slice (some ⟨qb,0,none⟩) 1 1] w λe w'=>∃v,e=.returned v/\aI w.heap.size w' v (l++bp x)/\Grow w w':=by
 have d:=ae (awV b c (by omega));have f:=ae (pS a (by omega) (n:=x.length) (by omega));obtain⟨g,g,rfl⟩:=a.slice;have g:=ae b;have h:=ae c;have i:IntKind.u64.wrap (x.length:Int)=(x.length:Int):=by simp[IntKind.wrap,IntKind.bits,IntKind.signed];omega
 clear a b c;go_enter Tryz.func82,Tryz.ntmps82
 go_wp2_with fail
 (with_reducible refine d.out.mono ?_);rintro e a ⟨rfl,a⟩;have b:=a.symm;subst b;clear a d
 go_wp2_with fail
 (with_reducible refine f.out.mono ?_);rintro e m ⟨a,rfl,b,a⟩;have c:=a.heap g.out;have d:=h.out.grow a;obtain⟨n,w',e,i,j,_⟩:=rB b d a.size (by have:=La 10 x.length;simp;unfold aG;omega);have o:=ae e;have k:aI w.heap.size w' n (l++bp x):=by unfold bp;rw[<-jL];exact i
 have n:=ae k;have p:=ae (below_grown a a.size b j);clear k i j;generalize l++aG x.length=i at*;have i:m.cell? ⟨qb,0,none⟩=some pv:=by simp[World.cell?,c]
 have i:=af c;obtain⟨i,i,rfl⟩:=b.slice;obtain⟨i,i,rfl⟩:=d.slice;clear e b d c f g h a
 go_wp2_with fail
 refine wp_loop_rounds 2 ?_;rw[rounds_succ]
 go_wp2_with (at_builtin;refine fP rfl rfl rfl rfl o.out ?_)
 rw[rounds_succ];go_wp2;go_ret;exact⟨_,rfl,n.out,p.out⟩
theorem xQ(a:Bv w v l):(convert 49 9 v).run Tryz.prog w=.ok (.string ⟨l.toArray⟩) w:=by
 obtain⟨d,c,rfl,_,_,_,a⟩:=a;by_cases e:l=[]
 .subst e;rw[iJ,run_convert_bytes_string w 49 9 5 d 0 c Tryz.underlying49 Tryz.underlying5 Tryz.underlying9];cases d<;>simp[Conv.bytesToString,loadCells,loadCellsFrom]<;>rfl
 .rcases a with a|⟨b,o,rfl,hb,hc⟩
  .exact absurd a e
  .exact atO Tryz.underlying49 Tryz.underlying5 Tryz.underlying9 (.inr ⟨b,o,c,rfl,hb,hc⟩)
theorem BG(s:ByteArray)(a:s.size<=140737488355328)(w:World):∃a w',(convert 9 49 (.string s)).run Tryz.prog w=.ok (.slice (some ⟨w.heap.size,0,none⟩) s.size a) w'/\Bv w' (.slice (some ⟨w.heap.size,0,none⟩) s.size a) s.data.toList/\Grow w w':=by
 have d:=Lib.run_convert_string_bytes (P:=Tryz.prog) w 9 49 5 s Tryz.underlying9 Tryz.underlying49 Tryz.underlying5;have e:=grownCap_ge w s.size 0 5;have f:grownCap w s.size 0 5<=maxLen:=grownCap_le_maxLen w s.size 0 5 (by unfold maxLen;omega);have g:=Lib.bytesWorld_below w 5 s;have c:(Lib.bytesWorld w 5 s).heap[w.heap.size]?=some (.cells (Lib.bytesCells w 5 s) 5 ((Lib.bytesCells w 5 s).size,(Lib.bytesCells w 5 s).size+1)):=by simp[Lib.bytesWorld,World.freeze,World.alloc,World.drew,-World.alloc_eq,-World.drew_eq,Array.getElem_modify]
 have a:s.data.toList.length=s.size:=by rw[ia];rfl
 have h:(Lib.bytesCells w 5 s).toList.take s.size=dT s.data.toList:=by
  unfold Lib.bytesCells;rw[Array.toList_append,Array.toList_map];have i:(s.data.toList.map λb=>Value.int .u8 b.toNat).length=s.size:=by rw[bA,ia];rfl
  rw[<-i,List.take_left];rfl
 refine⟨_,_,d,?_,g⟩;refine⟨some ⟨w.heap.size,0,none⟩,_,by rw[a],by rw[a];exact e,f,(λa=>by cases a),.inr ⟨w.heap.size,0,rfl,af c,λb k d=>?_⟩⟩;have a:(dT s.data.toList)[b]?=some (.int .u8 k.toNat):=by simp[dT,d]
 rw[<-h,List.getElem?_take]at a
 split at a
 .simp only[World.cell?,c];simpa using a
 .cases a
end Go.Proofs.YtoolkdapflaeeaaGreatDoor
