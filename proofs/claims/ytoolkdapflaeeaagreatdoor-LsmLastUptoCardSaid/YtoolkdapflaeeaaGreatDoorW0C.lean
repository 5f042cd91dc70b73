/- Helpers. -/
import Derived.Test.YtoolkdapflaeeaaGreatDoorW0B
import Derived.Test.YtoolkdapflaeeaaGreatDoorW0A
import Derived.Test.YtoolkdapflaeeaaGreatDoorW06
import Derived.Test.YtoolkdapflaeeaaGreatDoorW07
import Derived.Test.YtoolkdapflaeeaaGreatDoorW01
import Derived.Test.YtoolkdapflaeeaaGreatDoorW02
set_option maxRecDepth 100000
set_option maxHeartbeats 16000000
namespace Go.Proofs.YtoolkdapflaeeaaGreatDoor
open Go.RowKit Go.Gl Go.aH Go.Sort
def FL (F:Nat→Prop) (lb:Nat):Nat→Prop:=fun b=>F b∨b=lb
theorem Sep.wide {F F':Nat→Prop} {w w':World} (h:Sep F w w' F') (lb:Nat):Sep (FL F lb) w w' (FL F' lb):=
 ⟨h.os,h.tape,h.output,h.size,fun b hb hn=>h.out b hb (fun hf=>hn (.inl hf)),fun b hb=>by
  rcases hb with hb|rfl
  ·rcases h.foot b hb with h1|h1
   ·exact .inl (.inl h1)
   ·exact .inr h1
  ·exact .inl (.inr rfl)⟩
theorem Sep.tQ (F:Nat→Prop) (w:World) (lb j:Nat) (v:Value):Sep (FL F lb) w (w.setCell ⟨lb,j,none⟩ v) (FL F lb):=
 ⟨rfl,rfl,rfl,by simp,fun b _ hn=>aK _ _ _ _ (fun e=>hn (.inr e)),fun b hb=> .inl hb⟩
def nC (nm:List UInt8) (a:Nat) (f:Lk):Nat→Lk
 |0=>f
 |j+1=>(nC nm a f j).del (bp nm (a+j))
def vt (L:List (List UInt8)):Nat:=(L.map (·.length)).sum
theorem EO (nm:List UInt8) (a:Nat) (f:Lk) {n:ByteArray}:∀ j,(∀ i,i<j→n≠bp nm (a+i))→nC nm a f j n=f n
 |0,_=>rfl
 |j+1,h=>by rw [nC,abb _ (h j (by omega)),EO nm a f j (fun i hi=>h i (by omega))]
theorem adK (nm:List UInt8) (a:Nat) (f:Lk):∀ (j i:Nat),i<j→nC nm a f j (bp nm (a+i))=none
 |j+1,i,h=>by
  rw [nC];by_cases he:i=j
  ·rw [he,aba]
  ·rw [abb _ (fun e=>he (by have:=Co e;omega)),adK nm a f j i (by omega)]
theorem fG.drop {f:Lk} {a:Nat} {L:List (List UInt8)} (h:fG f a L) (j:Nat):fG (nC bU a f j) (a+j) (L.drop j):=by
 refine ⟨fun i q hq=> ?_,fun n hn hs=> ?_⟩
 ·rw [EO _ _ _ _ (fun i' hi' e=>by have:=Co e;omega),Nat.add_assoc]
  exact h.there (j+i) q (by rw [List.getElem?_drop] at hq;exact hq)
 ·by_cases hc:∃ i,i<j∧n=bp bU (a+i)
  ·obtain ⟨i,hi,rfl⟩:=hc
   rw [adK _ _ _ _ _ hi] at hs;cases hs
  ·rw [EO _ _ _ _ (fun i hi e=>hc ⟨i,hi,e⟩)] at hs
   obtain ⟨i,hi,rfl⟩:=h.only n hn hs;have nW:j≤i:=Nat.le_of_not_lt (fun hlt=>hc ⟨i,hlt,rfl⟩);exact ⟨i-j,by rw [List.length_drop];omega,by rw [show a+j+(i-j)=a+i by omega]⟩
theorem lW.dl {Z B C:Nat} {w w':World} {p r:Nat} {f:Lk} {T K:Nat} {F F':Nat→Prop} {v:Value} {ns:List Nat} (h:lW C w v ns) (hd:Dl Z B w p r f T K F) (hs:Sep F w w' F'):lW C w' v ns:=
 Row1.keep h (fun g hg=>by
  obtain ⟨cur,hb⟩:=Row1.block h hg;exact hs.out g (af hb) (hd.apart hb (by decide) (by decide) (by decide)))
structure zO (Z B:Nat) (w:World) (p r:Nat) (nm:List UInt8) (lb a m:Nat) (f:Lk) (T K:Nat) (L:List (List UInt8)) (F:Nat→Prop) (C:Nat) (nv:Value) (k:Nat) (F':Nat→Prop) (wr:World):Prop where
 aW:Dl Z B wr p r (nC nm a f k) (T-vt (L.take k)) K F'
 log:di wr lb p nm (m:Int)
 sep:Sep F w wr F'
 row:lW C wr nv (List.range' a L.length)
variable {N Z B C:Nat} {w wr w':World} {p r lb a m k b:Nat} {nm:List UInt8} {f:Lk} {T K:Nat} {F F' uL:Nat→Prop} {nv:Value} {L:List (List UInt8)}
theorem zO.grow (h:zO Z B w p r nm lb a m f T K L F C nv k F' wr) (hg:Grow wr w'):zO Z B w p r nm lb a m f T K L F C nv k F' w':=
 ⟨h.aW.grow hg,h.log.grow hg,h.sep.trans (Sep.bF hg),h.row.grow hg⟩
theorem zO.step (h:zO Z B w p r nm lb a m f T K L F C nv k F' wr) {q:List UInt8} (hq:L[k]?=some q) (hd:Dl Z B w' p r ((nC nm a f k).del (bp nm (a+k))) (T-vt (L.take k)-q.length) K uL) (hs:Sep F' wr w' uL):zO Z B w p r nm lb a m f T K L F C nv (k+1) uL w':=by
 refine ⟨?_,h.log.dl h.aW hs,h.sep.trans hs,h.row.dl h.aW hs⟩;have:vt (L.take (k+1))=vt (L.take k)+q.length:=by
  unfold vt;rw [List.take_add_one,hq];simp
 rw [this,←Nat.sub_sub];exact hd
def aus (Z B:Nat) (w:World) (p r:Nat) (nm:List UInt8) (lb a m:Nat) (f:Lk) (T K:Nat) (L:List (List UInt8)) (F:Nat→Prop) (C b:Nat) (nv iv:Value) (wr:World):Prop:=
 ∃ (i:Nat) (F':Nat→Prop),iv= .int .i64 (i:Int)∧i≤L.length∧zO Z B w p r nm lb a m f T K L F C nv (min i b) F' wr
theorem adL (gG:nm=bU) (hf:fG f a L) (h:Dl Z B w p r f T K F) (hl:di w lb p nm (m:Int)) (hN:cI N B w) (hK:K<1000000000) (Ui:a+L.length≤N) (h6:a+L.length≤1000000) (hmL:m+1=a+L.length) (hL:0<L.length) (hb:b<L.length):
  Calls Tryz.prog 53 #[.pointer (some ⟨lb,0,none⟩),.int .i64 ((a+b:Nat):Int)] w fun e w'=>e= .returned (.int .i64 0)∧Jy Z B w p r nm lb m F w' (nC nm a f b) (T-vt (L.take b)) K:=by
 have hm:zL nm:=gG ▸ EM;have sg:∀ (i:Nat) (q:List UInt8),L[i]?=some q→f (bp nm (a+i))=some (q,q.length):=by subst gG;exact hf.there
 have JA:Calls Tryz.prog 99 #[.pointer (some ⟨lb,0,none⟩)] w fun e w'=>∃ v,e= .returned v∧lW w.heap.size w' v (List.range' a L.length)∧Grow w w':=by
  subst gG;exact adA hl h hN hK hf Ui h6
 obtain ⟨bl,hbl⟩:∃ bl,bl=a+b:=⟨_,rfl⟩
 rw [←hbl];obtain ⟨l0,l1,l2,ll⟩:=hl.cells;have EP:(bl:Int)≤(m:Int):=by omega
 have Un:=ae JA;have NL:=ae sg;have H:=ae h;have HN:=ae hN;have Hl:=ae hl;have zP:=ae hbl;clear JA h hl sg gG hN hf hbl;go_enter Tryz.func53,Tryz.ntmps53
 go_wp2_with fail
 (with_reducible refine Un.out.mono ?_);rintro e w1 ⟨nv,rfl,ho,hg1⟩;rcases id ho with ⟨rfl,gD⟩|⟨gN,cap,cur,rfl,jO⟩
 ·exfalso
  have:=congrArg List.length gD;rw [List.length_map,List.length_range',List.length_nil] at this;omega
 have eP:((List.range' a L.length).map fun n:Nat=>Value.int .i64 n).length=L.length:=by rw [List.length_map,List.length_range']
 rw [eP];rw [eP] at ho;have T1:Hid (zO Z B w p r nm lb a m f T K L F w.heap.size (.slice (some ⟨gN,0,none⟩) L.length cap) 0 F w1):=ae ⟨by have:=H.out.grow hg1;simpa [nC,vt] using this,Hl.out.grow hg1,Sep.bF hg1,ho⟩;clear ho jO hg1 eP l0 l1 l2 ll
 go_wp2_with fail
 go_loopw [16] (fun iv wr=>aus Z B w p r nm lb a m f T K L F w.heap.size b (.slice (some ⟨gN,0,none⟩) L.length cap) iv wr) (fun iv _=>L.length-(intOf iv).toNat)
 case atStart=>exact ⟨0,F,rfl,bk _,by rw [Nat.zero_min];exact T1.out⟩
 case round=>
  obtain ⟨i,F2,rfl,hi,h2⟩:=hrel;have bK:(0:Int)≤(i:Int):=by omega
  have bS:IntKind.i64.wrap ((i:Int)+1)=(i:Int)+1:=aR _ (by omega);by_cases hlt:i<L.length
  ·have dJ:(i:Int)<(L.length:Int):=by omega
   obtain ⟨n,hn⟩:∃ n,n=a+i:=⟨_,rfl⟩
   have hc:wr.cell? ⟨gN,i,none⟩=some (.int .i64 (n:Int)):=Row1.cells h2.row rfl (by rw [hn,List.getElem?_map,List.getElem?_range' hlt];simp);have lgN:=(Row1.lt h2.row rfl).2;have Hn:=ae hn;by_cases hib:i<b
   ·have aut:(n:Int)<(bl:Int):=by have:=zP.out;omega
    rw [Nat.min_eq_left (by omega)] at h2;obtain ⟨k0,k1,k2,kl⟩:=h2.log.cells;have H2:=ae h2;clear h2 k2 hn
    go_wp2_with fail
    refine bX (fun W=>(W.cell? ⟨lb,0,none⟩=some (.pointer (some ⟨p,0,none⟩))∧W.cell? ⟨lb,1,none⟩=some (.string ⟨nm.toArray⟩))∧lb<W.heap.size) [(0,false),(1,false),(2,false),(3,false),(4,false),(5,false),(6,false),(7,false),(8,false),(9,true),(10,true),(11,true)] (by kernel_rfl) (by kernel_rfl) (fun c a d v w h=>by cases d<;>exact h) (by obtain ⟨q0,q1,_,q3⟩:=(H2.out.grow (Grow.drew wr)).log.cells;exact ⟨⟨q0,q1⟩,q3⟩) ?_;clear k0 k1 kl hc;simp only [aP,nth]
    repeat (first|(refine aB (v:= ?_) (by rfl) ?_ ?_;rotate_left;(rintro W ⟨⟨hW0,hW1⟩,hW2⟩;go_simp;with_reducible rfl);simp only [ag,List.set])|(refine aC (by rfl) ?_;simp only [ag,List.set]))
    have gX:=Grow.drew wr;have xh:=HN.out.dl H.out H2.out.sep;refine bj (by rfl) (by go_simp) (xe (xh.grow gX H2.out.aW.base) (n:=n) (by have:=Hn.out;omega) (by have:=Hn.out;omega) (name:=nm) (by have:=hm.len;omega)) ?_;rintro e w7 ⟨rfl,cF⟩;have pJ:=gX.trans cF;refine ⟨_,rfl,(by obtain ⟨q0,q1,_,q3⟩:=(H2.out.grow pJ).log.cells;exact ⟨⟨q0,q1⟩,q3⟩),?_⟩
    try first|simp only [ag,List.set]|simp only [aD]
    have cx:=pJ.trans (Grow.alloc w7 (.cells #[.string (bp nm n)] 9));have h8:=H2.out.grow cx;refine fQ (by rfl) (fun K hK=> ?_);go_simp;refine hK _ _ ⟨(by obtain ⟨q0,q1,_,q3⟩:=h8.log.cells;exact ⟨⟨q0,q1⟩,q3⟩),?_⟩;clear hK K
    try first|simp only [ag,List.set]|simp only [aD]
    have NM:L[i]?=some L[i]:=List.getElem?_eq_getElem hlt;have hde:=SP h8.aW (n:=bp nm n) (q:=(L[i],L[i].length)) (by rw [Hn.out,EO _ _ _ _ (fun i' hi' e=>by have:=Co e;omega)];exact NL.out i _ NM) (aw _ _);refine bj (by rfl) (by go_simp) hde ?_;rintro e w9 ⟨rfl,F9,fF,iY⟩;have h9:=h8.step NM (by rw [←Hn.out];exact fF) iY;have H9:=ae h9;refine ⟨_,rfl,(by obtain ⟨q0,q1,_,q3⟩:=h9.log.cells;exact ⟨⟨q0,q1⟩,q3⟩),?_⟩;clear h9 fF iY hde h8 cx pJ cF gX xh NM
    try first|simp only [ag,List.set]|simp only [aD]
    refine bm ?_;go_wp2;go_roundw
    case rel=>exact ⟨i+1,F9,by simp,hlt,by rw [Nat.min_eq_left (by omega)];exact H9.out⟩
    case measure=>simp [intOf];omega
   ·have aut:(bl:Int)≤(n:Int):=by have:=zP.out;omega
    rw [Nat.min_eq_right (by omega)] at h2;have H2:=ae h2;clear h2 hn;go_wp2;go_roundw
    case rel=>exact ⟨i+1,F2,by simp,hlt,by rw [Nat.min_eq_right (by omega)];exact H2.out⟩
    case measure=>simp [intOf];omega
  ·have dJ:(L.length:Int)≤(i:Int):=by omega
   rw [Nat.min_eq_right (by omega)] at h2;have H2:=ae h2;clear h2;go_wp2;go_ret;exact ⟨rfl,F2,H2.out.aW,H2.out.log,H2.out.sep⟩
theorem auu (hm:zL nm) (hd:Dl Z B w p r f T K F) (hl:di w lb p nm (m:Int)) (hN:cI N B w) (mE:B≤lb) {q:List UInt8} (hq:f (bp nm m)=some (q,q.length)) (jk:f (bp nm (m+1))=none) (Jz:m+1<N) (h6:m+1<999999):
  Calls Tryz.prog 76 #[.pointer (some ⟨lb,0,none⟩)] w fun e w'=>e= .returned (.int .i64 0)∧∃ F',Dl Z B w' p r (f.set (bp nm (m+1)) ([],0)) T (K+1) F'∧di w' lb p nm ((m+1:Nat):Int)∧Sep (FL F lb) w w' (FL F' lb):=by
 obtain ⟨m1,fY⟩:∃ m1,m1=m+1:=⟨_,rfl⟩
 rw [←fY] at jk Jz h6 ⊢;obtain ⟨l0,l1,l2,ll⟩:=hl.cells;have hne:¬ (m:Int)=999999:=by omega
 have NR:((m:Int)==999999)=false:=by simp;omega
 have qo:=adF hm hN hd hl (by omega) (by omega) hq;rw [abd hq] at qo;have Hsy:=ae qo;have HN:=ae hN;have Hd:=ae hd;have yP:=ae jk;clear qo hl hd hN hq jk;go_enter Tryz.func76,Tryz.ntmps76
 go_wp2_with fail
 (with_reducible refine Hsy.out.mono ?_);rintro e w1 ⟨rfl,F1,fR,JC,hs1⟩;obtain ⟨k0,k1,k2,kl⟩:=JC.cells;have ff:∀ i,w1.frozen? ⟨lb,i,none⟩=false:=fun i=>by simp [World.frozen?,JC.self]
 have bS:IntKind.i64.wrap ((m:Int)+1)=(m1:Int):=(aR _ (by omega)).trans (by omega);obtain ⟨w2,hw2⟩:∃ x,x=w1.setCell ⟨lb,2,none⟩ (.int .i64 (m1:Int)):=⟨_,rfl⟩
 have Ju:di w2 lb p nm (m1:Int):=by rw [hw2];exact JC.set _
 have cn:Dl Z B w2 p r f T K F1:=by rw [hw2];exact fR.zM JC _
 have hs2:Sep (FL F lb) w w2 (FL F1 lb):=by rw [hw2];exact (hs1.wide lb).trans (Sep.tQ F1 w1 lb 2 _)
 have zK:cI N B w2:=by rw [hw2];exact (HN.out.dl Hd.out hs1).zM mE _
 have pd:=ae hw2;have L2:=ae Ju;have D2:=ae cn;have S2:=ae hs2;have N2:=ae zK;have Ur:=ae fY;clear hs1 fR JC Ju cn hs2 zK hw2 fY l0 l1 l2 ll hne NR
 go_upto_region 5 with fail
 rw [←pd.out];clear ff pd k0 k1 k2 kl bS;refine bX (fun W=>W.cell? ⟨lb,0,none⟩=some (.pointer (some ⟨p,0,none⟩))∧W.cell? ⟨lb,1,none⟩=some (.string ⟨nm.toArray⟩)∧W.cell? ⟨lb,2,none⟩=some (.int .i64 (m1:Int))∧lb<W.heap.size) [(0,false),(1,false),(2,false),(3,false),(4,false),(5,false),(6,false),(7,false),(8,false),(9,false),(10,false),(11,false),(12,true),(13,true),(14,false)] (by kernel_rfl) (by kernel_rfl) (fun c a d v w h=>by cases d<;>exact h) (L2.out.grow (Grow.drew w2)).cells ?_;simp only [aP,nth]
 repeat (first|(refine aB (v:= ?_) (by rfl) ?_ ?_;rotate_left;(rintro W ⟨hW0,hW1,hW2,hW3⟩;go_simp;with_reducible rfl);simp only [ag,List.set])|(refine aC (by rfl) ?_;simp only [ag,List.set]))
 have gX:=Grow.drew w2;refine bj (by rfl) (by go_simp) (xe (N2.out.grow gX D2.out.base) (n:=m1) (by have:=Ur.out;omega) (by have:=Ur.out;omega) (name:=nm) (by have:=hm.len;omega)) ?_;rintro e w7 ⟨rfl,cF⟩;have iD:=gX.trans cF;refine ⟨_,rfl,(L2.out.grow iD).cells,?_⟩
 try first|simp only [ag,List.set]|simp only [aD]
 refine bj (by rfl) (by go_simp) (adC (D2.out.grow iD) (n:=bp nm m1) (Ud hm (by have:=Ur.out;omega)) (yP.out)) ?_;rintro e w9 ⟨rfl,F9,fF,iY⟩;have Us:=(Sep.bF iD).trans iY;have tP:=L2.out.dl D2.out Us;have bG:=ae (ah fF (ah tP (S2.out.trans (Us.wide lb))));refine ⟨_,rfl,tP.cells,?_⟩;clear fF iY tP Us iD cF gX
 try first|simp only [ag,List.set]|simp only [aD]
 repeat (first|(refine aB (v:= ?_) (by rfl) ?_ ?_;rotate_left;(rintro W ⟨hW0,hW1,hW2,hW3⟩;go_simp;with_reducible rfl);simp only [ag,List.set])|(refine aC (by rfl) ?_;simp only [ag,List.set]))
 refine bm ?_;go_wp2;go_ret;exact ⟨rfl,F9,bG.out⟩
end Go.Proofs.YtoolkdapflaeeaaGreatDoor
namespace Go.Proofs.YtoolkdapflaeeaaGreatDoor
open Go.RowKit Go.Gl Go.aH Mn
def adN (Z:Nat) (f:Lk) (T:Nat) (V:bu) (n:Nat) (q:List UInt8×Nat) (E:cr) (c:Int) (f':Lk) (T':Nat) (V':bu):Prop:=
 ((aV V E).1=0∧T+(bw aq (cP E)).length≤Z∧c=0∧f'=f.set (cD n) (q.1++bw aq (cP E),(q.1++bw aq (cP E)).length)∧T'=T+(bw aq (cP E)).length∧V'=(aV V E).2)∨
 ((aV V E).1=0∧Z<T+(bw aq (cP E)).length∧c=5∧f'=f∧T'=T∧V'=V)∨
 ((aV V E).1≠0∧c=(aV V E).1∧f'=f∧T'=T∧V'=V)
def auw (Z B:Nat) (w:World) (p r:Nat) (f:Lk) (T K:Nat) (F:Nat→Prop) (sb:Nat) (V:bu) (n:Nat) (q:List UInt8×Nat) (E:cr) (e:Ending) (w':World):Prop:=
 ∃ (c:Int) (f':Lk) (T':Nat) (V':bu) (cg:Value) (F':Nat→Prop),e= .returned (.int .i64 c)∧adN Z f T V n q E c f' T' V'∧
 dy w' sb p cg V' n∧Own 0 w' cg V'.tabs∧Dl Z B w' p r f' T' (K+1) F'∧Sep (FL F sb) w w' (FL F' sb)
theorem auy {Z B N:Nat} {w:World} {p r:Nat} {f:Lk} {T K:Nat} {F:Nat→Prop} {sb:Nat} {tv:Value} {V:bu} {n:Nat} (hS:dy w sb p tv V n) {B':Nat} (hown:Own B' w tv V.tabs) (hl:V.tabs.length≤5000)
  {av dv:Value} {E:cr} (hA:rV w av E.add) (hD:Ints w dv E.drop) (np:E.add.length≤5000) (fS:E.drop.length≤10000) (hk:iC E.add≤60000000) (td:(aV V E).1=0→zm E)
  (h:Dl Z B w p r f T K F) (hB:B≤sb) (hN:cI N B w) (hn:n<N) (h6:n<1000000) {q:List UInt8×Nat} (hq:f (cD n)=some q):
  Calls Tryz.prog 63 #[.pointer (some ⟨sb,0,none⟩),.agg (cV av dv E.seq E.next E.aj)] w (auw Z B w p r f T K F sb V n q E):=by
 have ai:Grow w (w.alloc (.cells (cV av dv E.seq E.next E.aj) 148)):=Grow.alloc _ _;have hb:=aw w (.cells (cV av dv E.seq E.next E.aj) 148);have hS1:=hS.grow ai;have hown1:=ek hown ai;have Ut:=hA.grow ai;have gL:=hD.grow ai;have h1:=h.grow ai;have Cp:=hN.grow ai h.base;have hr1:=Rl.grow (r:=r) ai h.base;have IZ:=ae hr1;have BJ:=ae ai;obtain ⟨aa,ac,rfl,qI⟩:=hA;obtain ⟨da,dc,rfl,zx,hdr⟩:=hD;obtain ⟨ta,tc,rfl⟩:=iV hown;have auz:=ae td;have Hq:=ae hq;clear ai hS hown h hN hr1 qI hdr td hq;obtain ⟨AP,zQ⟩:∃ x,x=aV V E:=⟨_,rfl⟩
 have adO:eZ V [E]=AP:=by
  rw [Tt];by_cases h0:(aV V E).1=0
  ·rw [if_pos h0,zQ];exact Prod.ext h0.symm rfl
  ·rw [if_neg h0,zQ];exact Prod.ext rfl (arM V E h0).symm
 have ER:=ae zQ;have auA:=ae adO;clear zQ adO;go_enter Tryz.func63,Tryz.ntmps63
 go_upto_region 1 with fail
 generalize w.alloc (.cells (cV (.slice aa E.add.length ac) (.slice da E.drop.length dc) E.seq E.next E.aj) 148)=w1 at*;generalize w.heap.size=eb at*
 go_cut [5,6] from 7 to 16 (fun pv cv wx=>∃ (vb:Nat) (cg:Value),pv= .pointer (some ⟨vb,0,none⟩)∧cv= .int .i64 AP.1∧wx.heap[vb]?=some (.cells (bz cg AP.2.seq AP.2.next AP.2.aj) 85 (0,0))∧Own w1.heap.size wx cg AP.2.tabs∧Grow w1 wx)
 case first=>
  rename_i J K hJ hK
  refine uD (fun a0 ha0=> ?_);have F0:a0.tmps[0]?=some (.pointer (some ⟨sb,0,none⟩)):=by rw [ha0];rfl
  have F3:a0.tmps[3]?=some (.pointer (some ⟨eb,0,none⟩)):=by rw [ha0];rfl
  have hsz:a0.tmps.size=52:=by rw [ha0];rfl
  have tj:Hid (∀ a1 wx (vb:Nat) (cg:Value),qg [8,9,10,11,12,13,14,7,15,16,5,6] a0 a1→a1.tmps[5]?=some (.pointer (some ⟨vb,0,none⟩))→a1.tmps[6]?=some (.int .i64 AP.1)→wx.heap[vb]?=some (.cells (bz cg AP.2.seq AP.2.next AP.2.aj) 85 (0,0))→Own w1.heap.size wx cg AP.2.tabs→Grow w1 wx→K a1 wx):=ae (fun a1 wx vb cg ha h1 h2 h3 h4 h5=>by
   refine hK _ _ (hJ _ _ ?_);refine ⟨a1.tmps.getD 5 undef,a1.tmps.getD 6 undef,a1.tmps.getD 7 undef,a1.tmps.getD 8 undef,a1.tmps.getD 9 undef,a1.tmps.getD 10 undef,a1.tmps.getD 11 undef,a1.tmps.getD 12 undef,a1.tmps.getD 13 undef,a1.tmps.getD 14 undef,a1.tmps.getD 15 undef,a1.tmps.getD 16 undef,⟨vb,cg,by rw [fI,h1];rfl,by rw [fI,h2];rfl,h3,h4,h5⟩,ha.fill.trans ?_⟩;subst ha0;kernel_rfl)
  clear ha0 hK hJ;refine uG (Cn w1.heap.size sb (.slice ta V.tabs.length tc) (.slice aa E.add.length ac) (.slice da E.drop.length dc) V E AP) (lV w1 AP) kE [8,9,10,11,12,13,14,7,15,16,5,6] (by kernel_rfl) (by kernel_rfl) (by rw [hsz];rfl) Cn.keep ⟨Grow.drew w1,fun h=>by cases h⟩ ?_ (fun a1 W1 hf=> ?_);rotate_left
  ·obtain ⟨vb,cg,h1,h2,h3,h4⟩:=hf.world.2 (by rfl)
   obtain ⟨v,hv,NS⟩:=hf.slot 12 6 (by rfl) (by rfl);exact tj.out a1 W1 vb cg hf.alike h1 (by rw [hv];exact congrArg some NS) h3 h4 hf.world.1
  clear tj;refine ⟨?_,?_,?_,?_,?_,?_,?_,?_,?_,?_,?_,?_,?_,True.intro⟩
  ·intro listed a W hf ar ak
   have hs1:a.tmps.size=52:=hf.alike.size.trans hsz;have hT:=hf.world;have hG:Grow w1 W:=hT.1;have cW:=dZ hf.closed (n:=8) (e:=11) (i:=0) (by kernel_rfl) ar;have G0:a.tmps[0]'(by rw [hs1];decide)= .pointer (some ⟨sb,0,none⟩):=ax ((hf.alike.same 0 (by decide)).trans F0) _;refine aX rfl (by rfl) (fun K' hK'=> ?_);go_simp;exact hK' _ _ ⟨_,rfl,(fun _ _=>rfl),kE.refl _,lV.jR 0 (by decide) cW hG⟩
  ·intro listed a W hf ar ak
   have hs1:a.tmps.size=52:=hf.alike.size.trans hsz;have hT:=hf.world;have hG:Grow w1 W:=hT.1;have cW:=dZ hf.closed (n:=8) (e:=11) (i:=1) (by kernel_rfl) ar;obtain ⟨v0,s0,q0⟩:=hf.slot 0 8 rfl (aJ ak 0 (by kernel_rfl));have kZ:v0=_:=q0;subst kZ;have G8:=ax s0 (by rw [hs1];decide);obtain ⟨_,_,_,_,_,_,ls⟩:=(hS1.grow hG).cells;refine aX rfl (by rfl) (fun K' hK'=> ?_);go_simp;exact hK' _ _ ⟨_,rfl,(fun _ _=>rfl),kE.refl _,lV.jR 1 (by decide) cW hG⟩
  ·intro listed a W hf ar ak
   have hs1:a.tmps.size=52:=hf.alike.size.trans hsz;have hT:=hf.world;have hG:Grow w1 W:=hT.1;have cW:=dZ hf.closed (n:=8) (e:=11) (i:=2) (by kernel_rfl) ar;obtain ⟨v1,s1,q1⟩:=hf.slot 1 9 rfl (aJ ak 1 (by kernel_rfl));have kn:v1=_:=q1;subst kn;have G9:=ax s1 (by rw [hs1];decide);obtain ⟨_,_,_,_,_,_,ls⟩:=(hS1.grow hG).cells;refine aX rfl (by rfl) (fun K' hK'=> ?_);go_simp;exact hK' _ _ ⟨_,rfl,(fun _ _=>rfl),kE.refl _,lV.jR 2 (by decide) cW hG⟩
  ·intro listed a W hf ar ak
   have hs1:a.tmps.size=52:=hf.alike.size.trans hsz;have hT:=hf.world;have hG:Grow w1 W:=hT.1;have cW:=dZ hf.closed (n:=8) (e:=11) (i:=3) (by kernel_rfl) ar;obtain ⟨v2,s2,q2⟩:=hf.slot 2 10 rfl (aJ ak 2 (by kernel_rfl));have od:v2=_:=q2;subst od;have G10:=ax s2 (by rw [hs1];decide);obtain ⟨_,c1,c2,c3,c4,_,ls⟩:=(hS1.grow hG).cells;refine aX rfl (by rfl) (fun K' hK'=> ?_);go_simp;exact hK' _ _ ⟨_,rfl,(fun _ _=>rfl),kE.refl _,lV.jR 3 (by decide) cW hG⟩
  ·intro listed a W hf ar ak
   have hs1:a.tmps.size=52:=hf.alike.size.trans hsz;have hT:=hf.world;have hG:Grow w1 W:=hT.1;have cW:=dZ hf.closed (n:=8) (e:=11) (i:=4) (by kernel_rfl) ar;have G3:a.tmps[3]'(by rw [hs1];decide)= .pointer (some ⟨eb,0,none⟩):=ax ((hf.alike.same 3 (by decide)).trans F3) _;have hbW:=hG.heap hb;obtain ⟨e0,e1,e2,e3,e4⟩:=cw hbW;have lb:=af hbW;refine aX rfl (by rfl) (fun K' hK'=> ?_);go_simp;exact hK' _ _ ⟨_,rfl,(fun _ _=>rfl),kE.refl _,lV.jR 4 (by decide) cW hG⟩
  ·intro listed a W hf ar ak
   have hs1:a.tmps.size=52:=hf.alike.size.trans hsz;have hT:=hf.world;have hG:Grow w1 W:=hT.1;have cW:=dZ hf.closed (n:=8) (e:=11) (i:=5) (by kernel_rfl) ar;obtain ⟨v4,s4,q4⟩:=hf.slot 4 12 rfl (aJ ak 4 (by kernel_rfl));have qi:v4=_:=q4;subst qi;have G12:=ax s4 (by rw [hs1];decide);have hrun:=acj W aa E.add.length ac da E.drop.length dc E.seq E.next E.aj;refine aX rfl (by rfl) (fun K' hK'=> ?_);go_simp;exact hK' _ _ ⟨_,rfl,(fun _ _=>⟨W.heap.size,rfl,aw _ _⟩),kE.grow (Grow.alloc _ _),lV.jR 5 (by decide) cW (hG.trans (Grow.alloc _ _))⟩
  ·intro listed a W hf ar ak
   have hs1:a.tmps.size=52:=hf.alike.size.trans hsz;have hT:=hf.world;have hG:Grow w1 W:=hT.1;have cW:=dZ hf.closed (n:=8) (e:=11) (i:=6) (by kernel_rfl) ar;obtain ⟨v3,s3,q3⟩:=hf.slot 3 11 rfl (aJ ak 3 (by kernel_rfl));have qF:v3=_:=q3;subst qF;have G11:=ax s3 (by rw [hs1];decide);obtain ⟨v5,s5,qq,q5,NU⟩:=hf.slot 5 13 rfl (aJ ak 5 (by kernel_rfl));subst q5;have G13:=ax s5 (by rw [hs1];decide);have hap:=abK adh (ek hown1 hG) hl (ack NU (Ut.grow hG) (gL.grow hG)) (by simp) (by intro e he;rw [cY.1 he];exact ⟨np,fS⟩);rw [auA.out] at hap;refine jc rfl (by rfl) (by go_simp) hap ?_;rintro e W2 ⟨cg,rfl,ho,hg2⟩;exact ⟨_,rfl,_,rfl,(fun _ _=>⟨cg,rfl,qx ho hG.size⟩),kE.grow hg2,lV.jR 6 (by decide) cW (hG.trans hg2)⟩
  ·intro listed a W hf ar ak
   have hs1:a.tmps.size=52:=hf.alike.size.trans hsz;have hT:=hf.world;have hG:Grow w1 W:=hT.1;have cW:=dZ hf.closed (n:=8) (e:=11) (i:=7) (by kernel_rfl) ar;obtain ⟨v6,s6,cg,q6,ho⟩:=hf.slot 6 14 rfl (aJ ak 6 (by kernel_rfl));subst q6;have G14:=ax s6 (by rw [hs1];decide);refine aX rfl (by rfl) (fun K' hK'=> ?_);go_simp;exact hK' _ _ ⟨_,rfl,(fun _ _=>⟨cg,rfl,ho⟩),kE.refl _,lV.jR 7 (by decide) cW hG⟩
  ·intro listed a W hf ar ak
   have hs1:a.tmps.size=52:=hf.alike.size.trans hsz;have hT:=hf.world;have hG:Grow w1 W:=hT.1;have cW:=dZ hf.closed (n:=8) (e:=11) (i:=8) (by kernel_rfl) ar;obtain ⟨v7,s7,cg,q7,ho⟩:=hf.slot 7 7 rfl (aJ ak 7 (by kernel_rfl));subst q7;have G7:=ax s7 (by rw [hs1];decide);refine aX rfl (by rfl) (fun K' hK'=> ?_);go_simp;exact hK' _ _ ⟨_,rfl,(fun _ _=>⟨cg,rfl,ho⟩),kE.refl _,lV.jR 8 (by decide) cW hG⟩
  ·intro listed a W hf ar ak
   have hs1:a.tmps.size=52:=hf.alike.size.trans hsz;have hT:=hf.world;have hG:Grow w1 W:=hT.1;obtain ⟨v7,s7,cg,q7,ho⟩:=hf.slot 7 7 rfl (aJ ak 7 (by kernel_rfl));subst q7;have G7:=ax s7 (by rw [hs1];decide);refine aX rfl (by rfl) (fun K' hK'=> ?_);go_simp;exact hK' _ _ ⟨_,rfl,(fun _ _=>rfl),kE.refl _,lV.next hT (by decide) (by decide)⟩
  ·intro listed a W hf ar ak
   have hs1:a.tmps.size=52:=hf.alike.size.trans hsz;have hT:=hf.world;have hG:Grow w1 W:=hT.1;have cW:=dZ hf.closed (n:=8) (e:=11) (i:=10) (by kernel_rfl) ar;refine aX rfl (by rfl) (fun K' hK'=> ?_);go_simp;exact hK' _ (W.alloc (.cells (bz (.slice none 0 0) 0 0 0) 85)) ⟨_,rfl,(fun _ _=>⟨W.heap.size,_,rfl,hG.size,aw _ _,rfl⟩),kE.grow (Grow.alloc _ _),lV.jR 10 (by decide) cW (hG.trans (Grow.alloc _ _))⟩
  ·intro listed a W hf ar ak
   have hs1:a.tmps.size=52:=hf.alike.size.trans hsz;have hT:=hf.world;have hG:Grow w1 W:=hT.1;obtain ⟨v8,s8,cg,q8,ho⟩:=hf.slot 8 15 rfl (aJ ak 8 (by kernel_rfl));obtain ⟨xa,xc,rfl⟩:=iV ho;subst q8;have G15:=ax s8 (by rw [hs1];decide);obtain ⟨v10,tq,vb,cs,mU,NC,h10,z10⟩:=hf.slot 10 5 rfl (aJ ak 10 (by kernel_rfl));subst mU;have G5:=ax tq (by rw [hs1];decide);obtain ⟨x0,x1,x2,x3,rfl⟩:=atU z10;obtain ⟨t0,t1,t2,t3⟩:=bZ h10;have adQ:=af h10;have aFo:∀ i,W.frozen? ⟨vb,i,none⟩=false:=fun i=>by simp [World.frozen?,h10]
   have cE:=zh h10 (.slice xa AP.2.tabs.length xc) (.int .u64 AP.2.seq) (.int .i64 AP.2.next) (.int .i64 AP.2.aj);have iw:=fun (c:Nat) (hc:c≠vb)=>Et (w:=W) hc (.slice xa AP.2.tabs.length xc) (.int .u64 AP.2.seq) (.int .i64 AP.2.next) (.int .i64 AP.2.aj)
   have hown':=BN ho h10 (.slice xa AP.2.tabs.length xc) (.int .u64 AP.2.seq) (.int .i64 AP.2.next) (.int .i64 AP.2.aj);have hgr:=uU hG NC (.slice xa AP.2.tabs.length xc) (.int .u64 AP.2.seq) (.int .i64 AP.2.next) (.int .i64 AP.2.aj);refine aX rfl (by rfl) (fun K' hK'=> ?_);go_simp;refine hK' _ _ ⟨undef,rfl,(fun _ h=>by cases h),⟨fun b arr t fz hb' ht=> ?_,fun b cs hb' hs=> ?_⟩,⟨hgr,fun _=>⟨vb,_,tq,NC,cE,hown'⟩⟩⟩
   ·rw [iw b (ny hb' h10 ht)];exact hb'
   ·by_cases e:b=vb
    ·subst e;exact ⟨_,cE,rfl⟩
    ·exact ⟨cs,(iw b e).trans hb',hs⟩
  ·intro listed a W hf ar ak
   have hs1:a.tmps.size=52:=hf.alike.size.trans hsz;have hT:=hf.world;have hG:Grow w1 W:=hT.1;obtain ⟨v9,s9,q9⟩:=hf.slot 9 16 rfl (aJ ak 9 (by kernel_rfl));have Bo:v9=_:=q9;subst Bo;have G16:=ax s9 (by rw [hs1];decide);refine aX rfl (by rfl) (fun K' hK'=> ?_);go_simp;exact hK' _ _ ⟨_,rfl,(fun _ _=>rfl),kE.refl _,lV.next hT (by decide) (by decide)⟩
 case rest=>
 obtain ⟨vb,cg,rfl,rfl,iO,sf,hg2⟩:=hcut;have hb2:=hg2.heap hb;have nu:=hS1.grow hg2;have h2:=h1.grow hg2;have zK:=Cp.grow hg2 h1.base;have hr2:=IZ.out.trans (Rl.grow (r:=r) hg2 h1.base);have jK:=ae nu;have H2:=ae h2;have xr:=ae zK;have pE:=ae hr2;have pB:=ae hb2;have MU:=ae iO;have Hov:=ae sf;have HA2:=ae (Ut.grow hg2);have Uu:=ae (qx (ek hown1 hg2) (bk _));have Uv:=ae (BJ.out.trans hg2);clear BJ;have BW:=ae (gL.grow hg2);clear hb2 nu h2 zK hr2 iO sf hg2 hb hS1 hown1 Ut gL h1 Cp IZ;by_cases h0:AP.1=0
 ·have e1:(AP.1 != 0)=false:=by simpa using h0
  have HE:=ae (auz.out (by rw [←ER.out];exact h0));have H0:=ae h0;clear h0
  go_upto_region 4 with fail
  refine bX (S4 sb p eb n (.slice aa E.add.length ac) (.slice da E.drop.length dc) (.int .u64 E.seq) (.int .i64 E.next) (.int .i64 E.aj)) [(0,false),(1,false),(2,false),(3,false),(4,false),(5,false),(6,false),(7,false),(9,false),(8,true),(10,true),(11,true),(12,true),(13,true),(14,false)] (by kernel_rfl) (by kernel_rfl) (fun c a d v w h=>by cases d<;>exact h) (EK (jK.out.grow (Grow.drew _)) ((Grow.drew _).heap pB.out)) ?_;simp only [aP,nth]
  repeat (first|(refine aB (v:= ?_) (by rfl) ?_ ?_;rotate_left;(rintro W ⟨⟨hW0,hW1,hW2⟩,hW3,mF,sj,mG,pK,xt⟩;go_simp;with_reducible rfl);simp only [ag,List.set])|(refine aC (by rfl) ?_;simp only [ag,List.set]))
  have hgd:=Grow.drew wc;refine bj (by rfl) (by go_simp) (IG (xr.out.grow hgd H2.out.base) hn h6) ?_;rintro e w3 ⟨rfl,hg3⟩;have jV:=hgd.trans hg3;refine ⟨_,rfl,EK (jK.out.grow jV) (jV.heap pB.out),?_⟩
  try first|simp only [ag,List.set]|simp only [aD]
  refine bj (by rfl) (by go_simp) (asF HE.out (HA2.out.grow jV) (BW.out.grow jV) (by omega)) ?_;rintro e w4 ⟨v4,rfl,jr,hg4⟩;have gj:=jV.trans hg4;refine ⟨_,rfl,EK (jK.out.grow gj) (gj.heap pB.out),?_⟩
  try first|simp only [ag,List.set]|simp only [aD]
  have uV:(cP E).length≤67108864:=by have:=abO E;omega
  refine bj (by rfl) (by go_simp) (Bf (cy jr) uV) ?_;rintro e w5 ⟨v5,rfl,fE,aO⟩;have qO:=gj.trans aO;refine ⟨_,rfl,EK (jK.out.grow qO) (qO.heap pB.out),?_⟩
  try first|simp only [ag,List.set]|simp only [aD]
  obtain ⟨X,hX⟩:∃ x,x=bw aq (cP E):=⟨_,rfl⟩
  rw [←hX] at fE;have ic:X.length≤1000000000000:=by have iB:=cf (cP E).length;rw [hX,kT];omega
  have adT:=cy fE;obtain ⟨va,vc,rfl⟩:=fE.slice;have ai:=Grow.alloc w5 (.cells #[.slice va X.length vc] 49);have vu:=qO.trans ai;refine ry (by rfl) (ru (v:= .slice va X.length vc) rfl Tryz.underlying131 Tryz.wE rfl rfl rfl) (EK (jK.out.grow vu) (vu.heap pB.out)) ?_
  try first|simp only [ag,List.set]|simp only [aD]
  have nB:=H2.out.grow vu;refine bj (by rfl) (by go_simp) (Uj nB (aaT h6) (aw _ _) (adT.grow ai) ic) ?_;rintro e w7 ⟨c7,f7,T7,rfl,ES,F7,tN,nA⟩;have EJ:=(jK.out.grow vu).sep nB nA;have Js:=(pE.out.trans (Rl.grow (r:=r) vu H2.out.base)).trans (Rl.sep nB nA);have NV:=((Rl.grow (r:=r) vu H2.out.base).trans (Rl.sep nB nA)).hold;have tR:=NV.keep _ _ _ _ pB.out (by unfold zn;decide);have hv7:=NV.keep _ _ _ _ MU.out (by unfold zn;decide);have je:=Nb Hov.out NV;refine ⟨_,rfl,EK EJ tR,?_⟩
  try first|simp only [ag,List.set]|simp only [aD]
  repeat (first|(refine aB (v:= ?_) (by rfl) ?_ ?_;rotate_left;(rintro W ⟨⟨hW0,hW1,hW2⟩,hW3,mF,sj,mG,pK,xt⟩;go_simp;with_reducible rfl);simp only [ag,List.set])|(refine aC (by rfl) ?_;simp only [ag,List.set]))
  refine bm ?_;have lC:f.add (cD n) X=f.set (cD n) (q.1++X,q.2):=by unfold Lk.add;rw [Hq.out]
  have Cs:=ae ((Sep.bF (F:=F) (Uv.out.trans vu)).trans nA);have Ct:=ae (Nb Uu.out (((Rl.grow (r:=r) vu H2.out.base).trans (Rl.sep nB nA)).hold));rw [lC] at ES;have ET:=ae EJ;have vx:=ae tN;have Hr7:=ae Js;have Hv7:=ae hv7;have Ho7:=ae je;have HX:=ae hX;have hN7:cI N B w7:=xr.out.keep (fun b hb=>((Rl.grow (r:=r) vu H2.out.base).trans (Rl.sep nB nA)).below.block b hb);have HN7:=ae hN7;clear hgd hg3 jV hg4 gj aO qO ai vu nB nA EJ Js NV tR hv7 je lC tN jr fE adT hX hN7 uV ic jK H2 xr pE pB MU Hov HA2 BW e1 Uu Uv;rcases ES with ⟨rfl,hroom,rfl,rfl⟩|⟨rfl,pj,rfl,rfl⟩
  rotate_left
  ·have Hfu:=ae pj
   clear pj;go_wp2;go_ret;refine ⟨5,f7,T7,V,.slice ta V.tabs.length tc,F7,rfl,.inr (.inl ⟨by rw [←ER.out];exact H0.out,by rw [←HX.out];exact Hfu.out,rfl,rfl,rfl,rfl⟩),ET.out,Ct.out,vx.out,Cs.out.wide sb⟩
  have JD:=ae hroom;clear hroom
  go_upto_region 7 with fail
  obtain ⟨c0,_,_,_,_,c5,ls⟩:=ET.out.cells;refine bX (fun W=>W.cell? ⟨sb,0,none⟩=some (.pointer (some ⟨p,0,none⟩))∧W.cell? ⟨sb,5,none⟩=some (.int .i64 (n:Int))∧sb<W.heap.size) [(0,false),(1,false),(2,false),(3,false),(4,false),(5,false),(6,false),(7,false),(8,true),(9,true),(10,true)] (by kernel_rfl) (by kernel_rfl) (fun c a d v w h=>by cases d<;>exact h) ⟨by simpa using c0,by simpa using c5,by simpa using ls⟩ ?_;simp only [aP,nth];clear c0 c5 ls
  repeat (first|(refine aB (v:= ?_) (by rfl) ?_ ?_;rotate_left;(rintro W ⟨hW0,hW1,hW2⟩;go_simp;with_reducible rfl);simp only [ag,List.set])|(refine aC (by rfl) ?_;simp only [ag,List.set]))
  have hgd:=Grow.drew w7;refine bj (by rfl) (by go_simp) (IG (HN7.out.grow hgd vx.out.base) hn h6) ?_;rintro e w8 ⟨rfl,cx⟩;have zR:=hgd.trans cx;obtain ⟨c0,_,_,_,_,c5,ls⟩:=(ET.out.grow zR).cells;refine ⟨_,rfl,⟨c0,c5,ls⟩,?_⟩
  try first|simp only [ag,List.set]|simp only [aD]
  have ai:=Grow.alloc w8 (.cells #[.string (cD n)] 9);have vy:=zR.trans ai;obtain ⟨MG,_,_,_,_,c5',ls'⟩:=(ET.out.grow vy).cells;refine ry (by rfl) (ru (v:= .string (cD n)) rfl Tryz.underlying95 Tryz.Mv rfl rfl rfl) ⟨MG,c5',ls'⟩ ?_
  try first|simp only [ag,List.set]|simp only [aD]
  have fF:=vx.out.grow vy;refine bj (by rfl) (by go_simp) (IJ fF (qw _ _ _) (aw _ _)) ?_;rintro e wa ⟨rfl,Fa,EU,nD⟩;rw [ML] at EU;have vz:=(ET.out.grow vy).sep fF nD;have NW:=(Rl.grow (r:=r) vy vx.out.base).trans (Rl.sep fF nD);have zS:=NW.hold.keep _ _ _ _ Hv7.out (by unfold zn;decide);have Uw:=Nb Ho7.out NW.hold;obtain ⟨g0,_,_,_,_,g5,lg⟩:=vz.cells;refine ⟨_,rfl,⟨g0,g5,lg⟩,?_⟩
  try first|simp only [ag,List.set]|simp only [aD]
  refine bm ?_;obtain ⟨xa,xc,rfl⟩:=iV Uw;obtain ⟨y0,y1,y2,y3⟩:=bZ zS;have lva:=af zS;have aec:wa.heap[sb]?=some (.cells (setCells p (.slice ta V.tabs.length tc) V n) 154 (0,0)):=vz;have fa:∀ i,wa.frozen? ⟨sb,i,none⟩=false:=fun i=>by simp [World.frozen?,aec]
  obtain ⟨_,z1,z2,z3,z4,_,lsa⟩:=vz.cells;obtain ⟨k1,k2,k3⟩:=atV vz EU hB (.slice xa AP.2.tabs.length xc) AP.2;have Hsa:=ae (((((((Cs.out.trans (Sep.bF vy)).trans nD).wide sb).trans (Sep.tQ Fa _ sb 1 (.slice xa AP.2.tabs.length xc))).trans (Sep.tQ Fa _ sb 2 (.int .u64 AP.2.seq))).trans (Sep.tQ Fa _ sb 3 (.int .i64 AP.2.next))).trans (Sep.tQ Fa _ sb 4 (.int .i64 AP.2.aj)));have bG:=ae (ah k1 (ah k2 (ah ((Hr7.out.trans NW).trans k3) (Nb (qx Uw (bk _)) k3.hold))));clear hgd cx zR ai vy fF EU nD vz NW zS Uw c0 c5 ls MG c5' ls' g0 g5 lg aec k1 k2 k3 ET vx Hr7 Hv7 Ho7 HN7;go_wp2;go_ret;refine ⟨0,_,_,_,.slice xa AP.2.tabs.length xc,Fa,rfl,.inl ⟨by rw [←ER.out];exact H0.out,by rw [←HX.out];exact JD.out,rfl,rfl,rfl,rfl⟩,?_⟩;rw [←ER.out,←HX.out];exact ⟨bG.out.1,bG.out.2.2.2,bG.out.2.1,Hsa.out⟩
 ·have e1:(AP.1 != 0)=true:=by simpa using h0
  have H0:=ae h0;clear h0;go_wp2;go_ret;exact ⟨AP.1,f,T,V,.slice ta V.tabs.length tc,F,rfl,.inr (.inr ⟨by rw [←ER.out];exact H0.out,by rw [←ER.out],rfl,rfl,rfl⟩),jK.out,Uu.out,H2.out.more (by omega),(Sep.bF Uv.out).wide sb⟩
end Go.Proofs.YtoolkdapflaeeaaGreatDoor
namespace Go.Proofs.YtoolkdapflaeeaaGreatDoor
open Go.RowKit Go.Gl Mn
structure En where
 key:ByteArray
 seq:Nat
 gone:Bool
 val:List UInt8
instance:Inhabited En:=⟨⟨ByteArray.empty,0,false,[]⟩⟩
def fH (a b:En):Int:=cJ (jF a.key b.key) (ij b.seq a.seq)
def gY (a b:En):Prop:=a.key.data.toList<b.key.data.toList∨(a.key=b.key∧b.seq<a.seq)
def qP (a b:En):Prop:=a.key=b.key∧a.seq=b.seq
theorem EW {a b:ByteArray} (h:a.data.toList=b.data.toList):a=b:=by
 apply ByteArray.ext;exact Array.toList_inj.1 h
theorem Cu (a b:En):fH a b<0↔gY a b:=by
 unfold fH cJ gY;by_cases h:jF a.key b.key=0
 ·rw [if_pos h,SY]
  have e:=(Eo _ _).1 h;rw [ByteArray.toList_eq,ByteArray.toList_eq] at e;have e':=EW e;constructor
  ·intro h2;exact .inr ⟨e',by omega⟩
  ·rintro (h2|⟨_,h2⟩)
   ·rw [e] at h2;exact absurd h2 (List.lt_irrefl _)
   ·omega
 ·rw [if_neg h,SX,ByteArray.toList_eq,ByteArray.toList_eq]
  constructor
  ·intro h2;exact .inl h2
  ·rintro (h2|⟨h2,_⟩)
   ·exact h2
   ·exact absurd ((Eo _ _).2 (by rw [h2])) h
theorem JE (a b:En):fH a b=0↔qP a b:=by
 unfold fH cJ qP;by_cases h:jF a.key b.key=0
 ·rw [if_pos h,SZ]
  have e:=(Eo _ _).1 h;rw [ByteArray.toList_eq,ByteArray.toList_eq] at e;have e':=EW e;constructor
  ·intro h2;exact ⟨e',by omega⟩
  ·intro h2;omega
 ·rw [if_neg h]
  constructor
  ·intro h2;exact absurd h2 h
  ·intro h2;exact absurd ((Eo _ _).2 (by rw [h2.1])) h
theorem NX {a b c:En} (h:gY a b) (k:gY b c):gY a c:=by
 rcases h with h|⟨h,h'⟩
 ·rcases k with k|⟨k,_⟩
  ·exact .inl (List.lt_trans h k)
  ·exact .inl (k ▸ h)
 ·rcases k with k|⟨k,k'⟩
  ·exact .inl (h ▸ k)
  ·exact .inr ⟨h.trans k,by omega⟩
theorem JF (a:En):¬ gY a a:=by
 rintro (h|⟨_,h⟩)
 ·exact List.lt_irrefl _ h
 ·omega
theorem aed {a b:En} (h1:¬ gY a b) (h2:¬ gY b a):qP a b:=by
 have k1:¬ a.key.data.toList<b.key.data.toList:=fun h=>h1 (.inl h)
 have k2:¬ b.key.data.toList<a.key.data.toList:=fun h=>h2 (.inl h)
 have e:=EW (List.le_antisymm (List.not_lt.1 k2) (List.not_lt.1 k1));refine ⟨e,?_⟩;have a1:¬ b.seq<a.seq:=fun h=>h1 (.inr ⟨e,h⟩)
 have a2:¬ a.seq<b.seq:=fun h=>h2 (.inr ⟨e.symm,h⟩)
 omega
theorem Cv {a b c:En} (h:qP a b):gY a c↔gY b c:=by
 unfold gY;rw [h.1,h.2]
theorem aee {a b c:En} (h:qP a b):gY c a↔gY c b:=by
 unfold gY;rw [h.1,h.2]
def cQ (l:List En):Prop:=l.Pairwise gY
theorem cQ.nil:cQ []:=List.Pairwise.nil
theorem xu {a:En} {l:List En}:cQ (a::l)↔(∀ b∈l,gY a b)∧cQ l:=List.pairwise_cons
def gp (x:En) (l:List En):List En:=l.takeWhile (fun e=>decide (fH e x<0))
def gq (x:En) (l:List En):List En:=l.dropWhile (fun e=>decide (fH e x<0))
theorem tS (x:En) (l:List En):gp x l++gq x l=l:=List.takeWhile_append_dropWhile ..
theorem NY {x:En} {l:List En}:∀ e∈gp x l,gY e x:=fun e he=>by
 have:=List.all_takeWhile (p:=fun e=>decide (fH e x<0)) (l:=l);have h2:=List.all_eq_true.1 this e he;rw [decide_eq_true_eq,Cu] at h2;exact h2
theorem EX {x:En}:∀ {l:List En},cQ l→∀ e∈gq x l,¬ gY e x
 | [],_,e,he=>by cases he
 |a::l,h,e,he=>by
  unfold gq at he;rw [List.dropWhile_cons] at he;have h':=xu.1 h;by_cases hc:fH a x<0
  ·rw [if_pos (by simpa using hc)] at he
   exact EX h'.2 e he
  ·rw [if_neg (by simpa using hc)] at he
   rw [Cu] at hc;rcases List.mem_cons.1 he with rfl|he
   ·exact hc
   ·exact fun h3=>hc (NX (h'.1 e he) h3)
theorem Ux {x:En} {l:List En} (h:cQ l):cQ (gp x l)∧cQ (gq x l)∧∀ a∈gp x l,∀ b∈gq x l,gY a b:=by
 have h2:cQ (gp x l++gq x l):=by rw [tS];exact h
 exact List.pairwise_append.1 h2
def jt (x:En) (l:List En):List En:=
 gp x l++x::(match gq x l with| []=> []|e::r=>if fH e x=0 then r else e::r)
theorem Uy {x e:En} {l:List En} (h:cQ l):e∈jt x l↔e=x∨(e∈l∧¬ qP e x):=by
 unfold jt;have JG:=tS x l;have kU:=NY (x:=x) (l:=l);have Cw:=EX (x:=x) h;have iB:∀ e∈gp x l,¬ qP e x:=fun e he hs=>by
  have:=kU e he;rw [Cv hs] at this;exact JF _ this
 have ho:cQ (gq x l):=(Ux h).2.1;have nG:e∈l↔e∈gp x l∨e∈gq x l:=by have h9:=List.mem_append (a:=e) (s:=gp x l) (t:=gq x l);rwa [JG] at h9
 rw [List.mem_append,List.mem_cons,nG];generalize gq x l=hi at*;cases hi with
 |nil=>
  constructor
  ·rintro (h|h|h)
   ·exact .inr ⟨.inl h,iB e h⟩
   ·exact .inl h
   ·cases h
  ·rintro (h|⟨h|h,_⟩)
   ·exact .inr (.inl h)
   ·exact .inl h
   ·cases h
 |cons a r=>
  have fJ:=xu.1 ho;simp only;by_cases hc:fH a x=0
  ·rw [if_pos hc]
   rw [JE] at hc;have hr:∀ e∈r,¬ qP e x:=fun e he hs=>by
    have:=fJ.1 e he;rw [Cv hc,←Cv hs] at this;exact JF _ this
   constructor
   ·rintro (h|h|h)
    ·exact .inr ⟨.inl h,iB e h⟩
    ·exact .inl h
    ·exact .inr ⟨.inr (gz _ h),hr e h⟩
   ·rintro (h|⟨h|h,hs⟩)
    ·exact .inr (.inl h)
    ·exact .inl h
    ·rcases List.mem_cons.1 h with rfl|h
     ·exact absurd hc hs
     ·exact .inr (.inr h)
  ·rw [if_neg hc]
   rw [JE] at hc;have NZ:gY x a:=by
    by_cases h1:gY x a
    ·exact h1
    ·exact absurd (aed (Cw a (eQ ..)) h1) hc
   have hr:∀ e∈a::r,¬ qP e x:=fun e he hs=>by
    rcases List.mem_cons.1 he with rfl|he
    ·exact hc hs
    ·have:=NX NZ (fJ.1 e he)
     rw [←Cv hs] at this;exact JF _ this
   constructor
   ·rintro (h|h|h)
    ·exact .inr ⟨.inl h,iB e h⟩
    ·exact .inl h
    ·exact .inr ⟨.inr h,hr e h⟩
   ·rintro (h|⟨h|h,_⟩)
    ·exact .inr (.inl h)
    ·exact .inl h
    ·exact .inr (.inr h)
theorem Uz {x:En} {l:List En} (h:cQ l):cQ (jt x l):=by
 unfold jt;have JG:=tS x l;have kU:=NY (x:=x) (l:=l);have Cw:=EX (x:=x) h;obtain ⟨hl,ho,hx⟩:=Ux (x:=x) h;generalize gq x l=hi at*;have tU:∀ r:List En,cQ r→(∀ b∈r,gY x b)→cQ (gp x l++x::r):=fun r hr hb=>by
  refine List.pairwise_append.2 ⟨hl,xu.2 ⟨hb,hr⟩,fun a ha b hb'=> ?_⟩;rcases List.mem_cons.1 hb' with rfl|hb'
  ·exact kU a ha
  ·exact NX (kU a ha) (hb b hb')
 cases hi with
 |nil=>exact tU [] .nil (fun _ h=>by cases h)
 |cons a r=>
  have fJ:=xu.1 ho;simp only;by_cases hc:fH a x=0
  ·rw [if_pos hc]
   rw [JE] at hc;exact tU r fJ.2 (fun b hb=>(Cv hc).1 (fJ.1 b hb))
  ·rw [if_neg hc]
   rw [JE] at hc;have NZ:gY x a:=by
    by_cases h1:gY x a
    ·exact h1
    ·exact absurd (aed (Cw a (eQ ..)) h1) hc
   refine tU (a::r) ho (fun b hb=> ?_);rcases List.mem_cons.1 hb with rfl|hb
   ·exact NZ
   ·exact NX NZ (fJ.1 b hb)
end Go.Proofs.YtoolkdapflaeeaaGreatDoor
namespace Go.Proofs.YtoolkdapflaeeaaGreatDoor
open Go.RowKit Go.Gl Go.aH Mn
def nH (e:En):List UInt8:=aU e.key.data.toList++(aA e.seq++((if e.gone then 1 else 0)::aU e.val))
def aZ (l:List En):List UInt8:=l.flatMap nH
theorem qQ (a b:List En):aZ (a++b)=aZ a++aZ b:=by simp [aZ]
theorem auE (e:En):aZ [e]=nH e:=by simp [aZ]
theorem aef (e:En):0<(nH e).length:=by simp [nH];omega
theorem auF {l:List En} (h:aZ l= []):l= []:=by
 cases l with
 |nil=>rfl
 |cons e l=>
  have h1:=congrArg List.length h;have h2:=aef e;rw [aZ,List.flatMap_cons,List.length_append,List.length_nil] at h1;omega
def dM (size:Nat):List En→List En→List (List En)
 |_,[]=> []
 |cur,e::r=>if size≤(aZ (cur++ [e])).length∨r= [] then (cur++ [e])::dM size [] r else dM size (cur++ [e]) r
theorem JH (size:Nat):∀ (l cur:List En),l≠ []→(dM size cur l).flatten=cur++l
 | [],_,h=>absurd rfl h
 |e::r,cur,_=>by
  unfold dM;by_cases hr:r= []
  ·subst hr
   rw [if_pos (.inr rfl)];simp [dM]
  ·split
   ·rw [List.flatten_cons,JH size r [] hr];simp
   ·rw [JH size r _ hr];simp
theorem JI (size:Nat):∀ (l cur:List En),∀ g∈dM size cur l,g≠ []
 | [],_,g,h=>by simp [dM] at h
 |e::r,cur,g,h=>by
  unfold dM at h
  split at h
  ·rcases List.mem_cons.1 h with rfl|h
   ·simp
   ·exact JI size r [] g h
  ·exact JI size r _ g h
def jX (g:List En):ByteArray:=match g with| []=>ByteArray.empty|e::_=>e.key
abbrev fj (g:List En):List UInt8:=bw aq (aZ g)
def bN (gs:List (List En)):List UInt8:=gs.flatMap fj
def iR:Nat→List (List En)→List UInt8
 |_,[]=> []
 |at',g::gs=>aU (jX g).data.toList++(aA at'++(aA (fj g).length++iR (at'+(fj g).length) gs))
theorem JJ (a b:List (List En)):bN (a++b)=bN a++bN b:=by simp [bN]
def iq (at' th n:Nat):List UInt8:=cm 8 at'++(cm 8 th++cm 8 n)
theorem Oa (a b c:Nat):(iq a b c).length=24:=by simp [iq,kQ]
def dz (gs:List (List En)):List UInt8:=bN gs++bw aq (iR 0 gs)
def fN (gs:List (List En)) (n:Nat) (fl:List UInt8):List UInt8:=
 dz gs++(bw aq fl++(iq (bN gs).length (dz gs).length n++cm 4 (dB aq (iq (bN gs).length (dz gs).length n))))
def numOf (l:List UInt8):Nat:=l.foldr (fun b v=>v*256+b.toNat) 0
theorem Ob:∀ (k v:Nat),v<256^k→numOf (cm k v)=v
 |0,v,h=>by simp at h;subst h;rfl
 |k+1,v,h=>by
  have h2:v / 256<256^k:=by
   rw [Nat.pow_succ] at h;exact Nat.div_lt_of_lt_mul (by rw [Nat.mul_comm];exact h)
  have ih:=Ob k (v / 256) h2;unfold numOf at ih ⊢;rw [cm,List.foldr_cons,ih,UInt8.toNat_ofNat_of_lt' (by simp [UInt8.size];omega)];omega
theorem aeg:∀ (l:List UInt8),numOf l<256^l.length
 | []=>by simp [numOf]
 |b::l=>by
  have ih:=aeg l;unfold numOf at ih ⊢;rw [List.foldr_cons,List.length_cons,Nat.pow_succ];have:=b.toNat_lt;omega
def UA (w:World) (B:Nat) (l:List UInt8) (v0 n:Nat) (bv vv iv:Value) (wr:World):Prop:=
 ∃ (i v:Nat),iv= .int .i64 i∧i≤n∧vv= .int .u64 v∧v<18446744073709551616∧(∃ pre,aG B wr bv (l++pre)∧pre.length=i∧cm n v0=pre++cm (n-i) v)∧Below B w wr∧B≤wr.heap.size
theorem aeh {w:World} {B:Nat} {bv:Value} {l:List UInt8} (h:aG B w bv l) (hB:B≤w.heap.size) (hl:l.length≤1000000000000) (v0:Nat) (hv:v0<18446744073709551616) {n:Nat} (hn:n≤8):
  Calls Tryz.prog 160 #[bv,.int .u64 v0,.int .i64 n] w fun e w'=>∃ v,e= .returned v∧aG B w' v (l++cm n v0)∧Below B w w':=by
 have hst:UA w B l v0 n bv (.int .u64 v0) (.int .i64 0) w:=⟨0,v0,rfl,by omega,rfl,hv,⟨[],by simpa using h,rfl,rfl⟩,Below.refl _ _,hB⟩
 have bI:=ae hst;clear hst h;go_enter Tryz.func160,Tryz.ntmps160
 go_wp2_with fail
 go_loopw [0,1,8] (fun bv vv iv wr=>UA w B l v0 n bv vv iv wr) (fun _ _ iv _=>n-(intOf iv).toNat)
 case atStart=>exact bI.out
 case round=>
  obtain ⟨i,v,rfl,hi,rfl,anZ,⟨pre,hown,hpl,kU⟩,hg,Be⟩:=hrel;by_cases hlt:i<n
  ·have dJ:decide ((i:Int)<(n:Int))=true:=by simp;omega
   have eE:IntKind.i64.wrap ((i:Int)+1)=(i:Int)+1:=aR _ (by omega);have hx:((v:Int)%256)=(((UInt8.ofNat (v%256)).toNat:Nat):Int):=by rw [UInt8.toNat_ofNat_of_lt' (by simp [UInt8.size];omega)];omega
   obtain ⟨v',w',h1,h2,h3⟩:=GR hown (UInt8.ofNat (v%256)) hx Be (by simp;omega);have dC:=ae h1;have hrel:UA w B l v0 n v' (.int .u64 ((v:Int) / 256)) (.int .i64 ((i:Int)+1)) w':=by
    refine ⟨i+1,v / 256,by simp,hlt,by simp,by omega,⟨pre++ [UInt8.ofNat (v%256)],by rw [←List.append_assoc];exact h2,by simp;omega,?_⟩,Below.trans hg h3,aN Be h3.size⟩;rw [kU,show n-i=(n-(i+1))+1 by omega,cm];simp
   have bq:=ae hrel;obtain ⟨ba,bc,rfl⟩:=hown.slice;clear h1 h2 h3 hrel hown kU hpl hg hx
   go_wp2_with (at_builtin;refine fC rfl rfl rfl rfl dC.out ?_)
   go_roundw
   case rel=>exact bq.out
   case measure=>simp [intOf];omega
  ·have gu:i=n:=by omega
   subst gu;have gP:cm i v0=pre:=by rw [kU];simp [cm]
   have jd:=hown;rw [←gP] at jd;have fK:=ae jd;obtain ⟨ba,bc,rfl⟩:=hown.slice;clear jd hown kU gP;go_wp2;go_ret;exact ⟨_,rfl,fK.out,hg⟩
def auG (w:World) (l:List UInt8) (vv iv:Value) (wr:World):Prop:=∃ k:Nat,k≤l.length∧iv= .int .i64 ((k:Int)-1)∧vv= .int .u64 (numOf (l.drop k):Nat)∧wr=w
theorem auH {v b:Nat} (hv:v<72057594037927936) (hb:b<256):bits .or .u64 ((v:Int)*256) (b:Int)=((v*256+b:Nat):Int):=by
 have h1:v*256<18446744073709551616:=by omega
 have:=u64_or_nat (v*256) b h1 (by omega);rw [show ((v*256:Nat):Int)=(v:Int)*256 by simp] at this;rw [this,nat_join 8 (v*256) b (by omega) (by omega)]
theorem Oc {w:World} {bv:Value} {l:List UInt8} (h:Bv w bv l) (hl:l.length≤8):
  Calls Tryz.prog 146 #[bv] w fun e w'=>e= .returned (.int .u64 (numOf l:Nat))∧w'=w:=by
 obtain ⟨ba,bc,rfl,hlc,hm,hn,h⟩:=h;have H:=ae h;have hw0:IntKind.i64.wrap ((l.length:Int)-1)=(l.length:Int)-1:=aR _ (by omega);clear h;go_enter Tryz.func146,Tryz.ntmps146
 go_wp2_with fail
 clear hw0
 go_loopw [3,4] (fun vv iv wr=>auG w l vv iv wr) (fun _ iv _=>((intOf iv)+1).toNat)
 case atStart=>exact ⟨l.length,ay _,rfl,by simp [numOf],rfl⟩
 case round=>
  obtain ⟨k,hk,rfl,rfl,hwr⟩:=hrel;have sZ:=hwr.symm;subst sZ;clear hwr;cases k with
  |zero=>
   rw [show (((0:Nat):Int)-1)= -1 by rfl];go_wp2;go_ret;exact ⟨by simp,rfl⟩
  |succ m=>
   rw [show (((m+1:Nat):Int)-1)=(m:Int) by omega];obtain ⟨c,hc⟩:∃ c,l[m]?=some c:=⟨l[m],by simp [show m<l.length by omega]⟩
   obtain ⟨b,o,rfl,lb,hcs⟩:∃ b o,ba=some ⟨b,o,none⟩∧b<w.heap.size∧∀ (j:Nat) (k:UInt8),l[j]?=some k→w.cell? ⟨b,o+j,none⟩=some (.int .u8 k.toNat):=by
    rcases H.out with h1|h1
    ·rw [h1] at hk;simp at hk
    ·exact h1
   have ck:=hcs m c hc;have hstep:numOf (l.drop m)=numOf (l.drop (m+1))*256+c.toNat:=by
    obtain ⟨hi,e⟩:=dQ.1 hc;rw [List.drop_eq_getElem_cons hi,e];rfl
   have hlt:=aeg (l.drop (m+1));have aei:256^(l.drop (m+1)).length≤256^7:=Nat.pow_le_pow_right (by decide) (by rw [List.length_drop];omega);have ZU:=c.toNat_lt;have hv:numOf (l.drop (m+1))<72057594037927936:=cj hlt (aN aei (by decide));generalize numOf (l.drop (m+1))=v at*;generalize c.toNat=x at*;have x1:=auH hv ZU;have fY:(m:Int)<(l.length:Int):=by omega
   have tC:(0:Int)≤(m:Int):=by omega
   have UB:IntKind.u64.wrap ((v:Int)*256)=(v:Int)*256:=by simp [IntKind.wrap,IntKind.bits,IntKind.signed];omega
   have hwm:IntKind.i64.wrap ((m:Int)-1)=(m:Int)-1:=aR _ (by omega);have iM:=ae hstep;clear hstep hcs hc hlt aei;go_wp2;go_roundw
   case rel=>exact ⟨m,by omega,rfl,by rw [iM.out];simp,rfl⟩
   case measure=>simp [intOf]
theorem auI (y:List UInt8) {l:List UInt8} {i:Nat} {k:UInt8} (h:l[i]?=some k):lI aq (y++l.take (i+1))=yG aq (lI aq (y++l.take i)) k:=by
 unfold lI;obtain ⟨hi,rfl⟩:=dQ.1 h;rw [List.take_succ_eq_append_getElem hi,←List.append_assoc,List.foldl_append];rfl
def auJ (w:World) (y l:List UInt8) (cv iv:Value) (wr:World):Prop:=∃ i:Nat,iv= .int .i64 i∧i≤l.length∧cv= .int .u32 ((lI aq (y++l.take i):Nat):Int)∧wr=w
def auK (w:World) (ps:List (List UInt8)) (cv iv:Value) (wr:World):Prop:=∃ i:Nat,iv= .int .i64 i∧i≤ps.length∧cv= .int .u32 ((lI aq (ps.take i).flatten:Nat):Int)∧wr=w
theorem auL {ps:List (List UInt8)} {i:Nat} {p:List UInt8} (h:ps[i]?=some p):(ps.take (i+1)).flatten=(ps.take i).flatten++p:=by
 obtain ⟨hi,rfl⟩:=dQ.1 h;rw [List.take_succ_eq_append_getElem hi,List.flatten_append];simp
theorem aej {w:World} {v:Value} {ps:List (List UInt8)} (h:Rv w v ps) (hpl:ps.length≤1000000000000):
  Calls Tryz.prog 145 #[v] w fun e w'=>e= .returned (.int .u32 ((dB aq ps.flatten:Nat):Int))∧Grow w w':=by
 obtain ⟨va,vc,ev,_⟩:=id h;subst ev;go_enter Tryz.func145,Tryz.ntmps145
 go_wp2_with fail
 (with_reducible refine (ZN _).mono ?_);rintro e w1 ⟨rfl,hg1⟩;have h1:=h.grow hg1;unfold Mw
 go_wp2_with fail
 have ai:Grow w1 (w1.alloc (.cells #[.int .u32 0,.int .u32 274646895,.int .u32 549293790,.int .u32 820201905,.int .u32 1098587580,.int .u32 1361435347,.int .u32 1640403810,.int .u32 1905808397,.int .u32 2197175160,.int .u32 2460548119,.int .u32 2722870694,.int .u32 2987750089,.int .u32 3280807620,.int .u32 3553878443,.int .u32 3811616794,.int .u32 4084100981] 304)):=Grow.alloc _ _;have gO:(w1.alloc (.cells #[.int .u32 0,.int .u32 274646895,.int .u32 549293790,.int .u32 820201905,.int .u32 1098587580,.int .u32 1361435347,.int .u32 1640403810,.int .u32 1905808397,.int .u32 2197175160,.int .u32 2460548119,.int .u32 2722870694,.int .u32 2987750089,.int .u32 3280807620,.int .u32 3553878443,.int .u32 3811616794,.int .u32 4084100981] 304)).heap[w1.heap.size]?=some (.cells #[.int .u32 0,.int .u32 274646895,.int .u32 549293790,.int .u32 820201905,.int .u32 1098587580,.int .u32 1361435347,.int .u32 1640403810,.int .u32 1905808397,.int .u32 2197175160,.int .u32 2460548119,.int .u32 2722870694,.int .u32 2987750089,.int .u32 3280807620,.int .u32 3553878443,.int .u32 3811616794,.int .u32 4084100981] 304 (0,0)):=aw _ _;have hT:∀ d,d<16→(w1.alloc (.cells #[.int .u32 0,.int .u32 274646895,.int .u32 549293790,.int .u32 820201905,.int .u32 1098587580,.int .u32 1361435347,.int .u32 1640403810,.int .u32 1905808397,.int .u32 2197175160,.int .u32 2460548119,.int .u32 2722870694,.int .u32 2987750089,.int .u32 3280807620,.int .u32 3553878443,.int .u32 3811616794,.int .u32 4084100981] 304)).cell? ⟨w1.heap.size,d,none⟩=some (.int .u32 ((aq.getD d 0:Nat):Int)):=fun d hd=>by
  simp only [World.cell?,gO]
  match d,hd with
  |0,_=>rfl
  |1,_=>rfl
  |2,_=>rfl
  |3,_=>rfl
  |4,_=>rfl
  |5,_=>rfl
  |6,_=>rfl
  |7,_=>rfl
  |8,_=>rfl
  |9,_=>rfl
  |10,_=>rfl
  |11,_=>rfl
  |12,_=>rfl
  |13,_=>rfl
  |14,_=>rfl
  |15,_=>rfl
  |d+16,h=>exact absurd h (by omega)
 have h2:=h1.grow ai;have eD:=ae (hg1.trans ai);have Ea:=af gO;generalize w1.alloc (.cells #[.int .u32 0,.int .u32 274646895,.int .u32 549293790,.int .u32 820201905,.int .u32 1098587580,.int .u32 1361435347,.int .u32 1640403810,.int .u32 1905808397,.int .u32 2197175160,.int .u32 2460548119,.int .u32 2722870694,.int .u32 2987750089,.int .u32 3280807620,.int .u32 3553878443,.int .u32 3811616794,.int .u32 4084100981] 304)=w2 at*;generalize w1.heap.size=tb at*;have H2:=ae h2;have HT:=ae hT;clear h h1 gO hT ai hg1 h2;obtain ⟨rL,rM,ev,hrow⟩:=H2.out;cases ev;have pL:=ae hrow;clear hrow
 go_wp2_with fail
 go_loopw [4,12] (fun cv iv wr=>auK w2 ps cv iv wr) (fun _ iv _=>ps.length-(intOf iv).toNat)
 case atStart=>exact ⟨0,rfl,bk _,rfl,rfl⟩
 case round=>
  obtain ⟨n,rfl,hn,rfl,hwr⟩:=hrel;have sZ:=hwr.symm;subst sZ;clear hwr;by_cases hlt:n<ps.length
  ·obtain ⟨l,hl0⟩:∃ l,ps[n]?=some l:=⟨ps[n],by simp [hlt]⟩
   obtain ⟨b,o,rfl,lb,hc⟩:∃ b o,va=some ⟨b,o,none⟩∧b<w2.heap.size∧∀ (j:Nat) (p:List UInt8),ps[j]?=some p→∃ pv,w2.cell? ⟨b,o+j,none⟩=some pv∧Bv w2 pv p:=by
    rcases pL.out with h1|h1
    ·rw [h1] at hlt;simp at hlt
    ·exact h1
   obtain ⟨pv,c1,bg⟩:=hc n l hl0;obtain ⟨pa,pc,rfl,hl,hm,iU,hp⟩:=bg;have Hp:=ae hp;have pM:=ae (auL hl0);have gQ:(n:Int)<(ps.length:Int):=by omega
   have gD:(0:Int)≤(n:Int):=by omega
   have vA:IntKind.i64.wrap ((n:Int)+1)=(n:Int)+1:=aR _ (by omega);generalize (ps.take n).flatten=y at*;clear hp hc hl0
   go_wp2_with fail
   go_loopw [4,18] (fun cv iv wr=>auJ w2 y l cv iv wr) (fun _ iv _=>l.length-(intOf iv).toNat)
   case atStart=>exact ⟨0,rfl,bk _,by simp,rfl⟩
   case round=>
    obtain ⟨i,rfl,hi,rfl,hwr⟩:=hrel;have sZ:=hwr.symm;subst sZ;clear hwr;by_cases hlt:i<l.length
    ·obtain ⟨k,hk⟩:∃ k,l[i]?=some k:=⟨l[i],by simp [hlt]⟩
     obtain ⟨p,o,rfl,lp,hc⟩:∃ b o,pa=some ⟨b,o,none⟩∧b<w2.heap.size∧∀ (j:Nat) (k:UInt8),l[j]?=some k→w2.cell? ⟨b,o+j,none⟩=some (.int .u8 k.toNat):=by
      rcases Hp.out with h1|h1
      ·rw [h1] at hlt;simp at hlt
      ·exact h1
     have ck:=hc i k hk;have hstep:=auI y hk;have GU:=GS (y++l.take i);have anQ:=k.toNat_lt;generalize lI aq (y++l.take i)=c at*;have dJ:(i:Int)<(l.length:Int):=by omega
     have bK:(0:Int)≤(i:Int):=by omega
     have eE:IntKind.i64.wrap ((i:Int)+1)=(i:Int)+1:=aR _ (by unfold maxLen at hm;omega);have x1:bits .xor .u32 (c:Int) (k.toNat:Int)=((c^^^k.toNat:Nat):Int):=u32_xor_nat c k.toNat GU (by omega);have hc1:c^^^k.toNat<4294967296:=Nat.xor_lt_two_pow (n:=32) GU (by omega);unfold yG at hstep;generalize c^^^k.toNat=c1 at*;have x2:bits .and .u32 (c1:Int) 15=((c1&&& 15:Nat):Int):=u32_and_nat c1 15 hc1 (by decide);have fR:c1&&& 15<16:=Nat.lt_of_le_of_lt Nat.and_le_right (by decide);have ct1:=HT.out _ fR;have mP:aq.getD (c1&&& 15) 0<4294967296:=by
      have:∀ d,d<16→aq.getD d 0<2^32:=by decide
      exact this _ fR
     have x3:bits .xor .u32 ((c1:Int) / 16) ((aq.getD (c1&&& 15) 0:Nat):Int)=((rz aq c1:Nat):Int):=by
      have:=u32_xor_nat (c1 / 16) (aq.getD (c1&&& 15) 0) (by omega) mP;rw [show ((c1 / 16:Nat):Int)=(c1:Int) / 16 by simp] at this;exact this
     have hc2:=Mx hc1;generalize rz aq c1=c2 at*;generalize RJ:c1&&& 15=d1 at*;have x4:bits .and .u32 (c2:Int) 15=((c2&&& 15:Nat):Int):=u32_and_nat c2 15 hc2 (by decide);have cn:c2&&& 15<16:=Nat.lt_of_le_of_lt Nat.and_le_right (by decide);have ct2:=HT.out _ cn;have uI:aq.getD (c2&&& 15) 0<4294967296:=by
      have:∀ d,d<16→aq.getD d 0<2^32:=by decide
      exact this _ cn
     have x5:bits .xor .u32 ((c2:Int) / 16) ((aq.getD (c2&&& 15) 0:Nat):Int)=((rz aq c2:Nat):Int):=by
      have:=u32_xor_nat (c2 / 16) (aq.getD (c2&&& 15) 0) (by omega) uI;rw [show ((c2 / 16:Nat):Int)=(c2:Int) / 16 by simp] at this;exact this
     generalize rz aq c2=c3 at*;generalize RM:c2&&& 15=d2 at*;generalize aq.getD d1 0=T1 at*;generalize aq.getD d2 0=T2 at*;have d1a:(d1:Int)<16:=by omega
     have d2a:(d2:Int)<16:=by omega
     have d1b:(0:Int)≤(d1:Int):=by omega
     have d2b:(0:Int)≤(d2:Int):=by omega
     have iM:=ae hstep;clear hstep hc hk RJ RM mP uI;go_wp2;go_roundw
     case rel=>exact ⟨i+1,rfl,hlt,by rw [iM.out],rfl⟩
     case measure=>simp [intOf];omega
    ·obtain rfl:i=l.length:=by omega
     rw [List.take_length];go_wp2;go_roundw
     case rel=>exact ⟨n+1,rfl,by omega,by rw [pM.out],rfl⟩
     case measure=>simp [intOf];omega
  ·obtain rfl:n=ps.length:=by omega
   rw [List.take_length];have GV:=GS ps.flatten;generalize JK:ps.flatten=y at*;go_wp2;go_ret;have x:bits .xor .u32 4294967295 ((lI aq y:Nat):Int)=((dB aq y:Nat):Int):=u32_xor_nat 4294967295 (lI aq y) (by decide) GV;refine ⟨?_,eD.out⟩;rw [←x];rfl
end Go.Proofs.YtoolkdapflaeeaaGreatDoor
namespace Go.Proofs.YtoolkdapflaeeaaGreatDoor
open Go.RowKit Go.Gl Go.aH Mn
structure Kp (N:Nat→Prop) (w w':World):Prop where
 size:w.heap.size≤w'.heap.size
 same:∀ b,N b→b<w.heap.size→w'.heap[b]?=w.heap[b]?
section
variable {N M:Nat→Prop} {w w' w'':World}
theorem Kp.refl (N:Nat→Prop) (w:World):Kp N w w:=⟨ay _,fun _ _ _=>rfl⟩
theorem Kp.trans (h:Kp N w w') (k:Kp N w' w''):Kp N w w'':=⟨aN h.size k.size,fun b hb hl=>(k.same b hb (cj hl h.size)).trans (h.same b hb hl)⟩
theorem Kp.bF (h:Grow w w'):Kp N w w':=⟨h.size,fun b _ hl=>h.block b hl⟩
theorem Kp.auM {F F':Nat→Prop} (h:Sep F w w' F') (hN:∀ b,N b→¬ F b):Kp N w w':=⟨h.size,fun b hb hl=>h.out b hl (hN b hb)⟩
theorem Kp.mono (h:Kp N w w') (hM:∀ b,M b→N b):Kp M w w':=⟨h.size,fun b hb hl=>h.same b (hM b hb) hl⟩
theorem Kp.grown {r:Option Nat} (h:w.grownBy w' r) (hN:∀ b,r=some b→¬ N b):Kp N w w':=⟨h.size,fun b hb hl=>h.block b hl (fun e=>hN b e.symm hb)⟩
theorem Kp.cell (h:Kp N w w') {b:Nat} (hb:N b) (hl:b<w.heap.size) (i:Nat):w'.cell? ⟨b,i,none⟩=w.cell? ⟨b,i,none⟩:=by
 simp [World.cell?,h.same b hb hl]
def Bw (N:Nat→Prop) (w:World) (v:Value) (l:List UInt8):Prop:=Bv w v l∧(l= []∨∀ b,v.ownBlock=some b→N b)
theorem Bw.kp {v:Value} {l:List UInt8} (h:Bw N w v l) (k:Kp N w w'):Bw N w' v l:=by
 obtain ⟨⟨a,c,rfl,hl,hm,hn,h⟩,h2⟩:=h;refine ⟨⟨a,c,rfl,hl,hm,hn,?_⟩,h2⟩;rcases h with h|⟨b,o,rfl,hb,hc⟩
 ·exact .inl h
 ·rcases h2 with rfl|h2
  ·exact .inl rfl
  ·refine .inr ⟨b,o,rfl,cj hb k.size,fun j x hx=> ?_⟩
   rw [k.cell (h2 b rfl) hb];exact hc j x hx
theorem Bw.grow {v:Value} {l:List UInt8} (h:Bw N w v l) (hg:Grow w w'):Bw N w' v l:=h.kp (.bF hg)
theorem Bw.mono {v:Value} {l:List UInt8} (h:Bw N w v l) (hM:∀ b,N b→M b):Bw M w v l:=⟨h.1,h.2.imp id (fun h2 b hb=>hM b (h2 b hb))⟩
theorem Bw.slice {v:Value} {l:List UInt8} (h:Bw N w v l):∃ a c,v= .slice a l.length c:=by
 obtain ⟨⟨a,c,h,_⟩,_⟩:=h;exact ⟨a,c,h⟩
theorem UC (N:Nat→Prop) (w:World):Bw N w (.slice none 0 0) []:=⟨⟨none,0,rfl,ay _,bk _,fun _=>rfl,.inl rfl⟩,.inl rfl⟩
end
structure Ev where
 e:En
 v:Value
instance:Inhabited Ev:=⟨⟨default,.slice none 0 0⟩⟩
def eJ (x:Ev):List Value:= [.string x.e.key,.int .u64 x.e.seq,.bool x.e.gone,x.v]
abbrev bQ (x:Ev):Array Value:=#[.string x.e.key,.int .u64 x.e.seq,.bool x.e.gone,x.v]
theorem Cx (x:Ev):(eJ x).length=4:=rfl
abbrev kG (N:Nat→Prop) (w:World) (x:Ev):Prop:=Bw N w x.v x.e.val
theorem auN {N:Nat→Prop} {w:World} {x:Ev} (h:kG N w x):∀ u∈eJ x,u.oneCell'=true:=fun u hu=>by
 obtain ⟨a,c,hv⟩:=h.slice;simp only [eJ,List.mem_cons,List.not_mem_nil,or_false] at hu;rcases hu with rfl|rfl|rfl|rfl
 ·rfl
 ·rfl
 ·rfl
 ·rw [hv];rfl
def Es (N:Nat→Prop) (w:World) (v:Value) (xs:List Ev):Prop:=
 (∃ a c,v= .slice a xs.length c∧xs.length≤c∧c≤maxLen∧(a=none→c=0)∧(xs= []∨∃ b o,a=some ⟨b,o,none⟩∧N b∧b<w.heap.size∧Rd w b o eJ 4 xs))∧∀ x∈xs,kG N w x
def UD (B:Nat) (N:Nat→Prop) (w:World) (v:Value) (xs:List Ev):Prop:=w.ownsRow B 60 4 v xs.length (xs.flatMap eJ)∧∀ x∈xs,kG N w x
section
variable {N M:Nat→Prop} {w w' w'':World} {v:Value} {xs:List Ev}
theorem Es.kp (h:Es N w v xs) (k:Kp N w w'):Es N w' v xs:=by
 obtain ⟨⟨a,c,rfl,hl,hm,hn,h⟩,h2⟩:=h;refine ⟨⟨a,c,rfl,hl,hm,hn,?_⟩,fun x hx=>(h2 x hx).kp k⟩;rcases h with h|⟨b,o,rfl,hb,hlt,hr⟩
 ·exact .inl h
 ·refine .inr ⟨b,o,rfl,hb,cj hlt k.size,fun i x hx c u hu=> ?_⟩
  rw [k.cell hb hlt];exact hr i x hx c u hu
theorem Es.grow (h:Es N w v xs) (hg:Grow w w'):Es N w' v xs:=h.kp (.bF hg)
theorem Es.mono (h:Es N w v xs) (hM:∀ b,N b→M b):Es M w v xs:=by
 obtain ⟨⟨a,c,rfl,hl,hm,hn,h⟩,h2⟩:=h;refine ⟨⟨a,c,rfl,hl,hm,hn,?_⟩,fun x hx=>(h2 x hx).mono hM⟩;rcases h with h|⟨b,o,rfl,hb,hlt,hr⟩
 ·exact .inl h
 ·exact .inr ⟨b,o,rfl,hM b hb,hlt,hr⟩
theorem Es.slice (h:Es N w v xs):∃ a c,v= .slice a xs.length c:=by
 obtain ⟨⟨a,c,h,_⟩,_⟩:=h;exact ⟨a,c,h⟩
theorem Es.get (h:Es N w v xs) {i:Nat} {x:Ev} (hx:xs[i]?=some x):kG N w x:=h.2 x (dY hx)
theorem Es.addr (h:Es N w v xs) {i:Nat} {x:Ev} (hx:xs[i]?=some x):∃ b o c,v= .slice (some ⟨b,o,none⟩) xs.length c∧N b∧b<w.heap.size∧Rd w b o eJ 4 xs:=by
 obtain ⟨⟨a,c,rfl,hl,hm,hn,h⟩,h2⟩:=h;rcases h with rfl|⟨b,o,rfl,hb,hlt,hr⟩
 ·simp at hx
 ·exact ⟨b,o,c,rfl,hb,hlt,hr⟩
theorem JL {b o i:Nat} {x:Ev} (h:Rd w b o eJ 4 xs) (hx:xs[i]?=some x):
  w.cell? ⟨b,o+i*4,none⟩=some (.string x.e.key)∧w.cell? ⟨b,o+i*4+1,none⟩=some (.int .u64 x.e.seq)∧w.cell? ⟨b,o+i*4+2,none⟩=some (.bool x.e.gone)∧w.cell? ⟨b,o+i*4+3,none⟩=some x.v:=
 ⟨h i x hx 0 _ rfl,h i x hx 1 _ rfl,h i x hx 2 _ rfl,h i x hx 3 _ rfl⟩
theorem auO {b o i j:Nat} (h:Rd w b o eJ 4 xs):Rd w b (o+i*4) eJ 4 ((xs.drop i).take (j-i)):=fun k x hx c u hu=>by
 rw [List.getElem?_take] at hx
 split at hx
 ·rw [List.getElem?_drop] at hx
  have:=h (i+k) x hx c u hu;rw [show o+i*4+k*4+c=o+(i+k)*4+c by omega];exact this
 ·cases hx
theorem auP {a:Option Addr} {c:Nat} (h:Es N w (.slice a xs.length c) xs) {i j k:Nat} (nW:i≤j) (hj:j≤xs.length) (hk:j≤k) (JM:k≤c):Es N w (.slice (if k=i then a else a.map (fun x=>x.add (i*4))) (j-i) (k-i)) ((xs.drop i).take (j-i)):=by
 obtain ⟨⟨a',c',e,hl,hm,hn,h⟩,h2⟩:=h;cases e;have hlen:((xs.drop i).take (j-i)).length=j-i:=by simp;omega
 refine ⟨⟨_,k-i,by rw [hlen],by rw [hlen];omega,by omega,?_,?_⟩,fun x hx=>h2 x (List.mem_of_mem_drop (List.mem_of_mem_take hx))⟩
 ·intro hnone
  split at hnone
  ·omega
  ·cases a with
   |none=>have:=hn rfl;omega
   |some a=>cases hnone
 ·rcases h with rfl|⟨b,o,rfl,hb,hlt,hr⟩
  ·left;simp
  ·by_cases GK:k=i
   ·left;rw [show j-i=0 by omega];simp
   ·right
    rw [if_neg GK];exact ⟨b,o+i*4,by simp [Addr.add],hb,hlt,auO hr⟩
theorem UD.es {B:Nat} (h:UD B N w v xs) (hN:∀ g,v.ownBlock=some g→N g):Es N w v xs:=by
 refine ⟨?_,h.2⟩;rcases h.1.2 with ⟨h1,h0⟩|⟨g,cap,cur,h1,hB,h3,h4,h5,h6⟩
 ·have:xs= []:=jb h0
  subst this;exact ⟨none,0,h1,ay _,bk _,fun _=>rfl,.inl rfl⟩
 ·exact ⟨some ⟨g,0,none⟩,cap,h1,h4,h5,(fun e=>by cases e),.inr ⟨g,0,rfl,hN g (by rw [h1];rfl),af h3,wO Cx (h1 ▸ h.1)⟩⟩
end
theorem Tryz.UE:(Tryz.prog.info? 60).map (fun i=>(i.zero,i.size,i.bytes))=some (some (.agg #[.string ByteArray.empty,.int .u64 0,.bool false,.slice none 0 0]),4,56):=by kernel_rfl
end Go.Proofs.YtoolkdapflaeeaaGreatDoor
