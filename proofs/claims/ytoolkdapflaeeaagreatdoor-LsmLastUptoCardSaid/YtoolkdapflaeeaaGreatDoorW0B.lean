/- Helpers. -/
import Derived.Test.YtoolkdapflaeeaaGreatDoorW04
import Derived.Deep.CutBlock
import Derived.Deep.DeepCutAuto
set_option maxRecDepth 100000
set_option maxHeartbeats 16000000
namespace Go.Proofs.YtoolkdapflaeeaaGreatDoor
open Go.RowKit Go.Gl Go.aH Go.Sort
def kF (name:List UInt8) (n:Nat):List UInt8:=name++45::eB n
def bp (name:List UInt8) (n:Nat):ByteArray:=⟨(kF name n).toArray⟩
theorem xe {N B:Nat} {w:World} (h:cI N B w) {n:Nat} (hn:n<N) (h6:n<1000000) {name:List UInt8} (gG:name.length≤64):
  Calls Tryz.prog 79 #[.string ⟨name.toArray⟩,.int .i64 n] w fun e w'=>e= .returned (.string (bp name n))∧Grow w w':=by
 have hd:=Ej h6;have Hi:=ae (h n hn w (fun _ _=>rfl));clear h;go_enter Tryz.func79,Tryz.ntmps79
 go_wp2_with fail
 (with_reducible refine Hi.out.mono ?_);rintro e w1 ⟨rfl,hg1⟩;have dK:=ae hg1;clear hg1
 go_wp2_with fail
 go_loopw [5] (fun sv wr=>aaO w n sv wr) (fun sv _=>6-(match sv with| .string s=>s.size|_=>0))
 case atStart=>exact ⟨0,by simp,.inl rfl,dK.out⟩
 case round=>
  obtain ⟨k,rfl,hk,hg⟩:=hrel;have Hg:=ae hg;clear hg;have hsz:(⟨(List.replicate k 48++Lib.decDigits n).toArray⟩:ByteArray).size=k+(Lib.decDigits n).length:=by simp [ByteArray.size]
  by_cases hlt:k+(Lib.decDigits n).length<6
  ·have e1:(k:Int)+((Lib.decDigits n).length:Int)<6:=by omega
   have e3:¬ 9223372036854775807<1+(k+(Lib.decDigits n).length):=by omega
   go_wp2;go_roundw
   case rel=>
    refine ⟨k+1,?_,.inr (by omega),Hg.out⟩;rw [show (⟨#[48]⟩:ByteArray)=⟨([48]:List UInt8).toArray⟩ from rfl,uR,List.replicate_succ];rfl
   case measure=>
    rw [show (⟨#[48]⟩:ByteArray)=⟨([48]:List UInt8).toArray⟩ from rfl,uR];simp only [ByteArray.size,List.size_toArray,List.length_append,List.length_replicate,List.length_cons,List.length_nil];omega
  ·have e1:¬ (k:Int)+((Lib.decDigits n).length:Int)<6:=by omega
   have Ik:decide ((k:Int)+((Lib.decDigits n).length:Int)<6)=false:=by simpa using e1
   have e2:¬ 9223372036854775807<name.length+1:=by omega
   have e3:¬ 9223372036854775807<name.length+1+(k+(Lib.decDigits n).length):=by omega
   have tG:k=6-(Lib.decDigits n).length:=by omega
   have SF:=ae tG;clear tG;go_wp2;go_ret;refine ⟨?_,Hg.out⟩;rw [show (⟨#[45]⟩:ByteArray)=⟨([45]:List UInt8).toArray⟩ from rfl,uR,uR,bp,kF,eB,←SF.out];simp
abbrev bU:List UInt8:= [119,97,108]
structure di (w:World) (lb p:Nat) (nm:List UInt8) (last:Int):Prop where
 self:w.heap[lb]?=some (.cells #[.pointer (some ⟨p,0,none⟩),.string ⟨nm.toArray⟩,.int .i64 last] 167 (0,0))
theorem di.cells {w:World} {lb p:Nat} {nm:List UInt8} {last:Int} (h:di w lb p nm last):w.cell? ⟨lb,0,none⟩=some (.pointer (some ⟨p,0,none⟩))∧w.cell? ⟨lb,1,none⟩=some (.string ⟨nm.toArray⟩)∧w.cell? ⟨lb,2,none⟩=some (.int .i64 last)∧lb<w.heap.size:=by
 refine ⟨?_,?_,?_,af h.self⟩<;>simp [World.cell?,h.self]
theorem di.grow {w w':World} {lb p:Nat} {nm:List UInt8} {last:Int} (h:di w lb p nm last) (hg:Grow w w'):di w' lb p nm last:=⟨hg.heap h.self⟩
theorem atW (w:World):Calls Tryz.prog 95 #[.string ⟨#[119,97,108]⟩] w fun e w'=>e= .returned (.bool true)∧w'=w:=by
 go_enter Tryz.func95,Tryz.ntmps95
 go_wp2_with fail
 refine wp_loop_rounds 4 ?_;rw [rounds_succ];go_wp2;rw [rounds_succ];go_wp2;rw [rounds_succ];go_wp2;rw [rounds_succ];go_wp2;go_ret;exact ⟨rfl,rfl⟩
theorem di.sep {Z B:Nat} {w w':World} {lb p p' r:Nat} {nm:List UInt8} {last:Int} {V:Vw} {F F':Nat→Prop} (hl:di w lb p nm last) (h:Dk Z B w p' r V F) (hs:Sep F w w' F'):di w' lb p nm last:=
 ⟨(hs.out lb (af hl.self) (h.apart hl.self (by decide) (by decide) (by decide))).trans hl.self⟩
theorem cI.dk {N Z B:Nat} {w w':World} {p r:Nat} {V:Vw} {F F':Nat→Prop} (h:cI N B w) (hd:Dk Z B w p r V F) (hs:Sep F w w' F'):cI N B w':=
 h.keep (fun b hb=>hs.out b (by have:=hd.base;omega) (fun hf=>by have:=(hd.foot hf).1;omega))
structure zL (nm:List UInt8):Prop where
 pos:1≤nm.length
 len:nm.length≤32
 ok:∀ c∈nm,yM c=true
theorem EM:zL bU:=⟨by decide,by decide,by decide⟩
theorem Ud {nm:List UInt8} (hm:zL nm) {n:Nat} (h:n<1000000):jC (bp nm n):=by
 have h1:=hm.pos;have h2:=hm.len;have hl:=wL h;refine IE (by simp [kF];omega) (by simp [kF,hl];omega) ?_;intro c hc;rcases List.mem_append.1 hc with hc|hc
 ·exact hm.ok c hc
 ·rcases List.mem_cons.1 hc with rfl|hc
  ·decide
  ·rcases List.mem_append.1 hc with hc|hc
   ·rw [(List.mem_replicate.1 hc).2];decide
   ·exact SD (ID n c hc)
theorem Co {nm:List UInt8} {m n:Nat} (h:bp nm m=bp nm n):m=n:=by
 have h1:kF nm m=kF nm n:=by
  have:=congrArg (fun b:ByteArray=>b.data.toList) h;simpa [bp] using this
 have h2:eB m=eB n:=by simpa [kF] using h1
 have h3:=BF m;rw [h2,BF n] at h3;cases h3;rfl
theorem atX (nm:List UInt8) (n:Nat) (w:World):Calls Tryz.prog 91 #[.string (bp nm n),.string ((⟨nm.toArray⟩:ByteArray)++⟨#[45]⟩)] w fun e w'=>e= .returned (.string ⟨(eB n).toArray⟩)∧w'=w:=by
 have h2:((⟨nm.toArray⟩:ByteArray)++⟨#[45]⟩).data.toList=nm++ [45]:=by rw [uR nm [45]]
 have h3:(bp nm n).data.toList=nm++45::eB n:=rfl;generalize bp nm n=s at*;generalize (⟨nm.toArray⟩:ByteArray)++⟨#[45]⟩=p at*;refine (aaS s p w).mono ?_;rintro e w' ⟨he,hw⟩;refine ⟨?_,hw⟩;have h4:nm++45::eB n=(nm++ [45])++eB n:=by simp
 have h5:Lib.trimPrefix ((nm++ [45])++eB n) (nm++ [45])=eB n:=by
  unfold Lib.trimPrefix Lib.hasPrefix;rw [if_pos (List.isPrefixOf_iff_prefix.2 (List.prefix_append _ _))];exact List.drop_left ..
 rw [he,h2,h3,h4,h5]
theorem atY {Z B:Nat} {w:World} {p r:Nat} {V:Vw} {F:Nat→Prop} (h:Dk Z B w p r V F) (kY:V.length<1000000000) (pf:ByteArray) {qb:Nat} (hq:w.heap[qb]?=some (.cells #[.string pf] 9 (0,0))):
  Calls Tryz.prog 33 #[.pointer (some ⟨p,0,none⟩),.slice (some ⟨qb,0,none⟩) 1 1] w (Sp w (((V.map (·.1)).filter fun s=>Lib.hasPrefix s.data.toList pf.data.toList).map fun s=>s.data.toList)):=by
 obtain ⟨hZ,h0,born,fs,h1,rfl,rfl⟩:=h;have:=aaE h1 (by simpa [vw] using kY) pf hq;have he:pick (fun s=>Lib.hasPrefix s.data.toList pf.data.toList) (fs.map Fe.az)=(((vw fs).map (·.1)).filter fun s=>Lib.hasPrefix s.data.toList pf.data.toList).map fun s=>s.data.toList:=by
  unfold pick;rw [SJ,List.filter_map,List.filter_map,List.map_map,List.map_map];rfl
 rw [he] at this;exact this
def lW (B:Nat) (w:World) (v:Value) (ns:List Nat):Prop:=Row1 3 B w v (ns.map fun n:Nat=>Value.int .i64 n)
theorem adw (B:Nat) (w:World):lW B w (.slice none 0 0) []:=mi _ _ _
theorem lW.slice {B:Nat} {w:World} {v:Value} {ns:List Nat} (h:lW B w v ns):∃ a c,v= .slice a ns.length c:=by
 obtain ⟨a,c,rfl⟩:=Row1.slice h;exact ⟨a,c,by simp⟩
theorem lW.grow {B:Nat} {w w':World} {v:Value} {ns:List Nat} (h:lW B w v ns) (hg:Grow w w'):lW B w' v ns:=Row1.grow h hg
theorem atZ {B:Nat} {w:World} {v:Value} {ns:List Nat} (n:Nat) (h:lW B w v ns) (hB:B≤w.heap.size) (hlen:ns.length+1≤1000000000000):
  ∃ v' w',(Builtin.append_ #[24,24] 24 #[v,.slice (some ⟨w.heap.size,0,none⟩) 1 1]).run Tryz.prog (w.alloc (.cells #[.int .i64 n] 3))= .ok v' w'∧lW B w' v' (ns++ [n])∧Below B w w':=by
 have ai:Grow w (w.alloc (.cells #[.int .i64 n] 3)):=Grow.alloc _ _;have uK:Src Tryz.prog 1 24 (.slice (some ⟨w.heap.size,0,none⟩) 1 1) 1 [.int .i64 n] (w.alloc (.cells #[.int .i64 n] 3)):=
  Src.ofSlice _ Tryz.underlying24 _ _ _ _ rfl (cell_one_new w _ _) (fun x hx=>by rw [cY.1 hx];rfl)
 obtain ⟨v',w',r1,r2,r3,r4⟩:=Bd (ty:=24) Tryz.underlying24 Tryz.Mu rfl (Row1.grow h ai) uK (by simp;omega) (by rw [List.length_map];unfold maxLen;omega) (by rw [List.length_map];omega);refine ⟨v',w',r1,?_,below_grown (ai.mono hB) (by simp;omega) (Row1.grow h ai) r3⟩;unfold lW;rw [List.map_append];exact r2
def Jt (nm:List UInt8) (V:Vw):List (List UInt8):=((((V.map (·.1)).filter fun s=>Lib.hasPrefix s.data.toList ((⟨nm.toArray⟩:ByteArray)++⟨#[45]⟩).data.toList).map fun s=>s.data.toList)).mergeSort (fun x y=>decide (x≤y))
def adx (w1:World) (ns:List Nat) (ov iv:Value) (wr:World):Prop:=
 ∃ i:Nat,iv= .int .i64 i∧i≤ns.length∧lW w1.heap.size wr ov (ns.take i)∧Below w1.heap.size w1 wr
theorem aua {N Z B:Nat} {w:World} {lb p r:Nat} {nm:List UInt8} (hm:zL nm) {last:Int} {V:Vw} {F:Nat→Prop} (hl:di w lb p nm last) (h:Dk Z B w p r V F) (hN:cI N B w) (kY:V.length<1000000000) {ns:List Nat} (iT:∀ n∈ns,n<N∧n<1000000) (Ck:Jt nm V=ns.map (kF nm)):
  Calls Tryz.prog 99 #[.pointer (some ⟨lb,0,none⟩)] w fun e w'=>∃ v,e= .returned v∧lW w.heap.size w' v ns∧Grow w w':=by
 obtain ⟨l0,l1,l2,ll⟩:=hl.cells;have hlen:¬ 9223372036854775807<nm.length+1:=by have:=hm.len;omega
 have H:=ae h;have HN:=ae hN;have Hl:=ae hl;clear hl h hN;go_enter Tryz.func99,Tryz.ntmps99
 go_wp2_with fail
 have aQ:=Grow.cells (w:=w);refine bX (fun W=>Below w.heap.size w W) [(0,false),(1,false),(2,false),(3,false),(4,false),(5,false),(6,false),(7,false),(8,false),(12,false),(9,true),(10,true),(11,false)] (by kernel_rfl) (by kernel_rfl) (fun c a d v w h=>by cases d<;>exact h) (Grow.drew _) ?_;simp only [aP,nth]
 repeat (first|(refine aB (v:= ?_) (by rfl) ?_ ?_;rotate_left;(rintro W hW;go_simp;with_reducible rfl);simp only [ag,List.set])|(refine aC (by rfl) ?_;simp only [ag,List.set]))
 refine fQ (by rfl) (fun K hK=> ?_);go_simp;refine hK _ _ ⟨(Grow.drew w).trans (Grow.alloc _ _),?_⟩;clear hK K
 try first|simp only [ag,List.set]|simp only [aD]
 have nr:=(Grow.drew w).trans (Grow.alloc w.drew (.cells #[.string ((⟨nm.toArray⟩:ByteArray)++⟨#[45]⟩)] 9));refine bj (by rfl) (by go_simp) (atY (H.out.grow nr) kY _ (aw _ _)) ?_;rintro e w1 ⟨nv,rfl,hrow,hg1⟩;have qM:=nr.trans hg1;refine ⟨_,rfl,qM,?_⟩;have iB:ns.length=(((V.map (·.1)).filter fun s=>Lib.hasPrefix s.data.toList ((⟨nm.toArray⟩:ByteArray)++⟨#[45]⟩).data.toList).map fun s=>s.data.toList).length:=by
  have:=congrArg List.length Ck;rw [List.length_map,Jt,List.length_mergeSort] at this;exact this.symm
 have aFf:ns.length<1000000000:=by
  rw [iB,List.length_map];have h9:=List.length_filter_le (fun s:ByteArray=>Lib.hasPrefix s.data.toList ((⟨nm.toArray⟩:ByteArray)++⟨#[45]⟩).data.toList) (V.map (·.1));rw [List.length_map] at h9;omega
 rw [←iB] at hrow;unfold Jt at Ck;rw [Ck] at hrow;clear iB Ck;rcases hrow.2 with ⟨rfl,gD⟩|⟨gN,cap,cur,rfl,iK,yV,BD,hcm,hcs,cC⟩
 ·have aub:ns= []:=jb gD
  subst aub;have Hg:=ae qM;clear nr hg1 hrow qM
  try first|simp only [ag,List.set]|simp only [aD]
  repeat (first|(refine aB (v:= ?_) (by rfl) ?_ ?_;rotate_left;(rintro W hW;go_simp;with_reducible rfl);simp only [ag,List.set])|(refine aC (by rfl) ?_;simp only [ag,List.set]))
  refine bm ?_
  go_wp2_with fail
  refine wp_loop_rounds 1 ?_;rw [rounds_succ];go_wp2;go_ret;exact ⟨_,rfl,adw _ _,Hg.out⟩
 ·have gG:∀ (i n:Nat),ns[i]?=some n→∀ W:World,W.heap[gN]?=some (.cells cur 9 (0,0))→W.cell? ⟨gN,i,none⟩=some (.string (bp nm n)):=fun i n hi W hW=>by
   have h2:((ns.map (kF nm)).map encStr)[i]?=some (.string (bp nm n)):=by simp [hi,encStr,bp]
   rw [←cC,Nat.mul_one,List.getElem?_take] at h2
   split at h2
   ·have h3:cur[i]?=some (.string (bp nm n)):=by simpa using h2
    simp [World.cell?,hW,h3]
   ·cases h2
  have Sz:=ae gG;have Hg:=ae qM;have HgN:=ae yV;have Eh:=ae iT;have Cp:=HN.out.grow qM H.out.base;have HN1:=ae Cp;have Hl1:=ae (Hl.out.grow qM);have zF:B≤w1.heap.size:=aN H.out.base qM.size;clear nr hg1 hrow qM yV BD hcm hcs cC iK gG iT Cp l0 l1 l2 ll
  try first|simp only [ag,List.set]|simp only [aD]
  repeat (first|(refine aB (v:= ?_) (by rfl) ?_ ?_;rotate_left;(rintro W hW;go_simp;with_reducible rfl);simp only [ag,List.set])|(refine aC (by rfl) ?_;simp only [ag,List.set]))
  refine bm ?_
  go_wp2_with fail
  go_loopw [3,20] (fun ov iv wr=>adx w1 ns ov iv wr) (fun _ iv _=>ns.length-(intOf iv).toNat)
  case atStart=>exact ⟨0,rfl,bk _,adw _ _,Below.refl _ _⟩
  case round=>
   obtain ⟨i,rfl,hi,hown,hb⟩:=hrel;by_cases hlt:i<ns.length
   ·obtain ⟨n,hn⟩:∃ n,ns[i]?=some n:=⟨ns[i],by simp [hlt]⟩
    have hrow:wr.heap[gN]?=some (.cells cur 9 (0,0)):=(hb.block gN (af HgN.out)).trans HgN.out;have yX:=Sz.out i n hn wr hrow;have lgN:=af hrow;obtain ⟨hnN,NI⟩:=Eh.out n (dY hn);have vq:di wr lb p nm last:=⟨(hb.block lb (af Hl1.out.self)).trans Hl1.out.self⟩
    obtain ⟨k0,k1,k2,kl⟩:=vq.cells;have xh:=HN1.out.keep (w':=wr) (fun b hb'=>hb.block b (by omega));have Ue:=ae xh;have eT:=ae hown;have Hb:=ae hb;have Hn:=ae hn;have dJ:(i:Int)<(ns.length:Int):=by omega
    have bK:(0:Int)≤(i:Int):=by omega
    have eE:IntKind.i64.wrap ((i:Int)+1)=(i:Int)+1:=aR _ (by omega);obtain ⟨oa,oc,sf⟩:=hown.slice;rw [List.length_take,Nat.min_eq_left hi] at sf;subst sf;clear xh hown hb hn hrow;have Ht:=ae (atX nm n);have Ha:=ae (aaR NI)
    go_wp2_with fail
    (with_reducible refine (Ht.out wr).mono ?_);rintro e w2 ⟨rfl,hw2⟩;have MI:=hw2.symm;subst MI;clear hw2
    go_wp2_with fail
    (with_reducible refine (Ha.out wr).mono ?_);rintro e w2 ⟨rfl,hg2⟩;have Ju:=vq.grow hg2;obtain ⟨j0,j1,j2,jl⟩:=Ju.cells;have hs:=xe (Ue.out.grow hg2 (aN zF Hb.out.size)) hnN NI (name:=nm) (by have:=hm.len;omega);have Hs:=ae hs;clear hs k0 k1 k2 kl vq Ju
    go_wp2_with fail
    (with_reducible refine Hs.out.mono ?_);rintro e w3 ⟨rfl,hg3⟩;have jV:=hg2.trans hg3;obtain ⟨v',w',r1,r2,r3⟩:=atZ n (eT.out.grow jV) (aN Hb.out.size jV.size) (by have:=List.length_take_le i ns;omega);have hrel:adx w1 ns v' (.int .i64 ((i:Int)+1)) w':=by
     refine ⟨i+1,by simp,hlt,?_,(Hb.out.trans (jV.mono Hb.out.size)).trans r3⟩;rw [List.take_add_one,Hn.out];exact r2
    have bq:=ae hrel;have dC:=ae r1;clear hrel r1 r2 r3 jV hg3 hg2 j0 j1 j2 jl
    go_wp2_with (at_builtin;refine fC rfl rfl rfl rfl dC.out ?_)
    go_roundw
    case rel=>exact bq.out
    case measure=>simp [intOf];omega
   ·have dJ:ns.length≤i:=by omega
    have NJ:i=ns.length:=by omega
    rw [NJ,List.take_length] at hown;have eT:=ae hown;have Hb:=ae hb;obtain ⟨oa,oc,rfl⟩:=hown.slice;clear hown hb NJ;go_wp2;go_ret;exact ⟨_,rfl,eT.out.mono Hg.out.size,Below.trans Hg.out (Hb.out.mono Hg.out.size)⟩
theorem Uf:∀ (x:List UInt8) (acc v:Nat),Lib.decFrom acc x=some v→acc*10^x.length≤v∧v<(acc+1)*10^x.length
 | [],acc,v,h=>by
  simp only [Lib.decFrom,Option.some.injEq] at h;subst h;simp
 |c::x,acc,v,h=>by
  simp only [Lib.decFrom] at h;cases hd:Lib.digitVal c with
  |none=>rw [hd] at h;cases h
  |some d=>
   rw [hd] at h;have fF:d<10:=by
    unfold Lib.digitVal at hd
    split at hd
    ·cases hd;omega
    ·cases hd
   obtain ⟨h1,h2⟩:=Uf x _ _ h;rw [List.length_cons,Nat.pow_succ];have h3:acc*(10^x.length*10)≤(acc*10+d)*10^x.length:=by
    rw [Nat.add_mul,Nat.mul_assoc,Nat.mul_comm (10^x.length) 10];omega
   have h4:(acc*10+d+1)*10^x.length≤(acc+1)*(10^x.length*10):=by
    rw [Nat.mul_comm (10^x.length) 10,←Nat.mul_assoc];exact Nat.mul_le_mul_right _ (by omega)
   omega
theorem dec_lt:∀ (x y:List UInt8) (acc u v:Nat),x.length=y.length→Lib.decFrom acc x=some u→Lib.decFrom acc y=some v→x<y→u<v
 | [],[],_,_,_,_,_,_,h=>absurd h (List.lt_irrefl _)
 | [],_::_,_,_,_,hl,_,_,_=>by cases hl
 |_::_,[],_,_,_,hl,_,_,_=>by cases hl
 |c::x,d::y,acc,u,v,hl,hu,hv,h=>by
  simp only [Lib.decFrom] at hu hv;cases hc:Lib.digitVal c with
  |none=>rw [hc] at hu;cases hu
  |some c'=>
   cases hd:Lib.digitVal d with
   |none=>rw [hd] at hv;cases hv
   |some d'=>
    rw [hc] at hu;rw [hd] at hv;have hl':x.length=y.length:=by simpa using hl
    rcases List.cons_lt_cons_iff.1 h with h1|⟨rfl,h1⟩
    ·have Cq:c'<d':=by
      have h2:c.toNat<d.toNat:=UInt8.lt_iff_toNat_lt.1 h1;unfold Lib.digitVal at hc hd
      split at hc
      ·split at hd
       ·cases hc;cases hd;omega
       ·cases hd
      ·cases hc
     obtain ⟨_,h2⟩:=Uf _ _ _ hu;obtain ⟨h3,_⟩:=Uf _ _ _ hv;rw [←hl'] at h3;have h4:(acc*10+c'+1)*10^x.length≤(acc*10+d')*10^x.length:=Nat.mul_le_mul_right _ (by omega);dsimp only at hu hv;omega
    ·rw [hc] at hd;cases hd
     exact dec_lt x y _ u v hl' hu hv h1
theorem aue {nm:List UInt8} {m n:Nat} (eY:m<n) (hn:n<1000000):kF nm m≤kF nm n:=by
 intro h;have h1:eB n<eB m:=by
  unfold kF at h
  induction nm with
  |nil=>
   rcases List.cons_lt_cons_iff.1 h with h|⟨_,h⟩
   ·exact absurd h (by decide)
   ·exact h
  |cons c nm ih=>
   rcases List.cons_lt_cons_iff.1 h with h|⟨_,h⟩
   ·exact absurd h (by rw [UInt8.lt_iff_toNat_lt];omega)
   ·exact ih h
 have:=dec_lt _ _ 0 n m (by rw [wL hn,wL (by omega)]) (BF n) (BF m) h1;omega
theorem auf {nm:List UInt8} {a k:Nat} (h:a+k≤1000000):((List.range' a k).map (kF nm)).mergeSort (fun x y=>decide (x≤y))=(List.range' a k).map (kF nm):=by
 apply List.mergeSort_of_pairwise;rw [List.pairwise_map];refine List.Pairwise.imp_of_mem ?_ (List.pairwise_lt_range' (s:=a) (n:=k) 1);intro x y hx hy gA;have:=(List.mem_range'_1.1 hy).2;exact decide_eq_true (aue gA (by omega))
theorem Ug (nm:List UInt8) (n:Nat):(bp nm n).data.toList=kF nm n:=by simp [bp]
def iX (B:Nat) (F:Nat→Prop) (w:World) (v:Value) (ps:List (List UInt8)):Prop:=
 ∃ vals,Row1 49 B w v vals∧vals.length=ps.length∧∀ (i:Nat) (u:Value) (p:List UInt8),vals[i]?=some u→ps[i]?=some p→aG B w u p∧∀ b,u.ownBlock=some b→¬ F b
theorem aug (B:Nat) (F:Nat→Prop) (w:World):iX B F w (.slice none 0 0) []:=⟨[],mi _ _ _,rfl,fun i u p h=>by simp at h⟩
theorem iX.own {B:Nat} {F:Nat→Prop} {w:World} {v:Value} {ps:List (List UInt8)} (h:iX B F w v ps):ko B w v ps:=by
 obtain ⟨vals,h1,h2,h3⟩:=h;exact ⟨vals,h1,h2,fun i u p hu hp=>(h3 i u p hu hp).1⟩
theorem ko.apart {B:Nat} {F:Nat→Prop} {w:World} {v:Value} {ps:List (List UInt8)} (h:ko B w v ps) (hF:∀ b,F b→b<B):iX B F w v ps:=by
 obtain ⟨vals,h1,h2,h3⟩:=h;exact ⟨vals,h1,h2,fun i u p hu hp=>⟨h3 i u p hu hp,fun b hb hf=>by have:=((h3 i u p hu hp).lt hb).1;have:=hF b hf;omega⟩⟩
theorem iX.grow {B:Nat} {F:Nat→Prop} {w w':World} {v:Value} {ps:List (List UInt8)} (h:iX B F w v ps) (hg:Grow w w'):iX B F w' v ps:=by
 obtain ⟨vals,h1,h2,h3⟩:=h;exact ⟨vals,h1.grow hg,h2,fun i u p hu hp=>⟨(h3 i u p hu hp).1.grow hg,(h3 i u p hu hp).2⟩⟩
theorem iX.sep {Z B B':Nat} {F F':Nat→Prop} {w w':World} {v:Value} {ps:List (List UInt8)} {p r:Nat} {V:Vw} (h:iX B F w v ps) (hd:Dk Z B' w p r V F) (hs:Sep F w w' F'):iX B F' w' v ps:=by
 obtain ⟨vals,h1,h2,h3⟩:=h;refine ⟨vals,h1.keep (fun g hg=> ?_),h2,fun i u q hu hq=> ?_⟩
 ·obtain ⟨cur,hb⟩:=h1.block hg
  exact hs.out g (af hb) (hd.apart hb (by decide) (by decide) (by decide))
 ·obtain ⟨h4,h5⟩:=h3 i u q hu hq
  exact ⟨h4.keep (fun b hb=>hs.out b (h4.lt hb).2 (h5 b hb)),fun b hb=>(hs.free (h4.lt hb).2 (h5 b hb)).2.2⟩
theorem iX.slice {B:Nat} {F:Nat→Prop} {w:World} {v:Value} {ps:List (List UInt8)} (h:iX B F w v ps):∃ a c,v= .slice a ps.length c:=h.own.slice
theorem Row1.src {B:Nat} {w:World} {v:Value} {xs:List Value} (h:Row1 49 B w v xs) (nj:∀ u∈xs,u.oneCell'=true):Src Tryz.prog 1 131 v xs.length xs w:=by
 rcases id h with ⟨rfl,rfl⟩|⟨g,cap,cur,rfl,hB,hg,hn,hc,hm,ht⟩
 ·exact Src.ofNil w Tryz.underlying131 0
 ·refine Src.ofSlice w Tryz.underlying131 ⟨g,0,none⟩ xs.length cap xs (by simp) (fun j u hu=> ?_) nj
  rw [Addr.add_lit,Nat.zero_add];exact h.cells rfl hu
theorem auh {B B':Nat} {F:Nat→Prop} {w:World} {v x:Value} {ps qs:List (List UInt8)} (h:iX B F w v ps) (hx:iX B' F w x qs) (hB:B≤w.heap.size) (EG:B≤B') (hlen:ps.length+qs.length≤1000000000000):
  ∃ v' w',(Builtin.append_ #[131,131] 131 #[v,x]).run Tryz.prog w= .ok v' w'∧iX B F w' v' (ps++qs)∧w.grownBy w' v.ownBlock∧(∀ g,v.ownBlock=some g→B≤g∧∃ cur,w.heap[g]?=some (.cells cur 49 (0,0))):=by
 obtain ⟨vals,h1,h2,h3⟩:=h;obtain ⟨news,k1,k2,k3⟩:=hx;have nj:∀ u∈news,u.oneCell'=true:=fun u hu=>by
  obtain ⟨i,hi,rfl⟩:=List.getElem_of_mem hu;exact (k3 i news[i] (qs[i]'(by omega)) (by simp [hi]) (by simp [show i<qs.length by omega])).1.aai
 obtain ⟨v',w',r1,r2,r3,r4⟩:=Bd (ty:=131) Tryz.underlying131 Tryz.wE rfl h1 (Row1.src k1 nj) hB (by rw [h2,k2];unfold maxLen;omega) (by rw [h2,k2];omega);have hne:∀ b u q C,aG C w u q→u.ownBlock=some b→w'.heap[b]?=w.heap[b]?:=fun b u q C hu hb=>by
  obtain ⟨cur,hc⟩:=hu.block hb;exact r3.block b (af hc) (fun he=>h1.apart hc (by decide) he.symm)
 refine ⟨v',w',r1,⟨vals++news,r2,by simp [h2,k2],fun i u q hu hq=> ?_⟩,r3,fun g hg=>⟨(h1.lt hg).1,h1.block hg⟩⟩;by_cases hi:i<vals.length
 ·rw [List.getElem?_append_left hi] at hu
  rw [List.getElem?_append_left (by omega)] at hq;obtain ⟨h4,h5⟩:=h3 i u q hu hq;exact ⟨h4.keep (fun b hb=>hne b u q _ h4 hb),h5⟩
 ·rw [List.getElem?_append_right (by omega)] at hu
  rw [List.getElem?_append_right (by omega)] at hq;rw [h2] at hu;obtain ⟨h4,h5⟩:=k3 _ u q hu hq;exact ⟨(h4.keep (fun b hb=>hne b u q _ h4 hb)).mono EG,h5⟩
theorem bM.keep {B:Nat} {w w':World} {p r:Nat} {size used born:Int} {fs:List Fe} (h:bM B w p r size used born fs) (hs:w.heap.size≤w'.heap.size) (hk:∀ b,cN p r fs b→w'.heap[b]?=w.heap[b]?):bM B w' p r size used born fs:=by
 obtain ⟨c,hm,hc⟩:=h.map;refine ⟨(hk p (.inl rfl)).trans h.self,⟨c,(hk r (.inr (.inl rfl))).trans hm,hc⟩,h.names,h.rD,h.rE,h.rows,fun f hf=>⟨(hk f.fb (.inr (.inr ⟨f,hf,.inl rfl⟩))).trans (h.files f hf).cell,(h.files f hf).row.keep (fun b hb=>hk b (.inr (.inr ⟨f,hf,.inr hb⟩))),(h.files f hf).base,(h.files f hf).sync⟩,h.base.1,h.base.2.1,aN h.base.2.2 hs⟩
theorem Dk.keep {Z B:Nat} {w w':World} {p r:Nat} {V:Vw} {F:Nat→Prop} (h:Dk Z B w p r V F) (hs:w.heap.size≤w'.heap.size) (hk:∀ b,F b→w'.heap[b]?=w.heap[b]?):Dk Z B w' p r V F:=by
 obtain ⟨hZ,h0,born,fs,h1,h2,rfl⟩:=h;exact ⟨hZ,h0,born,fs,h1.keep hs hk,h2,rfl⟩
theorem Dk.row {Z B:Nat} {w w':World} {p r:Nat} {V:Vw} {F:Nat→Prop} (h:Dk Z B w p r V F) {o:Option Nat} (hg:w.grownBy w' o) (ho:∀ g,o=some g→∃ t cur,w.heap[g]?=some (.cells cur t (0,0))∧t≠125∧t≠165∧t≠5):Dk Z B w' p r V F:=
 h.keep hg.size (fun b hb=>hg.block b (h.foot hb).2 (fun he=>by
  obtain ⟨t,cur,h1,h2,h3,h4⟩:=ho b he.symm;exact h.apart h1 h2 h3 h4 hb))
theorem Sep.row {F F':Nat→Prop} {w wr w':World} (h:Sep F w wr F') {o:Option Nat} (hg:wr.grownBy w' o) (ho:∀ g,o=some g→w.heap.size≤g):Sep F w w' F':=
 ⟨hg.os.trans h.os,hg.tape.trans h.tape,hg.output.trans h.output,aN h.size hg.size,fun b hb hn=>by
  rw [hg.block b (cj hb h.size) (fun he=>by have:=ho b he.symm;omega)];exact h.out b hb hn,h.foot⟩
theorem di.row {w w':World} {lb p:Nat} {nm:List UInt8} {last:Int} (h:di w lb p nm last) {o:Option Nat} (hg:w.grownBy w' o) (ho:∀ g,o=some g→∃ t cur,w.heap[g]?=some (.cells cur t (0,0))∧t≠167):di w' lb p nm last:=
 ⟨(hg.block lb (af h.self) (fun he=>by
  obtain ⟨t,cur,h1,h2⟩:=ho lb he.symm;rw [h.self] at h1;cases h1;exact h2 rfl)).trans h.self⟩
theorem di.set {w:World} {lb p:Nat} {nm:List UInt8} {last:Int} (h:di w lb p nm last) (n:Int):di (w.setCell ⟨lb,2,none⟩ (.int .i64 n)) lb p nm n:=⟨aI h.self 2 _⟩
theorem Sep.aui {F F':Nat→Prop} {w wr:World} (h:Sep F w wr F') {lb:Nat} (hb:w.heap.size≤lb) (j:Nat) (v:Value):Sep F w (wr.setCell ⟨lb,j,none⟩ v) F':=
 ⟨h.os,h.tape,h.output,by simpa using h.size,fun b hb' hn=>(aK _ _ _ _ (by show b≠lb;omega)).trans (h.out b hb' hn),fun b hb'=>by simpa using h.foot b hb'⟩
theorem Dk.zM {Z B:Nat} {w:World} {p r:Nat} {V:Vw} {F:Nat→Prop} (h:Dk Z B w p r V F) {lb p':Nat} {nm:List UInt8} {last:Int} (hl:di w lb p' nm last) (v:Value):Dk Z B (w.setCell ⟨lb,2,none⟩ v) p r V F:=
 h.keep (by simp) (fun b hb=>aK _ _ _ _ (fun e=>by
  have e':b=lb:=e;subst e';exact h.apart hl.self (by decide) (by decide) (by decide) hb))
theorem iX.zM {B:Nat} {F:Nat→Prop} {w:World} {v:Value} {ps:List (List UInt8)} (h:iX B F w v ps) {lb p':Nat} {nm:List UInt8} {last:Int} (hl:di w lb p' nm last) (u:Value):iX B F (w.setCell ⟨lb,2,none⟩ u) v ps:=by
 obtain ⟨vals,h1,h2,h3⟩:=h;refine ⟨vals,h1.keep (fun g hg=>aK _ _ _ _ (fun e=> ?_)),h2,fun i u' q hu hq=> ?_⟩
 ·obtain ⟨cur,hb⟩:=h1.block hg
  rw [e,hl.self] at hb;cases hb
 ·obtain ⟨h4,h5⟩:=h3 i u' q hu hq
  refine ⟨h4.keep (fun b hb=>aK _ _ _ _ (fun e=> ?_)),h5⟩;obtain ⟨cur,hc⟩:=h4.block hb;rw [e,hl.self] at hc;cases hc
theorem cI.zM {N B:Nat} {w:World} (h:cI N B w) {lb:Nat} (hb:B≤lb) (v:Value):cI N B (w.setCell ⟨lb,2,none⟩ v):=
 h.keep (fun b hb'=>aK _ _ _ _ (by show b≠lb;omega))
end Go.Proofs.YtoolkdapflaeeaaGreatDoor
namespace Go.Proofs.YtoolkdapflaeeaaGreatDoor
open Go.RowKit Go.Gl Go.aH Go.Sort
structure fG (f:Lk) (a:Nat) (L:List (List UInt8)):Prop where
 there:∀ (i:Nat) (q:List UInt8),L[i]?=some q→f (bp bU (a+i))=some (q,q.length)
 only:∀ n,Lib.hasPrefix n.data.toList ((⟨bU.toArray⟩:ByteArray)++⟨#[45]⟩).data.toList=true→(f n).isSome=true→∃ i,i<L.length∧n=bp bU (a+i)
theorem NK (n:Nat):Lib.hasPrefix (bp bU n).data.toList ((⟨bU.toArray⟩:ByteArray)++⟨#[45]⟩).data.toList=true:=by
 rw [Ug,show (⟨#[45]⟩:ByteArray)=⟨([45]:List UInt8).toArray⟩ from rfl,uR];unfold Lib.hasPrefix kF;rw [List.isPrefixOf_iff_prefix];exact ⟨eB n,by simp⟩
theorem fG.some {f:Lk} {a:Nat} {L:List (List UInt8)} (h:fG f a L) {i:Nat} (hi:i<L.length):f (bp bU (a+i))=some (L[i],L[i].length):=h.there i _ (List.getElem?_eq_getElem hi)
theorem fG.none {f:Lk} {a:Nat} {L:List (List UInt8)} (h:fG f a L) {n:Nat} (hn:n<a∨a+L.length≤n):f (bp bU n)=none:=by
 cases hf:f (bp bU n) with
 |none=>rfl
 |some q=>
  exfalso;obtain ⟨i,hi,he⟩:=h.only _ (NK n) (by rw [hf];rfl);have:=Co he;omega
theorem auj {nm:List UInt8} {m n:Nat} (h:kF nm m=kF nm n):m=n:=Co (nm:=nm) (by unfold bp;rw [h])
theorem Uh (n:ByteArray):∀ V:Vw,(cH n V).isSome=true↔n∈V.map (·.1)
 | []=>by simp [cH]
 |e::V=>by
  rw [eF,List.map_cons,List.mem_cons];by_cases h:n=e.1
  ·simp [h]
  ·rw [if_neg h,Uh n V];simp [h]
theorem data_inj {x y:ByteArray} (h:x.data.toList=y.data.toList):x=y:=by
 apply ByteArray.ext;exact Array.toList_inj.1 h
theorem fG.names {V:Vw} (hV:lK V) {a:Nat} {L:List (List UInt8)} (h:fG (fM V) a L) (h6:a+L.length≤1000000):Jt bU V=(List.range' a L.length).map (kF bU):=by
 rw [←auf h6];unfold Jt;have hp:(((V.map (·.1)).filter fun s=>Lib.hasPrefix s.data.toList ((⟨bU.toArray⟩:ByteArray)++⟨#[45]⟩).data.toList).map fun s=>s.data.toList).Perm ((List.range' a L.length).map (kF bU)):=by
  refine (List.perm_ext_iff_of_nodup ?_ ?_).2 (fun x=> ?_)
  ·exact List.Pairwise.map _ (fun x y gA he=>gA (data_inj he)) (List.Pairwise.filter _ hV)
  ·exact List.Pairwise.map _ (fun x y gA he=>gA (auj he)) (List.nodup_range' (s:=a) (n:=L.length))
  ·rw [List.mem_map,List.mem_map]
   constructor
   ·rintro ⟨s,hs,rfl⟩
    rw [List.mem_filter] at hs;obtain ⟨i,hi,rfl⟩:=h.only s hs.2 ((Uh s V).2 hs.1);exact ⟨a+i,List.mem_range'_1.2 ⟨by omega,by omega⟩,(Ug bU _).symm⟩
   ·rintro ⟨n,hn,rfl⟩
    have hn:=List.mem_range'_1.1 hn;refine ⟨bp bU n,List.mem_filter.2 ⟨(Uh _ V).1 ?_,NK n⟩,Ug bU n⟩;have:=h.some (i:=n-a) (by omega);rw [show a+(n-a)=n by omega] at this;show (fM V (bp bU n)).isSome=true;rw [this];rfl
 refine List.Perm.eq_of_pairwise (le:=fun x y=>x≤y) ?_ ?_ ?_ ((List.mergeSort_perm _ _).trans (hp.trans (List.mergeSort_perm _ _).symm))
 ·intro x y _ _ gA yQ;exact List.le_antisymm gA yQ
 ·refine (List.pairwise_mergeSort (le:=fun x y:List UInt8=>decide (x≤y)) (fun x y z gA Jv=>by simp at gA Jv ⊢;exact List.le_trans gA Jv) (fun x y=>by simp;exact List.le_total x y) _).imp (by intro x y gA;simpa using gA)
 ·refine (List.pairwise_mergeSort (le:=fun x y:List UInt8=>decide (x≤y)) (fun x y z gA Jv=>by simp at gA Jv ⊢;exact List.le_trans gA Jv) (fun x y=>by simp;exact List.le_total x y) _).imp (by intro x y gA;simpa using gA)
variable {N Z B:Nat} {w w':World} {p r:Nat} {f:Lk} {T K:Nat} {F F':Nat→Prop}
theorem di.dl {lb p':Nat} {nm:List UInt8} {last:Int} (hl:di w lb p' nm last) (h:Dl Z B w p r f T K F) (hs:Sep F w w' F'):di w' lb p' nm last:=by
 obtain ⟨V,h1,_⟩:=h;exact hl.sep h1 hs
theorem cI.dl (h:cI N B w) (hd:Dl Z B w p r f T K F) (hs:Sep F w w' F'):cI N B w':=by
 obtain ⟨V,h1,_⟩:=hd;exact h.dk h1 hs
theorem iX.dl {C:Nat} {v:Value} {ps:List (List UInt8)} (h:iX C F w v ps) (hd:Dl Z B w p r f T K F) (hs:Sep F w w' F'):iX C F' w' v ps:=by
 obtain ⟨V,h1,_⟩:=hd;exact h.sep h1 hs
theorem Dl.row (h:Dl Z B w p r f T K F) {o:Option Nat} (hg:w.grownBy w' o) (ho:∀ g,o=some g→∃ t cur,w.heap[g]?=some (.cells cur t (0,0))∧t≠125∧t≠165∧t≠5):Dl Z B w' p r f T K F:=by
 obtain ⟨V,h1,h2⟩:=h;exact ⟨V,h1.row hg ho,h2⟩
theorem Dl.zM (h:Dl Z B w p r f T K F) {lb p':Nat} {nm:List UInt8} {last:Int} (hl:di w lb p' nm last) (v:Value):Dl Z B (w.setCell ⟨lb,2,none⟩ v) p r f T K F:=by
 obtain ⟨V,h1,h2⟩:=h;exact ⟨V,h1.zM hl v,h2⟩
theorem adA {lb:Nat} {last:Int} (hl:di w lb p bU last) (h:Dl Z B w p r f T K F) (hN:cI N B w) (hK:K<1000000000) {a:Nat} {L:List (List UInt8)} (hf:fG f a L) (Ui:a+L.length≤N) (h6:a+L.length≤1000000):
  Calls Tryz.prog 99 #[.pointer (some ⟨lb,0,none⟩)] w fun e w'=>∃ v,e= .returned v∧lW w.heap.size w' v (List.range' a L.length)∧Grow w w':=by
 obtain ⟨V,h1,rfl,h3,h4⟩:=h;exact aua EM hl h1 hN (by omega) (fun n hn=>by have:=List.mem_range'_1.1 hn;omega) (hf.names h1.names h6)
theorem Uj (h:Dl Z B w p r f T K F) {n:ByteArray} (hn:jC n) {qb:Nat} {pv:Value} {x:List UInt8} (hq:w.heap[qb]?=some (.cells #[pv] 49 (0,0))) (hx:Bv w pv x) (ic:x.length≤1000000000000):
  Calls Tryz.prog 78 #[.pointer (some ⟨p,0,none⟩),.string n,.slice (some ⟨qb,0,none⟩) 1 1] w fun e w'=>∃ (c:Nat) (f':Lk) (T':Nat),e= .returned (.int .i64 c)∧(c=0∧T+x.length≤Z∧f'=f.add n x∧T'=T+x.length∨c=5∧Z<T+x.length∧f'=f∧T'=T)∧mZ Z B w p r F w' f' T' (K+1):=by
 by_cases hr:T+x.length≤Z
 ·refine (abg h hn hq hx hr).mono ?_
  rintro e w2 ⟨he,hd⟩;exact ⟨0,_,_,he,.inl ⟨rfl,hr,rfl,rfl⟩,hd⟩
 ·refine (abh h hn hq hx ic (by omega)).mono ?_
  rintro e w2 ⟨he,hg⟩;exact ⟨5,_,_,he,.inr ⟨rfl,by omega,rfl,rfl⟩,F,(h.grow hg).more (by omega),Sep.bF hg⟩
end Go.Proofs.YtoolkdapflaeeaaGreatDoor
namespace Go.Proofs.YtoolkdapflaeeaaGreatDoor
open Go.RowKit Go.Gl Go.aH Go.Sort
theorem auk {N B:Nat} {w:World} {lb p r:Nat} {nm:List UInt8} {last size used born:Int} {fs:List Fe} (hl:di w lb p nm last) (gG:nm.length≤32) (h:bM B w p r size used born fs) (hN:cI N B w) (hb:∀ f∈fs,f.b.length≤140737488355328) {n:Nat} (hn:n<N) (h6:n<1000000):
  Calls Tryz.prog 96 #[.pointer (some ⟨lb,0,none⟩),.int .i64 n] w fun e w'=>e= .returned (.bool (fileOf (bp nm n) fs).isSome)∧Grow w w':=by
 obtain ⟨l0,l1,l2,ll⟩:=hl.cells;have Hs:=ae (fun (w1:World) (hg:Grow w w1)=>xe (hN.grow hg h.base.2.2) hn h6 (name:=nm) (by omega));have Hr:=ae (fun (w1:World) (hg:Grow w w1)=>aan (h.grow hg) (bp nm n) hb);clear hl h hN hb;have aQ:=Grow.cells (w:=w);go_enter Tryz.func96,Tryz.ntmps96
 go_wp2_with fail
 refine bX (fun W=>Below w.heap.size w W) [(0,false),(1,false),(2,false),(3,false),(4,false),(5,false),(6,false),(7,false),(8,false),(9,true),(10,true),(11,false),(12,false),(13,false),(14,false),(15,false)] (by kernel_rfl) (by kernel_rfl) (fun c a d v w h=>by cases d<;>exact h) (Grow.drew _) ?_;simp only [aP,nth]
 repeat (first|(refine aB (v:= ?_) (by rfl) ?_ ?_;rotate_left;(rintro W hW;go_simp;with_reducible rfl);simp only [ag,List.set])|(refine aC (by rfl) ?_;simp only [ag,List.set]))
 refine bj (by rfl) (by go_simp) (Hs.out w.drew (Grow.drew _)) ?_;rintro e w1 ⟨rfl,hg1⟩;have qM:=(Grow.drew w).trans hg1;refine ⟨_,rfl,qM,?_⟩
 try first|simp only [ag,List.set]|simp only [aD]
 refine bj (by rfl) (by go_simp) (Hr.out w1 qM) ?_;rintro e w2 ⟨hm,hg2⟩;have Jw:=qM.trans hg2;have eD:=ae Jw;clear qM hg2 hg1;cases hf:fileOf (bp nm n) fs with
 |none=>
  rw [hf] at hm;obtain rfl:=hm;refine ⟨_,rfl,Jw,?_⟩;clear Jw
  try first|simp only [ag,List.set]|simp only [aD]
  repeat (first|(refine aB (v:= ?_) (by rfl) ?_ ?_;rotate_left;(rintro W hW;go_simp;with_reducible rfl);simp only [ag,List.set])|(refine aC (by rfl) ?_;simp only [ag,List.set]))
  refine bm ?_;go_wp2;go_ret;exact ⟨by rw [hf];rfl,eD.out⟩
 |some f=>
  rw [hf] at hm;obtain ⟨v,rfl,hv⟩:=hm;refine ⟨_,rfl,Jw,?_⟩;clear Jw hv
  try first|simp only [ag,List.set]|simp only [aD]
  repeat (first|(refine aB (v:= ?_) (by rfl) ?_ ?_;rotate_left;(rintro W hW;go_simp;with_reducible rfl);simp only [ag,List.set])|(refine aC (by rfl) ?_;simp only [ag,List.set]))
  refine bm ?_;go_wp2;go_ret;exact ⟨by rw [hf];rfl,eD.out⟩
theorem adB {N Z B:Nat} {w:World} {lb p r:Nat} {nm:List UInt8} {last:Int} {f:Lk} {T K:Nat} {F:Nat→Prop} (hl:di w lb p nm last) (gG:nm.length≤32) (h:Dl Z B w p r f T K F) (hN:cI N B w) {n:Nat} (hn:n<N) (h6:n<1000000):
  Calls Tryz.prog 96 #[.pointer (some ⟨lb,0,none⟩),.int .i64 n] w fun e w'=>e= .returned (.bool (f (bp nm n)).isSome)∧Grow w w':=by
 obtain ⟨V,⟨hZ,h0,born,fs,h1,rfl,rfl⟩,rfl,h3,h4⟩:=h;refine (auk hl gG h1 hN (fun f hf=>by have:=El hf h0;omega) hn h6).mono ?_;rintro e w2 ⟨rfl,hg⟩;refine ⟨?_,hg⟩;unfold fM;rw [uP];cases fileOf (bp nm n) fs<;>rfl
theorem adC {Z B:Nat} {w:World} {p r:Nat} {f:Lk} {T K:Nat} {F:Nat→Prop} (h:Dl Z B w p r f T K F) {n:ByteArray} (hn:jC n) (hl:f n=none):
  Calls Tryz.prog 78 #[.pointer (some ⟨p,0,none⟩),.string n,.slice none 0 0] w fun e w'=>e= .returned (.int .i64 0)∧mZ Z B w p r F w' (f.set n ([],0)) T (K+1):=by
 obtain ⟨V,h1,rfl,rfl,h4⟩:=h;refine (aqd h1 hn hl).mono ?_;rintro e w2 ⟨he,F',hd,hs⟩;refine ⟨he,F',⟨_,hd,?_,by simp [cG],by simp;omega⟩,hs⟩
 funext m
 unfold fM Lk.set;by_cases h1:m=n
 ·subst h1;rw [if_pos rfl,SH hl]
 ·rw [if_neg h1,SI h1]
def Jy (Z B:Nat) (w:World) (p r:Nat) (nm:List UInt8) (lb m:Nat) (F:Nat→Prop) (w':World) (f':Lk) (T' K':Nat):Prop:=∃ F',Dl Z B w' p r f' T' K' F'∧di w' lb p nm (m:Int)∧Sep F w w' F'
variable {N Z B:Nat} {w:World} {p r lb m:Nat} {nm:List UInt8} {f:Lk} {T K:Nat} {F:Nat→Prop}
theorem aul (hm:zL nm) (hN:cI N B w) (hd:Dl Z B w p r f T K F) (hl:di w lb p nm (m:Int)) (Jz:m<N) (h6:m<1000000) {v:Value} {ps:List (List UInt8)} (hr:Rv w v ps) (eh:∀ p∈ps,p.length≤67108864) (mQ:(bP aq ps).length≤1000000000000) (hpl:ps.length≤1000000000000):
  Calls Tryz.prog 40 #[.pointer (some ⟨lb,0,none⟩),v] w fun e w'=>∃ (c:Nat) (f':Lk) (T':Nat),e= .returned (.int .i64 c)∧(c=0∧T+(bP aq ps).length≤Z∧f'=f.add (bp nm m) (bP aq ps)∧T'=T+(bP aq ps).length∨c=5∧Z<T+(bP aq ps).length∧f'=f∧T'=T)∧Jy Z B w p r nm lb m F w' f' T' (K+1):=by
 have eu:=fun (W:World) (hg:Grow w W)=>aoc (hr.grow hg) eh mQ hpl
 obtain ⟨va,vc,rfl,hr⟩:=hr;have H:=ae hr;have Hd:=ae hd;have Hl:=ae hl;have HN:=ae hN;have oX:=ae eu;have xi:=ae eh;clear hr hd hl hN eu eh;go_enter Tryz.func40,Tryz.ntmps40
 go_wp2_with fail
 go_loopw [9] (fun iv wr=>∃ i:Nat,iv= .int .i64 i∧i≤ps.length∧wr=w) (fun iv _=>ps.length-(intOf iv).toNat)
 case atStart=>exact ⟨0,rfl,bk _,rfl⟩
 case round=>
  obtain ⟨i,rfl,hi,hw⟩:=hrel;subst hw;by_cases hlt:i<ps.length
  ·obtain ⟨p',hp⟩:∃ p,ps[i]?=some p:=⟨ps[i],by simp [hlt]⟩
   obtain ⟨b,o,rfl,lb',hc⟩:∃ b o,va=some ⟨b,o,none⟩∧b<wr.heap.size∧∀ (j:Nat) (p:List UInt8),ps[j]?=some p→∃ pv,wr.cell? ⟨b,o+j,none⟩=some pv∧Bv wr pv p:=by
    rcases H.out with h1|h1
    ·rw [h1] at hlt;simp at hlt
    ·exact h1
   obtain ⟨pv,c1,bg⟩:=hc i p' hp;have ql:=xi.out p' (dY hp);have aFg:(p'.length:Int)≤67108864:=by omega
   have dJ:(i:Int)<(ps.length:Int):=by omega
   have bK:(0:Int)≤(i:Int):=by omega
   have eE:IntKind.i64.wrap ((i:Int)+1)=(i:Int)+1:=aR _ (by omega);obtain ⟨pa,pc,rfl⟩:=bg.slice;clear hc hp bg
   go_wp2_with fail
   go_roundw
   case rel=>exact ⟨i+1,by simp,hlt,(by trivial)⟩
   case measure=>simp [intOf];omega
  ·obtain rfl:i=ps.length:=by omega
   go_wp2_with fail
   refine bX (fun W=>W.cell? ⟨lb,0,none⟩=some (.pointer (some ⟨p,0,none⟩))∧W.cell? ⟨lb,1,none⟩=some (.string ⟨nm.toArray⟩)∧W.cell? ⟨lb,2,none⟩=some (.int .i64 (m:Int))∧lb<W.heap.size) [(0,false),(1,false),(2,false),(3,false),(4,false),(5,false),(6,false),(7,false),(8,false),(9,false),(10,false),(11,false),(13,false),(12,true),(14,true),(15,true),(16,true),(17,false)] (by kernel_rfl) (by kernel_rfl) (fun c a d v w h=>by cases d<;>exact h) (Hl.out.grow (Grow.drew wr)).cells ?_;simp only [aP,nth]
   repeat (first|(refine aB (v:= ?_) (by rfl) ?_ ?_;rotate_left;(rintro W ⟨hW0,hW1,hW2,hW3⟩;go_simp;with_reducible rfl);simp only [ag,List.set])|(refine aC (by rfl) ?_;simp only [ag,List.set]))
   have gX:=Grow.drew wr;refine bj (by rfl) (by go_simp) (xe (HN.out.grow gX Hd.out.base) (n:=m) Jz h6 (name:=nm) (by have:=hm.len;omega)) ?_;rintro e w7 ⟨rfl,cF⟩;have iD:=gX.trans cF;refine ⟨_,rfl,(Hl.out.grow iD).cells,?_⟩
   try first|simp only [ag,List.set]|simp only [aD]
   refine bj (by rfl) (by go_simp) (oX.out w7 iD) ?_;rintro e w8 ⟨fv,rfl,hfv,cx⟩;have Uk:=iD.trans cx;refine ⟨_,rfl,(Hl.out.grow Uk).cells,?_⟩;have qu:=cy hfv;obtain ⟨fa,fc,rfl⟩:=qu.slice
   try first|simp only [ag,List.set]|simp only [aD]
   have nr:=Grow.alloc w8 (.cells #[.slice fa (bP aq ps).length fc] 49);have qN:=Uk.trans nr;refine fQ (by rfl) (fun K hK=> ?_);go_simp;refine hK _ _ ⟨(Hl.out.grow qN).cells,?_⟩;clear hK K
   try first|simp only [ag,List.set]|simp only [aD]
   refine bj (by rfl) (by go_simp) (Uj (Hd.out.grow qN) (Ud hm h6) (aw _ _) (qu.grow nr) mQ) ?_;rintro e w9 ⟨c9,f9,T9,rfl,hc9,F9,fF,iY⟩;have tP:=(Hl.out.grow qN).dl (Hd.out.grow qN) iY;have bG:Hid (Jy Z B wr p r nm lb m F w9 f9 T9 (K+1)):=ae ⟨F9,fF,tP,(Sep.bF qN).trans iY⟩;have Hc9:=ae hc9;refine ⟨_,rfl,tP.cells,?_⟩;clear hc9 fF iY tP qN nr qu hfv Uk cx iD cF gX
   try first|simp only [ag,List.set]|simp only [aD]
   repeat (first|(refine aB (v:= ?_) (by rfl) ?_ ?_;rotate_left;(rintro W ⟨hW0,hW1,hW2,hW3⟩;go_simp;with_reducible rfl);simp only [ag,List.set])|(refine aC (by rfl) ?_;simp only [ag,List.set]))
   refine bm ?_;go_wp2;go_ret;exact ⟨c9,f9,T9,rfl,Hc9.out,bG.out⟩
theorem adF (hm:zL nm) (hN:cI N B w) (hd:Dl Z B w p r f T K F) (hl:di w lb p nm (m:Int)) (Jz:m<N) (h6:m<1000000) {b:List UInt8} {s:Nat} (hlk:f (bp nm m)=some (b,s)):
  Calls Tryz.prog 42 #[.pointer (some ⟨lb,0,none⟩)] w fun e w'=>e= .returned (.int .i64 0)∧Jy Z B w p r nm lb m F w' (f.set (bp nm m) (b,b.length)) T K:=by
 have Hd:=ae hd;have Hl:=ae hl;have HN:=ae hN;have Hk:=ae hlk;clear hd hl hN hlk;go_enter Tryz.func42,Tryz.ntmps42
 go_wp2_with fail
 refine bX (fun W=>W.cell? ⟨lb,0,none⟩=some (.pointer (some ⟨p,0,none⟩))∧W.cell? ⟨lb,1,none⟩=some (.string ⟨nm.toArray⟩)∧W.cell? ⟨lb,2,none⟩=some (.int .i64 (m:Int))∧lb<W.heap.size) [(0,false),(1,false),(2,false),(3,false),(4,false),(5,false),(6,false),(7,false),(8,false),(9,false),(10,false),(11,false),(12,true),(13,true),(14,true),(15,false)] (by kernel_rfl) (by kernel_rfl) (fun c a d v w h=>by cases d<;>exact h) (Hl.out.grow (Grow.drew w)).cells ?_;simp only [aP,nth]
 repeat (first|(refine aB (v:= ?_) (by rfl) ?_ ?_;rotate_left;(rintro W ⟨hW0,hW1,hW2,hW3⟩;go_simp;with_reducible rfl);simp only [ag,List.set])|(refine aC (by rfl) ?_;simp only [ag,List.set]))
 have gX:=Grow.drew w;refine bj (by rfl) (by go_simp) (xe (HN.out.grow gX Hd.out.base) (n:=m) Jz h6 (name:=nm) (by have:=hm.len;omega)) ?_;rintro e w7 ⟨rfl,cF⟩;have iD:=gX.trans cF;refine ⟨_,rfl,(Hl.out.grow iD).cells,?_⟩
 try first|simp only [ag,List.set]|simp only [aD]
 have qN:=iD.trans (Grow.alloc w7 (.cells #[.string (bp nm m)] 9));refine fQ (by rfl) (fun K hK=> ?_);go_simp;refine hK _ _ ⟨(Hl.out.grow qN).cells,?_⟩;clear hK K
 try first|simp only [ag,List.set]|simp only [aD]
 refine bj (by rfl) (by go_simp) (IJ (Hd.out.grow qN) Hk.out (aw _ _)) ?_;rintro e w9 ⟨rfl,F9,fF,iY⟩;have tP:=(Hl.out.grow qN).dl (Hd.out.grow qN) iY;have bG:Hid (Jy Z B w p r nm lb m F w9 (f.set (bp nm m) (b,b.length)) T K):=ae ⟨F9,fF,tP,(Sep.bF qN).trans iY⟩;refine ⟨_,rfl,tP.cells,?_⟩;clear fF iY tP qN iD cF gX
 try first|simp only [ag,List.set]|simp only [aD]
 repeat (first|(refine aB (v:= ?_) (by rfl) ?_ ?_;rotate_left;(rintro W ⟨hW0,hW1,hW2,hW3⟩;go_simp;with_reducible rfl);simp only [ag,List.set])|(refine aC (by rfl) ?_;simp only [ag,List.set]))
 refine bm ?_;go_wp2;go_ret;exact ⟨rfl,bG.out⟩
theorem Ul {last:Int} (hl:di w lb p nm last):Calls Tryz.prog 77 #[.pointer (some ⟨lb,0,none⟩)] w fun e w'=>e= .returned (.int .i64 last)∧w'=w:=by
 obtain ⟨l0,l1,l2,ll⟩:=hl.cells;clear hl;go_enter Tryz.func77,Tryz.ntmps77;go_wp2;go_ret;exact ⟨rfl,rfl⟩
end Go.Proofs.YtoolkdapflaeeaaGreatDoor
namespace Go.Proofs.YtoolkdapflaeeaaGreatDoor
open Go.RowKit Go.Gl Go.aH Go.Sort
def lD (P:List (List UInt8)):List (List UInt8):=(P.map fun q=>(kj aq q).1).flatten
theorem adG (P:List (List UInt8)) (q:List UInt8):lD (P++ [q])=lD P++(kj aq q).1:=by simp [lD]
structure jW (Z B:Nat) (w:World) (p r:Nat) (nm:List UInt8) (F:Nat→Prop) (lb:Nat) (f:Lk) (T K:Nat) (last:Int) (ps:List (List UInt8)) (F':Nat→Prop) (ov:Value) (wr:World):Prop where
 aW:Dl Z B wr p r f T K F'
 sep:Sep F w wr F'
 log:di wr lb p nm last
 rows:iX w.heap.size F' wr ov ps
variable {N Z B:Nat} {w wr w':World} {p r a lb:Nat} {nm:List UInt8} {f f':Lk} {T K T' K':Nat} {F F' uL:Nat→Prop} {last:Int} {ps qs:List (List UInt8)} {ov:Value} {L:List (List UInt8)}
theorem jW.grow (h:jW Z B w p r nm F lb f T K last ps F' ov wr) (hg:Grow wr w'):jW Z B w p r nm F lb f T K last ps F' ov w':=
 ⟨h.aW.grow hg,h.sep.trans (Sep.bF hg),h.log.grow hg,h.rows.grow hg⟩
theorem jW.dl (h:jW Z B w p r nm F lb f T K last ps F' ov wr) (hd:Dl Z B w' p r f' T' K' uL) (hs:Sep F' wr w' uL):jW Z B w p r nm F lb f' T' K' last ps uL ov w':=
 ⟨hd,h.sep.trans hs,h.log.dl h.aW hs,h.rows.dl h.aW hs⟩
theorem jW.set (h:jW Z B w p r nm F lb f T K last ps F' ov wr) (hb:w.heap.size≤lb) (n:Int):jW Z B w p r nm F lb f T K n ps F' ov (wr.setCell ⟨lb,2,none⟩ (.int .i64 n)):=
 ⟨h.aW.zM h.log _,h.sep.aui hb _ _,h.log.set n,h.rows.zM h.log _⟩
theorem jW.append {x:Value} {B':Nat} (h:jW Z B w p r nm F lb f T K last ps F' ov wr) (hx:ko B' wr x qs) (hB:wr.heap.size≤B'∨(w.heap.size≤B'∧∀ b,F' b→b<B')) (hlen:ps.length+qs.length≤1000000000000):
  ∃ v' w',(Builtin.append_ #[131,131] 131 #[ov,x]).run Tryz.prog wr= .ok v' w'∧jW Z B w p r nm F lb f T K last (ps++qs) F' v' w':=by
 have hsz:=h.sep.size;have hap:iX B' F' wr x qs:=hx.apart (fun b hb=>by
  rcases hB with hB|hB
  ·have:=(h.aW.foot hb).2;omega
  ·exact hB.2 b hb)
 have EG:w.heap.size≤B':=by rcases hB with hB|hB<;>omega
 obtain ⟨v',w',h1,h2,h3,h4⟩:=auh h.rows hap hsz EG hlen;refine ⟨v',w',h1,⟨h.aW.row h3 (fun g hg=> ?_),h.sep.row h3 (fun g hg=>(h4 g hg).1),h.log.row h3 (fun g hg=> ?_),h2⟩⟩
 ·obtain ⟨_,cur,hc⟩:=h4 g hg;exact ⟨_,cur,hc,by decide,by decide,by decide⟩
 ·obtain ⟨_,cur,hc⟩:=h4 g hg;exact ⟨_,cur,hc,by decide⟩
theorem jW.gV (h:jW Z B w p r nm F lb f T K last ps F' ov wr) (hN:cI N B w) {f0:Lk} {T0 K0:Nat} (h0:Dl Z B w p r f0 T0 K0 F):cI N B wr:=hN.dl h0 h.sep
theorem jW.cells (h:jW Z B w p r nm F lb f T K last ps F' ov wr):wr.cell? ⟨lb,0,none⟩=some (.pointer (some ⟨p,0,none⟩))∧lb<wr.heap.size:=⟨h.log.cells.1,h.log.cells.2.2.2⟩
def O1 (Z B:Nat) (w:World) (p r a:Nat) (nm:List UInt8) (F:Nat→Prop) (lb:Nat) (f:Lk) (T K:Nat) (L:List (List UInt8)) (ov nv:Value) (wr:World):Prop:=
 ∃ (n:Nat) (P R:List (List UInt8)) (F':Nat→Prop),nv= .int .i64 (n:Int)∧n=a+P.length∧L=P++R∧jW Z B w p r nm F lb f T K ((a+(P.length-1):Nat):Int) (lD P) F' ov wr
def O2 (Z B:Nat) (w:World) (p r a:Nat) (nm:List UInt8) (F:Nat→Prop) (lb:Nat) (f:Lk) (T K:Nat) (L:List (List UInt8)) (ov:Value) (wr:World):Prop:=
 ∃ F':Nat→Prop,jW Z B w p r nm F lb f T K ((a+(L.length-1):Nat):Int) (lD L) F' ov wr
def oB (nm:List UInt8) (a:Nat) (f:Lk) (L:List (List UInt8)):Lk:=if L= [] then f.set (bp nm a) ([],0) else f
def mD (L:List (List UInt8)):List (List UInt8):=if L= [] then [[]] else L
theorem Um {f:Lk} {a:Nat} {L:List (List UInt8)} (h:fG f a L):fG (oB bU a f L) a (mD L):=by
 unfold oB mD;by_cases hL:L= []
 ·subst hL
  rw [if_pos rfl,if_pos rfl];refine ⟨fun i q hq=> ?_,fun n hn hs=> ?_⟩
  ·cases i with
   |zero=>simp at hq;subst hq;rw [Nat.add_zero,qw];rfl
   |succ i=>simp at hq
  ·by_cases he:n=bp bU a
   ·exact ⟨0,by simp,by rw [he,Nat.add_zero]⟩
   ·rw [fZ _ he] at hs
    obtain ⟨i,hi,_⟩:=h.only n hn hs;simp at hi
 ·rw [if_neg hL,if_neg hL];exact h
def aun (Z B:Nat) (w:World) (p r a:Nat) (nm:List UInt8) (F:Nat→Prop) (f:Lk) (T K:Nat) (L:List (List UInt8)) (e:Ending) (w':World):Prop:=
 ∃ (lb:Nat) (v:Value) (F':Nat→Prop),e= .returned (.tuple #[.pointer (some ⟨lb,0,none⟩),v,.int .i64 0])∧w.heap.size≤lb∧Dl Z B w' p r (oB nm a f L) T (K+1) F'∧Sep F w w' F'∧di w' lb p nm ((a+((mD L).length-1):Nat):Int)∧iX w.heap.size F' w' v (lD L)
theorem auo (gG:nm=bU) (gD:∀ w,Calls Tryz.prog 95 #[.string ⟨nm.toArray⟩] w fun e w'=>e= .returned (.bool true)∧w'=w) (hf:fG f a L) (hw:∀ q∈L,(kj aq q).2.2=0) (h:Dl Z B w p r f T K F) (hN:cI N B w) (hK:K+1<1000000000) (Ui:a+L.length+1<N) (ha6:a+L.length+1<1000000) (Bg:(lD L).length≤1000000000000):
  Calls Tryz.prog 52 #[.pointer (some ⟨p,0,none⟩),.string ⟨nm.toArray⟩,.int .i64 a] w (aun Z B w p r a nm F f T K L):=by
 have hm:zL nm:=gG ▸ EM;have sg:∀ (i:Nat) (q:List UInt8),L[i]?=some q→f (bp nm (a+i))=some (q,q.length):=by subst gG;exact hf.there
 have hen:f (bp nm (a+L.length))=none:=by subst gG;exact hf.none (.inr (ay _))
 have JA:∀ (W:World) (F2:Nat→Prop) (last:Int),di W w.heap.size p nm last→Dl Z B W p r (oB nm a f L) T (K+1) F2→cI N B W→Calls Tryz.prog 99 #[.pointer (some ⟨w.heap.size,0,none⟩)] W fun e w'=>∃ v,e= .returned v∧lW W.heap.size w' v (List.range' a (mD L).length)∧Grow W w':=by
  subst gG;intro W F2 last hl hd hn;have hlen:(mD L).length≤L.length+1:=by unfold mD;split<;>simp
  exact adA hl hd hn hK (Um hf) (by omega) (by omega)
 have ha0:(0:Int)≤(a:Int):=by omega
 have ha:(a:Int)≤999999:=by omega
 have Hn:=ae (gD w);have H:=ae h;have HN:=ae hN;have NL:=ae sg;have TH:=ae hen;have Un:=ae JA;have Hw:=ae hw;clear gD h hN sg hen JA hw hf gG;go_enter Tryz.func52,Tryz.ntmps52
 go_wp2_with fail
 (with_reducible refine Hn.out.mono ?_);rintro e w1 ⟨rfl,hw⟩;have hw':=hw.symm;subst hw';clear hw
 go_upto_block 0 with fail
 go_cut [10] from 36 to 84 (fun ov wx=>O2 Z B w p r a nm F w.heap.size f T K L ov wx)
 case first=>
  have nr:=Grow.alloc w (.cells #[.pointer (some ⟨p,0,none⟩),.string ⟨nm.toArray⟩,.int .i64 a] 167);have bI:Hid (jW Z B w p r nm F w.heap.size f T K (a:Int) [] F (.slice none 0 0) (w.alloc (.cells #[.pointer (some ⟨p,0,none⟩),.string ⟨nm.toArray⟩,.int .i64 a] 167))):=ae ⟨H.out.grow nr,Sep.bF nr,⟨aw _ _⟩,aug _ _ _⟩;clear nr
  go_wp2_with fail
  go_loopw [10,11] (fun ov nv wr=>O1 Z B w p r a nm F w.heap.size f T K L ov nv wr) (fun _ nv _=>a+L.length+1-(intOf nv).toNat)
  case atStart=>exact ⟨a,[],L,F,rfl,rfl,rfl,bI.out⟩
  case round=>
   obtain ⟨n,P,R,F',rfl,hn,vr,h1⟩:=hrel;have hlen:P.length+R.length=L.length:=by rw [vr,List.length_append]
   have xh:=h1.gV HN.out H.out;obtain ⟨l0,l1,l2,ll⟩:=h1.log.cells;have ht:=adB h1.log hm.len h1.aW xh (n:=n) (by omega) (by omega);obtain ⟨oa,oc,sf⟩:=h1.rows.slice;subst sf;have H1:=ae h1;have Ue:=ae xh;clear h1 xh l2;cases R with
   |nil=>
    rw [List.append_nil] at vr;have hqn:f (bp nm n)=none:=by rw [hn,←vr];exact TH.out
    rw [hqn] at ht;have Ht:=ae ht;have xj:=ae hn;have Uo:=ae vr;clear ht hn vr hqn
    go_wp2_with fail
    (with_reducible refine Ht.out.mono ?_);rintro e w1 ⟨rfl,hg1⟩;have Hex:=ae (H1.out.grow hg1);clear hg1;go_wp2;go_meet;exact ⟨F',by rw [Uo.out];exact Hex.out⟩
   |cons q R=>
    have hq:f (bp nm n)=some (q,q.length):=by rw [hn];exact NL.out P.length q (by rw [vr,List.getElem?_append_right (ay _),Nat.sub_self];rfl)
    rw [hq] at ht;have her:(kj aq q).2.2=0:=Hw.out q (by rw [vr];simp);have rQ:(lD P).length+(kj aq q).1.length≤1000000000000:=by
     have:(lD (P++ [q])).length≤(lD L).length:=by
      rw [vr,show P++q::R=(P++ [q])++R by simp];simp [lD]
     rw [adG,List.length_append] at this;omega
    have NM:q.length≤1073741824:=by have:=H.out.len hq;have:=H.out.total;have:=H.out.size;dsimp only at*;omega
    have Ht:=ae ht;have xj:=ae hn;have Hq:=ae hq;have Uo:=ae vr;clear ht hn hq vr
    go_wp2_with fail
    (with_reducible refine Ht.out.mono ?_);rintro e w1 ⟨rfl,hg1⟩;have h2:=H1.out.grow hg1;obtain ⟨k0,k1,k2,kl⟩:=h2.log.cells;have ff:∀ i,w1.frozen? ⟨w.heap.size,i,none⟩=false:=fun i=>by simp [World.frozen?,h2.log.self]
    obtain ⟨w2,hw2⟩:∃ x,x=w1.setCell ⟨w.heap.size,2,none⟩ (.int .i64 n):=⟨_,rfl⟩
    have iy:=h2.set (ay _) n;rw [←hw2] at iy;have pd:=ae hw2;have M2:=ae iy;clear hg1 h2 H1 Ue l0 l1 ll iy hw2
    go_upto_region 9 with fail
    rw [←pd.out];clear ff pd k0 k1 k2 kl;refine bX (fun W=>W.cell? ⟨w.heap.size,0,none⟩=some (.pointer (some ⟨p,0,none⟩))∧w.heap.size<W.heap.size) [(0,false),(1,false),(2,false),(3,false),(4,false),(5,false),(6,true),(7,true),(8,false),(9,false),(10,false),(11,false),(12,false)] (by kernel_rfl) (by kernel_rfl) (fun c a d v w h=>by cases d<;>exact h) (M2.out.grow (Grow.drew w2)).cells ?_;simp only [aP,nth]
    repeat (first|(refine aB (v:= ?_) (by rfl) ?_ ?_;rotate_left;(rintro W ⟨hW0,hW1⟩;go_simp;with_reducible rfl);simp only [ag,List.set])|(refine aC (by rfl) ?_;simp only [ag,List.set]))
    have gX:=Grow.drew w2;refine bj (by rfl) (by go_simp) (xe ((M2.out.gV HN.out H.out).grow gX M2.out.aW.base) (n:=n) (by have:=xj.out;omega) (by have:=xj.out;omega) (name:=nm) (by have:=hm.len;omega)) ?_;rintro e w3 ⟨rfl,hg3⟩;have jV:=gX.trans hg3;refine ⟨_,rfl,(M2.out.grow jV).cells,?_⟩
    try first|simp only [ag,List.set]|simp only [aD]
    have aY:=II (M2.out.aW.grow jV) (bp nm n);rw [Hq.out] at aY;refine bj (by rfl) (by go_simp) aY ?_;rintro e w4 ⟨⟨bv,rfl,bg⟩,hg4⟩;have gj:=jV.trans hg4;have xm:=M2.out.grow gj;refine ⟨_,rfl,xm.cells,?_⟩;have pG:=cy bg;obtain ⟨ba,bc,rfl⟩:=pG.slice;have og:=aak pG (by omega);have df:=adG P q;generalize kj aq q=RF at*;obtain ⟨sm,sz,er⟩:=RF;dsimp only at og her rQ df;subst her;have lh:=ae og;have lQ:=ae df;have M4:=ae xm;clear og df pG bg xm gj jV hg4 hg3 gX aY M2
    try first|simp only [ag,List.set]|simp only [aD]
    repeat (first|(refine aB (v:= ?_) (by rfl) ?_ ?_;rotate_left;(rintro W ⟨hW0,hW1⟩;go_simp;with_reducible rfl);simp only [ag,List.set])|(refine aC (by rfl) ?_;simp only [ag,List.set]))
    refine bm ?_
    go_wp2_with fail
    (with_reducible refine lh.out.mono ?_);rintro e w5 ⟨rv,rfl,xn,aO⟩;have JB:=M4.out.grow aO;obtain ⟨v',w6,r1,Cr⟩:=JB.append xn (.inr ⟨M4.out.sep.size,fun b hb=>(M4.out.aW.foot hb).2⟩) (by omega);obtain ⟨ra,rc,rfl⟩:=xn.slice;obtain ⟨va,vc,rfl⟩:=Cr.rows.slice;have hN6:=Cr.gV HN.out H.out;have dC:=ae r1;have M6:=ae Cr;have HN6:=ae hN6;clear r1 Cr JB xn aO M4 lh hN6
    go_wp2_with (at_builtin;refine fC rfl rfl rfl rfl dC.out ?_)
    refine bX (fun W=>W.cell? ⟨w.heap.size,0,none⟩=some (.pointer (some ⟨p,0,none⟩))∧w.heap.size<W.heap.size) [(0,false),(1,false),(2,false),(3,false),(4,false),(5,false),(6,true),(7,true),(8,true)] (by kernel_rfl) (by kernel_rfl) (fun c a d v w h=>by cases d<;>exact h) (M6.out.grow (Grow.drew w6)).cells ?_;simp only [aP,nth]
    repeat (first|(refine aB (v:= ?_) (by rfl) ?_ ?_;rotate_left;(rintro W ⟨hW0,hW1⟩;go_simp;with_reducible rfl);simp only [ag,List.set])|(refine aC (by rfl) ?_;simp only [ag,List.set]))
    have gX:=Grow.drew w6;refine bj (by rfl) (by go_simp) (xe (HN6.out.grow gX M6.out.aW.base) (n:=n) (by have:=xj.out;omega) (by have:=xj.out;omega) (name:=nm) (by have:=hm.len;omega)) ?_;rintro e w7 ⟨rfl,cF⟩;have pJ:=gX.trans cF;refine ⟨_,rfl,(M6.out.grow pJ).cells,?_⟩
    try first|simp only [ag,List.set]|simp only [aD]
    have cx:=pJ.trans (Grow.alloc w7 (.cells #[.string (bp nm n)] 9));have si:=M6.out.grow cx;refine fQ (by rfl) (fun K hK=> ?_);go_simp;refine hK _ _ ⟨si.cells,?_⟩;clear hK K
    try first|simp only [ag,List.set]|simp only [aD]
    have qo:=IJ si.aW (n:=bp nm n) Hq.out (aw _ _);rw [abd Hq.out] at qo;refine bj (by rfl) (by go_simp) qo ?_;rintro e w9 ⟨rfl,F9,fF,iY⟩;have zN:=si.dl fF iY;have M9:=ae zN;refine ⟨_,rfl,zN.cells,?_⟩;clear zN fF iY qo si cx pJ cF gX
    try first|simp only [ag,List.set]|simp only [aD]
    refine bm ?_;have bS:IntKind.i64.wrap ((n:Int)+1)=(n:Int)+1:=aR _ (by have:=xj.out;omega);go_wp2;go_roundw
    case rel=>
     refine ⟨n+1,P++ [q],R,F9,by simp,by have:=xj.out;rw [List.length_append,List.length_singleton];omega,by rw [Uo.out];simp,?_⟩;have hM:=M9.out;rw [show (a+((P++ [q]).length-1):Nat)=n by have:=xj.out;simp;omega,lQ.out];rw [List.length_append] at hM;exact hM
    case measure=>simp [intOf];have:=xj.out;omega
 case rest=>
  obtain ⟨F2,h2⟩:=hcut;obtain ⟨oa,oc,sf⟩:=h2.rows.slice;subst sf;have ht:=adB h2.log hm.len h2.aW (h2.gV HN.out H.out) (n:=a) (by omega) (by omega);have xp:(f (bp nm a)).isSome=true∧oB nm a f L=f∧(mD L)=L∧L.length≠0∨(f (bp nm a)).isSome=false∧f (bp nm a)=none∧oB nm a f L=f.set (bp nm a) ([],0)∧(mD L).length=1∧L.length=0:=by
   unfold oB mD;by_cases NN:L= []
   ·right
    subst NN;have:=TH.out;rw [List.length_nil,Nat.add_zero] at this;exact ⟨by rw [this];rfl,this,rfl,rfl,rfl⟩
   ·left
    have hp:0<L.length:=List.length_pos_iff.2 NN;have:=NL.out 0 L[0] (List.getElem?_eq_getElem hp);rw [Nat.add_zero] at this;rw [if_neg NN,if_neg NN,this];exact ⟨rfl,rfl,rfl,by omega⟩
  generalize cZ:(f (bp nm a)).isSome=bb at ht xp;have Ht:=ae ht;have H2:=ae h2;have Up:=ae xp;clear ht h2 xp cZ
  go_wp2_with fail
  (with_reducible refine Ht.out.mono ?_);rintro e w1 ⟨rfl,hg1⟩;have dK:=ae hg1;clear hg1
  go_upto_if 88 with fail
  go_cut [] from 89 to 96 (fun wx=>∃ F',jW Z B w p r nm F w.heap.size (oB nm a f L) T (K+1) ((a+((mD L).length-1):Nat):Int) (lD L) F' (.slice oa (lD L).length oc) wx)
  case first=>
   have fY:=H2.out.grow dK.out;rcases Up.out with ⟨rfl,c2,c3,c4⟩|⟨rfl,c1,c2,c3,c4⟩
   ·have jB:jW Z B w p r nm F w.heap.size (oB nm a f L) T (K+1) ((a+((mD L).length-1):Nat):Int) (lD L) F2 (.slice oa (lD L).length oc) w1:=by
     rw [c2,c3];exact ⟨fY.aW.more (by omega),fY.sep,fY.log,fY.rows⟩
    have M1:=ae jB;clear fY c2 c3 c4 jB;go_wp2;go_meet;exact ⟨F2,M1.out⟩
   ·have M1:=ae fY
    have C1:=ae c1;have C2:=ae c2;have C3:=ae (ah c3 c4);clear fY c1 c2 c3 c4
    go_wp2_with fail
    refine bX (fun W=>W.cell? ⟨w.heap.size,0,none⟩=some (.pointer (some ⟨p,0,none⟩))∧w.heap.size<W.heap.size) [(0,false),(1,false),(2,false),(3,false),(4,false),(5,false),(6,true),(7,true)] (by kernel_rfl) (by kernel_rfl) (fun c a d v w h=>by cases d<;>exact h) (M1.out.grow (Grow.drew w1)).cells ?_;simp only [aP,nth]
    repeat (first|(refine aB (v:= ?_) (by rfl) ?_ ?_;rotate_left;(rintro W ⟨hW0,hW1⟩;go_simp;with_reducible rfl);simp only [ag,List.set])|(refine aC (by rfl) ?_;simp only [ag,List.set]))
    have gX:=Grow.drew w1;refine bj (by rfl) (by go_simp) (xe ((M1.out.gV HN.out H.out).grow gX M1.out.aW.base) (n:=a) (by omega) (by omega) (name:=nm) (by have:=hm.len;omega)) ?_;rintro e w7 ⟨rfl,cF⟩;have iD:=gX.trans cF;have NP:=M1.out.grow iD;refine ⟨_,rfl,NP.cells,?_⟩
    try first|simp only [ag,List.set]|simp only [aD]
    refine bj (by rfl) (by go_simp) (adC NP.aW (n:=bp nm a) (Ud hm (by omega)) C1.out) ?_;rintro e w9 ⟨rfl,F9,fF,iY⟩;have zN:=NP.dl fF iY;rw [←C2.out] at zN;have M9:=ae zN;refine ⟨_,rfl,zN.cells,?_⟩;clear zN fF iY NP iD cF gX
    try first|simp only [ag,List.set]|simp only [aD]
    refine bm ?_;go_wp2;go_meet;exact ⟨F9,by have:=M9.out;rw [C3.out.2] at this;rw [C3.out.1];exact this⟩
  case rest=>
   obtain ⟨F3,h3⟩:=hcut;have hS:(mD L).length≤L.length+1∧0<(mD L).length:=by
    rcases Up.out with ⟨_,_,c3,c4⟩|⟨_,_,_,c3,c4⟩
    ·rw [c3];omega
    ·rw [c3];omega
   clear dK Up H2 Ht;generalize wc=w2 at*;obtain ⟨ps,eh⟩:∃ ps,ps=lD L:=⟨_,rfl⟩
   obtain ⟨m,jB⟩:∃ m,m=a+((mD L).length-1):=⟨_,rfl⟩
   rw [←eh,←jB] at h3;rw [←eh];have Uq:=Un.out w2 F3 m h3.log h3.aW (h3.gV HN.out H.out);obtain ⟨k,hk⟩:∃ k,k=(mD L).length:=⟨_,rfl⟩
   rw [←hk] at Uq hS jB;have Hsg:=ae Uq;have H3:=ae h3;have xi:=ae eh;have Hk:=ae hk;have Hmm:=ae jB;clear Uq h3 eh hk
   go_wp2_with fail
   (with_reducible refine Hsg.out.mono ?_);rintro e w3 ⟨nv,rfl,hown,hg3⟩;have EN:=H3.out.grow hg3;rcases id hown with ⟨rfl,gD⟩|⟨gN,cap,cur,rfl,jO⟩
   ·exfalso
    have NQ:=congrArg List.length gD;rw [List.length_map,List.length_range',List.length_nil] at NQ;omega
   clear jO;have eP:((List.range' a k).map fun n:Nat=>Value.int .i64 n).length=k:=by rw [List.length_map,List.length_range']
   rw [eP];rw [eP] at hown;have M3:=ae EN;have eT:=ae hown;have aFi:gN<w3.heap.size:=(hown.lt rfl).2;obtain ⟨j0,j1,j2,jl⟩:=EN.log.cells;clear EN hown eP jB hg3 j0 j1
   go_wp2_with fail
   go_loopw [100] (fun iv wr=>∃ i:Nat,iv= .int .i64 (i:Int)∧i≤k∧wr=w3) (fun iv _=>k-(intOf iv).toNat)
   case atStart=>exact ⟨0,rfl,bk _,rfl⟩
   case round=>
    obtain ⟨i,rfl,hi,hwr⟩:=hrel;subst hwr;have bK:(0:Int)≤(i:Int):=by omega
    have bS:IntKind.i64.wrap ((i:Int)+1)=(i:Int)+1:=aR _ (by omega);by_cases hlt:i<k
    ·obtain ⟨n,hn⟩:∃ n,n=a+i:=⟨_,rfl⟩
     have hc:wr.cell? ⟨gN,i,none⟩=some (.int .i64 n):=Row1.cells eT.out rfl (by rw [hn,List.getElem?_map,List.getElem?_range' hlt];simp);have dJ:(i:Int)<(k:Int):=by omega
     have dH:(n:Int)≤(m:Int):=by have:=Hmm.out;omega
     clear hn;go_wp2;go_roundw
     case rel=>exact ⟨i+1,by simp,hlt,(by trivial)⟩
     case measure=>simp [intOf];omega
    ·have dJ:(k:Int)≤(i:Int):=by omega
     go_wp2;refine bodyPost_ret (v:= .tuple #[.pointer (some ⟨w.heap.size,0,none⟩),.slice oa ps.length oc,.int .i64 0]) ?_ rfl ?_
     ·simp [results,Tryz.results52,go_sem]
     ·have h5:=M3.out
      refine ⟨w.heap.size,_,F3,rfl,ay _,h5.aW,h5.sep,?_,?_⟩
      ·rw [←Hk.out,←Hmm.out];exact h5.log
      ·rw [←xi.out];exact h5.rows
end Go.Proofs.YtoolkdapflaeeaaGreatDoor
