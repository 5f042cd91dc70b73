/- Helpers. -/
import Derived.Test.YtoolkdapflaeeaaGreatDoorW05
import Derived.Test.YtoolkdapflaeeaaGreatDoorW00
import Derived.Test.YtoolkdapflaeeaaGreatDoorW01
import Derived.Test.YtoolkdapflaeeaaGreatDoorW03
import Derived.Deep.CutRange
import Derived.Deep.DeepCutAuto
set_option maxRecDepth 100000
set_option maxHeartbeats 16000000
set_option linter.unusedSimpArgs false
open Go
variable {B b c ha aU i j k n tb : Nat} {F F' N : Nat → Prop} {W W' w : World} {arr : Array Value} {bv dv v x0 x1 x2 x3 : Value} {ds : List Int} {f : Nat × Nat} {l : List UInt8} {t : TypeId}
namespace Go.Proofs.YtoolkdapflaeeaaGreatDoor
open Go.RowKit Go.Gl Go.aF Mn
def Wq (w:World) (B:Nat) (l:List UInt8) (v0 n:Nat) (bv vv iv:Value) (wr:World):Prop:=
 ∃ (i v:Nat),iv= .int .i64 i∧i≤n∧vv= .int .u64 v∧v<18446744073709551616∧(∃ pre,aI B wr bv (l++pre)∧pre.length=i∧cD n v0=pre++cD (n-i) v)∧Below B w wr∧B≤wr.heap.size
theorem agv (h:aI B w bv l) (hB:B≤w.heap.size) (hl:l.length≤1000000000000) (v0:Nat) (hv:v0<18446744073709551616) (hn:n≤8):
  Calls Tryz.prog 160 #[bv,.int .u64 v0,.int .i64 n] w fun e w'=>∃ v,e= .returned v∧aI B w' v (l++cD n v0)∧Below B w w':=by
 have hst:Wq w B l v0 n bv (.int .u64 v0) (.int .i64 0) w:=⟨0,v0,rfl,by omega,rfl,hv,⟨[],by simpa using h,rfl,rfl⟩,bS _ _,hB⟩
 have bJ:=ae hst;clear hst h;go_enter Tryz.func160,Tryz.ntmps160
 go_wp2_with fail
 go_loopw [0,1,8] (fun bv vv iv wr=>Wq w B l v0 n bv vv iv wr) (fun _ _ iv _=>n-(intOf iv).toNat)
 case atStart=>exact bJ.out
 case round=>
  obtain ⟨i,v,rfl,hi,rfl,arA,⟨pre,hown,hpl,kO⟩,hg,Js⟩:=hrel;by_cases hlt:i<n
  ·have eB:decide ((i:Int)<(n:Int))=true:=by simp;omega
   have fE:IntKind.i64.wrap ((i:Int)+1)=(i:Int)+1:=aS _ (by omega);have hx:((v:Int)%256)=(((UInt8.ofNat (v%256)).toNat:Nat):Int):=by rw [UInt8.toNat_ofNat_of_lt' (by simp [UInt8.size];omega)];omega
   obtain ⟨v',w',h1,h2,h3⟩:=Jp hown (UInt8.ofNat (v%256)) hx Js (by simp;omega);have cW:=ae h1;have hrel:Wq w B l v0 n v' (.int .u64 ((v:Int) / 256)) (.int .i64 ((i:Int)+1)) w':=by
    refine ⟨i+1,v / 256,by simp,hlt,by simp,by omega,⟨pre++ [UInt8.ofNat (v%256)],by rw [←ju];exact h2,by simp;omega,?_⟩,Below.trans hg h3,aM Js h3.size⟩;rw [kO,show n-i=(n-(i+1))+1 by omega,cD];simp
   have aX:=ae hrel;obtain ⟨ba,bc,rfl⟩:=hown.slice;clear h1 h2 h3 hrel hown kO hpl hg hx
   go_wp2_with (at_builtin;refine fI rfl rfl rfl rfl cW.out ?_)
   go_roundw
   case rel=>exact aX.out
   case measure=>simp [intOf];omega
  ·have eU:i=n:=by omega
   subst eU;have iP:cD i v0=pre:=by rw [kO];simp [cD]
   have jS:=hown;rw [←iP] at jS;have gP:=ae jS;obtain ⟨ba,bc,rfl⟩:=hown.slice;clear jS hown kO iP;go_wp2;go_ret;exact ⟨_,rfl,gP.out,hg⟩
def axQ (w:World) (l:List UInt8) (vv iv:Value) (wr:World):Prop:=∃ k:Nat,k≤l.length∧iv= .int .i64 ((k:Int)-1)∧vv= .int .u64 (numOf (l.drop k):Nat)∧wr=w
theorem axR {v b:Nat} (hv:v<72057594037927936) (hb:b<256):bits .or .u64 ((v:Int)*256) (b:Int)=((v*256+b:Nat):Int):=by
 have h1:v*256<18446744073709551616:=by omega
 have:=u64_or_nat (v*256) b h1 (by omega);rw [show ((v*256:Nat):Int)=(v:Int)*256 by simp] at this;rw [this,nat_join 8 (v*256) b (by omega) (by omega)]
theorem PW {l:List UInt8} (h:Bv w bv l) (hl:l.length≤8):
  Calls Tryz.prog 146 #[bv] w fun e w'=>e= .returned (.int .u64 (numOf l:Nat))∧w'=w:=by
 obtain ⟨ba,bc,rfl,hlc,hm,hn,h⟩:=h;have H:=ae h;have hw0:IntKind.i64.wrap ((l.length:Int)-1)=(l.length:Int)-1:=aS _ (by omega);clear h;go_enter Tryz.func146,Tryz.ntmps146
 go_wp2_with fail
 clear hw0
 go_loopw [3,4] (fun vv iv wr=>axQ w l vv iv wr) (fun _ iv _=>((intOf iv)+1).toNat)
 case atStart=>exact ⟨l.length,aw _,rfl,by simp [numOf],rfl⟩
 case round=>
  obtain ⟨k,hk,rfl,rfl,hwr⟩:=hrel;have yf:=hwr.symm;subst yf;clear hwr;cases k with
  |zero=>
   rw [show (((0:Nat):Int)-1)= -1 by rfl];go_wp2;go_ret;exact ⟨by simp,rfl⟩
  |succ m=>
   rw [show (((m+1:Nat):Int)-1)=(m:Int) by omega];obtain ⟨c,hc⟩:∃ c,l[m]?=some c:=⟨l[m],by simp [show m<l.length by omega]⟩
   obtain ⟨b,o,rfl,lb,hcs⟩:∃ b o,ba=some ⟨b,o,none⟩∧b<w.heap.size∧∀ (j:Nat) (k:UInt8),l[j]?=some k→w.cell? ⟨b,o+j,none⟩=some (.int .u8 k.toNat):=by
    rcases H.out with h1|h1
    ·rw [h1] at hk;simp at hk
    ·exact h1
   have ck:=hcs m c hc;have hstep:numOf (l.drop m)=numOf (l.drop (m+1))*256+c.toNat:=by
    obtain ⟨hi,e⟩:=dG.1 hc;rw [mh hi,e];rfl
   have hlt:=agu (l.drop (m+1));have agw:256^(l.drop (m+1)).length≤256^7:=Nat.pow_le_pow_right (by decide) (by rw [List.length_drop];omega);have aci:=c.toNat_lt;have hv:numOf (l.drop (m+1))<72057594037927936:=cf hlt (aM agw (by decide));generalize numOf (l.drop (m+1))=v at*;generalize c.toNat=x at*;have x1:=axR hv aci;have gC:(m:Int)<(l.length:Int):=by omega
   have uM:(0:Int)≤(m:Int):=by omega
   have Wt:IntKind.u64.wrap ((v:Int)*256)=(v:Int)*256:=by simp [IntKind.wrap,IntKind.bits,IntKind.signed];omega
   have hwm:IntKind.i64.wrap ((m:Int)-1)=(m:Int)-1:=aS _ (by omega);have oy:=ae hstep;clear hstep hcs hc hlt agw;go_wp2;go_roundw
   case rel=>exact ⟨m,by omega,rfl,by rw [oy.out];simp,rfl⟩
   case measure=>simp [intOf]
section
structure Kp (N:Nat→Prop) (w w':World):Prop where
 size:w.heap.size≤w'.heap.size
 same:∀ b,N b→b<w.heap.size→w'.heap[b]?=w.heap[b]?
section
variable {N M:Nat→Prop} {w w' w'':World}
theorem Kp.refl (N:Nat→Prop) (w:World):Kp N w w:=⟨aw _,fun _ _ _=>rfl⟩
theorem Kp.trans (h:Kp N w w') (k:Kp N w' w''):Kp N w w'':=⟨aM h.size k.size,fun b hb hl=>(k.same b hb (cf hl h.size)).trans (h.same b hb hl)⟩
theorem Kp.bT (h:Grow w w'):Kp N w w':=⟨h.size,fun b _ hl=>h.block b hl⟩
theorem Kp.axS (h:Sep F w w' F') (hN:∀ b,N b→¬ F b):Kp N w w':=⟨h.size,fun b hb hl=>h.out b hl (hN b hb)⟩
theorem Kp.mono (h:Kp N w w') (hM:∀ b,M b→N b):Kp M w w':=⟨h.size,fun b hb hl=>h.same b (hM b hb) hl⟩
theorem Kp.grown {r:Option Nat} (h:w.grownBy w' r) (hN:∀ b,r=some b→¬ N b):Kp N w w':=⟨h.size,fun b hb hl=>h.block b hl (fun e=>hN b e.symm hb)⟩
theorem Kp.cell (h:Kp N w w') (hb:N b) (hl:b<w.heap.size) (i:Nat):w'.cell? ⟨b,i,none⟩=w.cell? ⟨b,i,none⟩:=by
 simp [World.cell?,h.same b hb hl]
def Bw (N:Nat→Prop) (w:World) (v:Value) (l:List UInt8):Prop:=Bv w v l∧(l= []∨∀ b,v.ownBlock=some b→N b)
theorem Bw.kp {v:Value} (h:Bw N w v l) (k:Kp N w w'):Bw N w' v l:=by
 obtain ⟨⟨a,c,rfl,hl,hm,hn,h⟩,h2⟩:=h;refine ⟨⟨a,c,rfl,hl,hm,hn,?_⟩,h2⟩;rcases h with h|⟨b,o,rfl,hb,hc⟩
 ·exact .inl h
 ·rcases h2 with rfl|h2
  ·exact .inl rfl
  ·refine .inr ⟨b,o,rfl,cf hb k.size,fun j x hx=> ?_⟩
   rw [k.cell (h2 b rfl) hb];exact hc j x hx
theorem Bw.grow {v:Value} (h:Bw N w v l) (hg:Grow w w'):Bw N w' v l:=h.kp (.bT hg)
theorem Bw.mono {v:Value} (h:Bw N w v l) (hM:∀ b,N b→M b):Bw M w v l:=⟨h.1,h.2.imp id (fun h2 b hb=>hM b (h2 b hb))⟩
theorem Bw.slice {v:Value} (h:Bw N w v l):∃ a c,v= .slice a l.length c:=by
 obtain ⟨⟨a,c,h,_⟩,_⟩:=h;exact ⟨a,c,h⟩
theorem KT (N:Nat→Prop) (w:World):Bw N w (.slice none 0 0) []:=⟨⟨none,0,rfl,aw _,aY _,fun _=>rfl,.inl rfl⟩,.inl rfl⟩
end
structure Ev where
 e:En
 v:Value
instance:Inhabited Ev:=⟨⟨default,.slice none 0 0⟩⟩
def fN (x:Ev):List Value:= [.string x.e.key,.int .u64 x.e.seq,.bool x.e.gone,x.v]
abbrev bW (x:Ev):Array Value:=#[.string x.e.key,.int .u64 x.e.seq,.bool x.e.gone,x.v]
theorem DI (x:Ev):(fN x).length=4:=rfl
abbrev kJ (N:Nat→Prop) (w:World) (x:Ev):Prop:=Bw N w x.v x.e.val
theorem axT {N:Nat→Prop} {w:World} {x:Ev} (h:kJ N w x):∀ u∈fN x,u.oneCell'=true:=fun u hu=>by
 obtain ⟨a,c,hv⟩:=h.slice;simp only [fN,bE,List.not_mem_nil,or_false] at hu;rcases hu with rfl|rfl|rfl|rfl
 ·rfl
 ·rfl
 ·rfl
 ·rw [hv];rfl
def Es (N:Nat→Prop) (w:World) (v:Value) (xs:List Ev):Prop:=
 (∃ a c,v= .slice a xs.length c∧xs.length≤c∧c≤maxLen∧(a=none→c=0)∧(xs= []∨∃ b o,a=some ⟨b,o,none⟩∧N b∧b<w.heap.size∧Rd w b o fN 4 xs))∧∀ x∈xs,kJ N w x
def Wu (B:Nat) (N:Nat→Prop) (w:World) (v:Value) (xs:List Ev):Prop:=w.ownsRow B 60 4 v xs.length (xs.flatMap fN)∧∀ x∈xs,kJ N w x
section
variable {N M:Nat→Prop} {w w' w'':World} {v:Value} {xs:List Ev}
theorem Es.kp (h:Es N w v xs) (k:Kp N w w'):Es N w' v xs:=by
 obtain ⟨⟨a,c,rfl,hl,hm,hn,h⟩,h2⟩:=h;refine ⟨⟨a,c,rfl,hl,hm,hn,?_⟩,fun x hx=>(h2 x hx).kp k⟩;rcases h with h|⟨b,o,rfl,hb,hlt,hr⟩
 ·exact .inl h
 ·refine .inr ⟨b,o,rfl,hb,cf hlt k.size,fun i x hx c u hu=> ?_⟩
  rw [k.cell hb hlt];exact hr i x hx c u hu
theorem Es.grow (h:Es N w v xs) (hg:Grow w w'):Es N w' v xs:=h.kp (.bT hg)
theorem Es.mono (h:Es N w v xs) (hM:∀ b,N b→M b):Es M w v xs:=by
 obtain ⟨⟨a,c,rfl,hl,hm,hn,h⟩,h2⟩:=h;refine ⟨⟨a,c,rfl,hl,hm,hn,?_⟩,fun x hx=>(h2 x hx).mono hM⟩;rcases h with h|⟨b,o,rfl,hb,hlt,hr⟩
 ·exact .inl h
 ·exact .inr ⟨b,o,rfl,hM b hb,hlt,hr⟩
theorem Es.slice (h:Es N w v xs):∃ a c,v= .slice a xs.length c:=by
 obtain ⟨⟨a,c,h,_⟩,_⟩:=h;exact ⟨a,c,h⟩
theorem Es.get (h:Es N w v xs) {x:Ev} (hx:xs[i]?=some x):kJ N w x:=h.2 x (dB hx)
theorem Es.addr (h:Es N w v xs) {x:Ev} (hx:xs[i]?=some x):∃ b o c,v= .slice (some ⟨b,o,none⟩) xs.length c∧N b∧b<w.heap.size∧Rd w b o fN 4 xs:=by
 obtain ⟨⟨a,c,rfl,hl,hm,hn,h⟩,h2⟩:=h;rcases h with rfl|⟨b,o,rfl,hb,hlt,hr⟩
 ·simp at hx
 ·exact ⟨b,o,c,rfl,hb,hlt,hr⟩
theorem KU {o:Nat} {x:Ev} (h:Rd w b o fN 4 xs) (hx:xs[i]?=some x):
  w.cell? ⟨b,o+i*4,none⟩=some (.string x.e.key)∧w.cell? ⟨b,o+i*4+1,none⟩=some (.int .u64 x.e.seq)∧w.cell? ⟨b,o+i*4+2,none⟩=some (.bool x.e.gone)∧w.cell? ⟨b,o+i*4+3,none⟩=some x.v:=
 ⟨h i x hx 0 _ rfl,h i x hx 1 _ rfl,h i x hx 2 _ rfl,h i x hx 3 _ rfl⟩
theorem axU {o:Nat} (h:Rd w b o fN 4 xs):Rd w b (o+i*4) fN 4 ((xs.drop i).take (j-i)):=fun k x hx c u hu=>by
 rw [List.getElem?_take] at hx
 split at hx
 ·rw [List.getElem?_drop] at hx
  have:=h (i+k) x hx c u hu;rw [show o+i*4+k*4+c=o+(i+k)*4+c by omega];exact this
 ·cases hx
theorem Ww {a:Option Addr} (h:Es N w (.slice a xs.length c) xs) (pG:i≤j) (hj:j≤xs.length) (hk:j≤k) (KV:k≤c):Es N w (.slice (if k=i then a else a.map (fun x=>x.add (i*4))) (j-i) (k-i)) ((xs.drop i).take (j-i)):=by
 obtain ⟨⟨a',c',e,hl,hm,hn,h⟩,h2⟩:=h;cases e;have hlen:((xs.drop i).take (j-i)).length=j-i:=by simp;omega
 refine ⟨⟨_,k-i,by rw [hlen],by rw [hlen];omega,by omega,?_,?_⟩,fun x hx=>h2 x (List.mem_of_mem_drop (List.mem_of_mem_take hx))⟩
 ·intro hnone
  split at hnone
  ·omega
  ·cases a with
   |none=>have:=hn rfl;omega
   |some a=>cases hnone
 ·rcases h with rfl|⟨b,o,rfl,hb,hlt,hr⟩
  ·left;simp
  ·by_cases xY:k=i
   ·left;rw [show j-i=0 by omega];simp
   ·right
    rw [if_neg xY];exact ⟨b,o+i*4,by simp [Addr.add],hb,hlt,axU hr⟩
theorem Wu.es (h:Wu B N w v xs) (hN:∀ g,v.ownBlock=some g→N g):Es N w v xs:=by
 refine ⟨?_,h.2⟩;rcases h.1.2 with ⟨h1,h0⟩|⟨g,cap,cur,h1,hB,h3,h4,h5,h6⟩
 ·have:xs= []:=iI h0
  subst this;exact ⟨none,0,h1,aw _,aY _,fun _=>rfl,.inl rfl⟩
 ·exact ⟨some ⟨g,0,none⟩,cap,h1,h4,h5,(fun e=>by cases e),.inr ⟨g,0,rfl,hN g (by rw [h1];rfl),af h3,wC DI (h1 ▸ h.1)⟩⟩
end
theorem Tryz.Wx:(Tryz.prog.info? 60).map (fun i=>(i.zero,i.size,i.bytes))=some (some (.agg #[.string ByteArray.empty,.int .u64 0,.bool false,.slice none 0 0]),4,56):=by kernel_rfl
end
structure Nd where
 blk:Nat
 arr:Nat
 h:Nat
 x:Ev
abbrev au (b:Nat):Value:= .pointer (some ⟨b,0,none⟩)
def ct (k:Nat):List Nd→Value
 | []=> .pointer none
 |n::r=>if k<n.h then au n.blk else ct k r
def cw (k:Nat):List Nd→Option Nd
 | []=>none
 |n::r=>match cw k r with|some m=>some m|none=>if k<n.h then some n else none
def fh (w:World) (g:List Nd→Nat→Value):List Nd→Prop
 | []=>True
 |n::r=>w.heap[n.arr]?=some (.cells ((List.range n.h).map (g r)).toArray 287 (0,0))∧fh w g r
theorem PX {k:Nat}:∀ {r:List Nd} (hi:List Nd),cw k r=none→ct k (r++hi)=ct k hi
 | [],_,_=>rfl
 |n::r,hi,h=>by
  unfold cw at h;cases hr:cw k r with
  |some m=>rw [hr] at h;cases h
  |none=>
   rw [hr] at h;simp only at h
   split at h
   ·cases h
   ·rename_i hn
    rw [gG,ct,if_neg hn,PX hi hr]
theorem agx {k:Nat}:∀ {r:List Nd} {m:Nd} (h1 h2:List Nd),cw k r=some m→ct k (r++h1)=ct k (r++h2)
 | [],_,_,_,h=>by cases h
 |n::r,m,h1,h2,h=>by
  rw [gG,gG,ct,ct];by_cases hn:k<n.h
  ·rw [if_pos hn,if_pos hn]
  ·rw [if_neg hn,if_neg hn]
   unfold cw at h;cases hr:cw k r with
   |some m'=>exact agx h1 h2 hr
   |none=>rw [hr] at h;simp [hn] at h
theorem PY {k:Nat}:∀ {r:List Nd} {m:Nd},cw k r=some m→m∈r∧k<m.h
 | [],_,h=>by cases h
 |n::r,m,h=>by
  unfold cw at h;cases hr:cw k r with
  |some m'=>
   rw [hr] at h;cases h;obtain ⟨h1,h2⟩:=PY hr;exact ⟨fk _ h1,h2⟩
  |none=>
   rw [hr] at h;simp only at h
   split at h
   ·cases h;exact ⟨dR ..,by assumption⟩
   ·cases h
theorem Wy {k:Nat} {n:Nd} {r:List Nd} (hn:k<n.h) (hr:cw k r=none):∀ pre:List Nd,cw k (pre++n::r)=some n
 | []=>by rw [iq,cw,hr];simp [hn]
 |a::pre=>by rw [gG,cw,Wy hn hr pre]
theorem agy (k:Nat):∀ (r:List Nd),(cw k r=none)∨∃ r1 m r2,r=r1++m::r2∧k<m.h∧∀ hi,ct k (r++hi)=au m.blk
 | []=> .inl rfl
 |n::r=>by
  by_cases hn:k<n.h
  ·exact .inr ⟨[],n,r,rfl,hn,fun hi=>by rw [gG,ct,if_pos hn]⟩
  ·rcases agy k r with h|⟨r1,m,r2,h1,h2,h3⟩
   ·left;rw [cw,h];simp [hn]
   ·exact .inr ⟨n::r1,m,r2,by rw [h1];rfl,h2,fun hi=>by rw [gG,ct,if_neg hn,h3]⟩
theorem agz (k:Nat):∀ (hi:List Nd),ct k hi= .pointer none∨∃ h1 m h2,hi=h1++m::h2∧ct k hi=au m.blk
 | []=> .inl rfl
 |n::r=>by
  by_cases hn:k<n.h
  ·exact .inr ⟨[],n,r,rfl,by rw [ct,if_pos hn]⟩
  ·rcases agz k r with h|⟨r1,m,r2,h1,h2⟩
   ·left;rw [ct,if_neg hn,h]
   ·exact .inr ⟨n::r1,m,r2,by rw [h1];rfl,by rw [ct,if_neg hn,h2]⟩
theorem fh.keep {w w':World} {g:List Nd→Nat→Value}:∀ {l:List Nd},fh w g l→(∀ n∈l,w'.heap[n.arr]?=w.heap[n.arr]?)→fh w' g l
 | [],_,_=>trivial
 |n::r,h,hk=>⟨by rw [hk n (dR ..)];exact h.1,fh.keep h.2 (fun m hm=>hk m (fk _ hm))⟩
theorem fh.at {w:World} {g:List Nd→Nat→Value}:∀ {l pre:List Nd} {n:Nd} {r:List Nd},fh w g l→l=pre++n::r→w.heap[n.arr]?=some (.cells ((List.range n.h).map (g r)).toArray 287 (0,0))
 |_,[],n,r,h,rfl=>h.1
 |_,a::pre,n,r,h,rfl=>fh.at (pre:=pre) h.2 rfl
theorem fh.congr {w:World} {g g':List Nd→Nat→Value}:∀ {l:List Nd},fh w g l→(∀ pre n r,l=pre++n::r→∀ k,k<n.h→g r k=g' r k)→fh w g' l
 | [],_,_=>trivial
 |n::r,h,hk=>⟨by
  have e:(List.range n.h).map (g' r)=(List.range n.h).map (g r):=iJ fun k KW=>(hk [] n r rfl k (List.mem_range.1 KW)).symm
  rw [e];exact h.1,fh.congr h.2 (fun pre m s e k hkm=>hk (n::pre) m s (by rw [e];rfl) k hkm)⟩
theorem fh.split {w:World} {g:List Nd→Nat→Value} {hi:List Nd}:∀ {lo:List Nd},fh w g (lo++hi)→fh w (fun r=>g (r++hi)) lo∧fh w g hi
 | [],h=>⟨trivial,h⟩
 |_::_,h=>⟨⟨h.1,(fh.split h.2).1⟩,(fh.split h.2).2⟩
theorem fh.join {w:World} {g:List Nd→Nat→Value} {hi:List Nd}:∀ {lo:List Nd},fh w (fun r=>g (r++hi)) lo→fh w g hi→fh w g (lo++hi)
 | [],_,h=>h
 |_::_,h,h2=>⟨h.1,fh.join h.2 h2⟩
theorem PZ {f:Nat→Value} (h:w.heap[b]?=some (.cells ((List.range n).map f).toArray t (0,0))) (hk:k<n):w.cell? ⟨b,k,none⟩=some (f k):=by
 simp [World.cell?,h,hk]
def qY (K:Nat) (nw:Nd) (hi:List Nd) (r:List Nd) (k:Nat):Value:=if k<K then ct k (r++nw::hi) else ct k (r++hi)
theorem Wz {w:World} {nw:Nd} {hi:List Nd} {K:Nat} (hK:K<nw.h):∀ {l:List Nd},(l.map Nd.arr).Nodup→fh w (qY K nw hi) l→
  (∀ m,cw K l=some m→w.cell? ⟨m.arr,K,none⟩=some (ct K hi)∧fh (w.setCell ⟨m.arr,K,none⟩ (au nw.blk)) (qY (K+1) nw hi) l)∧(cw K l=none→fh w (qY (K+1) nw hi) l)
 | [],_,_=>⟨fun _ h=>(by cases h),fun _=>trivial⟩
 |n::r,hn,ht=>by
  have mE:=List.nodup_cons.1 hn;obtain ⟨ih1,ih2⟩:=Wz hK mE.2 ht.2;constructor
  ·intro m hm
   cases hr:cw K r with
   |some m'=>
    unfold cw at hm;rw [hr] at hm;cases hm;obtain ⟨h1,h2⟩:=ih1 m hr;have hne:n.arr≠m.arr:=fun e=>mE.1 (by rw [e];exact aZ.2 ⟨m,(PY hr).1,rfl⟩)
    refine ⟨h1,?_,h2⟩;rw [aP _ _ _ _ hne,ht.1];congr 3;apply iJ;intro k _;unfold qY;rcases Nat.lt_trichotomy k K with h3|h3|h3
    ·rw [if_pos h3,if_pos (by omega)]
    ·subst h3
     rw [if_neg (by omega),if_pos (by omega),agx _ (nw::hi) hr]
    ·rw [if_neg (by omega),if_neg (by omega)]
   |none=>
    unfold cw at hm;rw [hr] at hm;simp only at hm
    split at hm
    ·rename_i WA
     cases hm;have hc:=PZ ht.1 WA;refine ⟨by rw [hc,qY,if_neg (by omega),PX hi hr],?_,(ih2 hr).keep (fun x hx=>aP _ _ _ _ (fun e=>mE.1 (by have e':x.arr=n.arr:=e;rw [←e'];exact aZ.2 ⟨x,hx,rfl⟩)))⟩;rw [Go.Gl.aK ht.1];congr 2;apply Array.ext';simp only [Array.toList_setIfInBounds];apply List.ext_getElem?;intro k;rw [List.getElem?_set];by_cases KX:K=k
     ·subst KX
      simp [WA,qY,PX _ hr,ct,hK]
     ·rw [if_neg KX]
      by_cases ko:k<n.h
      ·simp only [gZ,List.getElem?_range ko,Option.map_some]
       unfold qY;rcases Nat.lt_trichotomy k K with h3|h3|h3
       ·rw [if_pos h3,if_pos (by omega)]
       ·omega
       ·rw [if_neg (by omega),if_neg (by omega)]
      ·simp [ko]
    ·cases hm
  ·intro hm
   unfold cw at hm;cases hr:cw K r with
   |some m'=>rw [hr] at hm;cases hm
   |none=>
    rw [hr] at hm;simp only at hm
    split at hm
    ·cases hm
    ·rename_i WA
     refine ⟨?_,ih2 hr⟩;rw [ht.1];congr 3;apply iJ;intro k hk;have DJ:=List.mem_range.1 hk;unfold qY;rw [if_pos (show k<K by omega),if_pos (by omega)]
theorem axW {nw:Nd} {hi lo:List Nd} (h:fh w (fun r k=>ct k (r++hi)) lo):fh w (qY 0 nw hi) lo:=h.congr (fun _ _ _ _ k _=>by simp [qY])
theorem axX {nw:Nd} {hi lo:List Nd} (h:fh w (qY nw.h nw hi) lo):fh w (fun r k=>ct k (r++nw::hi)) lo:=h.congr (fun _ _ r _ k _=>by
 unfold qY;by_cases hk:k<nw.h
 ·rw [if_pos hk]
 ·rw [if_neg hk]
  have:∀ r:List Nd,ct k (r++hi)=ct k (r++nw::hi):=fun r=>by
   induction r with
   |nil=>rw [iq,iq,ct,if_neg hk]
   |cons a r ih=>rw [gG,gG,ct,ct,ih]
  exact this r)
noncomputable def mleft (l:List Nd) (p:Value):Nat:=match p with| .pointer (some a)=>l.length-(l.map Nd.blk).idxOf a.block|_=>0
theorem Qa {l pre r:List Nd} {n:Nd} (hn:(l.map Nd.blk).Nodup) (hl:l=pre++n::r):mleft l (au n.blk)=r.length+1:=by
 subst hl;simp only [mleft];rw [dD,cg] at hn ⊢;have TH:n.blk ∉ pre.map Nd.blk:=fun h=>(List.nodup_append.1 hn).2.2 _ h _ (dR ..) rfl
 rw [List.idxOf_append,if_neg TH];simp
end Go.Proofs.YtoolkdapflaeeaaGreatDoor
namespace Go.Proofs.YtoolkdapflaeeaaGreatDoor
open Go.RowKit Go.Gl Mn
section
def fits (key:ByteArray) (up:Nat) (e:En):Prop:=e.key=key∧e.seq≤up
instance (key:ByteArray) (up:Nat) (e:En):Decidable (fits key up e):=inferInstanceAs (Decidable (_∧_))
def tM:Option En→Option En→Option En
 |none,y=>y
 |some x,none=>some x
 |some x,some y=>if x.seq<y.seq then some y else some x
def fT (key:ByteArray) (up:Nat):List En→Option En
 | []=>none
 |e::r=>tM (if fits key up e then some e else none) (fT key up r)
variable {key:ByteArray} {up:Nat}
theorem agB (x:Option En):tM x none=x:=by cases x<;>rfl
theorem axY (x y z:Option En):tM (tM x y) z=tM x (tM y z):=by
 cases x with
 |none=>rfl
 |some x=>
  cases y with
  |none=>cases z<;>rfl
  |some y=>
   cases z with
   |none=>rw [agB,agB]
   |some z=>
    simp only [tM];by_cases h1:x.seq<y.seq
    ·by_cases h2:y.seq<z.seq
     ·simp [h1,h2,show x.seq<z.seq by omega]
     ·simp [h1,h2]
    ·by_cases h2:y.seq<z.seq
     ·simp [h1,h2]
     ·simp [h1,h2,show ¬ x.seq<z.seq by omega]
theorem axZ (a b:List En):fT key up (a++b)=tM (fT key up a) (fT key up b):=by
 induction a with
 |nil=>rfl
 |cons e a ih=>rw [gG,fT,fT,ih,axY]
theorem Qb {l:List En}:fT key up l=none↔∀ e∈l,¬ fits key up e:=by
 induction l with
 |nil=>simp [fT]
 |cons e l ih=>
  rw [fT];by_cases h:fits key up e
  ·rw [if_pos h]
   constructor
   ·intro h2
    cases hb:fT key up l with
    |none=>rw [hb] at h2;cases h2
    |some y=>rw [hb] at h2;simp only [tM] at h2;split at h2<;>cases h2
   ·intro h2;exact absurd h (h2 e (dR ..))
  ·rw [if_neg h,show tM none (fT key up l)=fT key up l from rfl,ih]
   constructor
   ·intro h2 x hx
    rcases bE.1 hx with rfl|hx
    ·exact h
    ·exact h2 x hx
   ·intro h2 x hx;exact h2 x (fk _ hx)
theorem KY:∀ {l:List En} {e:En},fT key up l=some e→e∈l∧fits key up e∧∀ x∈l,fits key up x→x.seq≤e.seq
 | [],e,h=>by cases h
 |a::l,e,h=>by
  rw [fT] at h;by_cases ha:fits key up a
  ·rw [if_pos ha] at h
   cases hb:fT key up l with
   |none=>
    rw [hb] at h;cases h;have hn:=Qb.1 hb;refine ⟨dR ..,ha,fun x hx hf=> ?_⟩;rcases bE.1 hx with rfl|hx
    ·exact aw _
    ·exact absurd hf (hn x hx)
   |some y=>
    obtain ⟨h1,h2,h3⟩:=KY hb;rw [hb] at h;simp only [tM] at h
    split at h
    ·cases h
     refine ⟨fk _ h1,h2,fun x hx hf=> ?_⟩;rcases bE.1 hx with rfl|hx
     ·omega
     ·exact h3 x hx hf
    ·cases h
     refine ⟨dR ..,ha,fun x hx hf=> ?_⟩;rcases bE.1 hx with rfl|hx
     ·exact aw _
     ·have:=h3 x hx hf;omega
  ·rw [if_neg ha] at h
   obtain ⟨h1,h2,h3⟩:=KY (l:=l) h;refine ⟨fk _ h1,h2,fun x hx hf=> ?_⟩;rcases bE.1 hx with rfl|hx
   ·exact absurd hf ha
   ·exact h3 x hx hf
def tN (l:List En):Prop:=∀ a∈l,∀ b∈l,oY a b→a=b
theorem cn.fun {l:List En} (h:cn l):tN l:=by
 induction l with
 |nil=>intro a ha;cases ha
 |cons c l ih=>
  have h':=tK.1 h;intro a ha b hb hs;rcases bE.1 ha with rfl|ha2
  ·rcases bE.1 hb with rfl|hb2
   ·rfl
   ·have:=h'.1 b hb2;rw [wZ hs] at this;exact absurd this (yT _)
  ·rcases bE.1 hb with rfl|hb2
   ·have:=h'.1 a ha2;rw [ags hs] at this;exact absurd this (yT _)
   ·exact ih h'.2 a ha2 b hb2 hs
theorem Qc {l:List En} (hf:tN l) {e:En} (h1:e∈l) (h2:fits key up e) (h3:∀ x∈l,fits key up x→x.seq≤e.seq):fT key up l=some e:=by
 cases hb:fT key up l with
 |none=>exact absurd h2 (Qb.1 hb e h1)
 |some y=>
  obtain ⟨g1,g2,g3⟩:=KY hb;have a1:=h3 y g1 g2;have a2:=g3 e h1 h2;rw [hf y g1 e h1 ⟨g2.1.trans h2.1.symm,by omega⟩]
abbrev spot (key:ByteArray) (up:Nat):En:=⟨key,up,false,[]⟩
theorem aya {e:En} (h:¬ fM e (spot key up)) (hk:e.key=key):e.seq≤up:=by
 have:¬ up<e.seq:=fun h2=>h (.inr ⟨hk,h2⟩)
 omega
theorem agC {l:List En} (h:cn l):fT key up l=match ej (spot key up) l with| []=>none|e::_=>if e.key=key then some e else none:=by
 have DG:=tL (spot key up) l;have kO:=KP (x:=spot key up) (l:=l);have yU:=DF (x:=spot key up) h;have mF:∀ e∈ej (spot key up) l,e∈l:=fun e he=>by rw [←DG];exact mX _ he
 have ho:cn (ej (spot key up) l):=(PS h).2.1;have eU:∀ x∈l,fits key up x→x∈ej (spot key up) l:=fun x hx hf=>by
  rw [←DG] at hx;rcases cU.1 hx with hx|hx
  ·exfalso
   rcases kO x hx with h1|⟨_,h1⟩
   ·rw [hf.1] at h1;exact List.lt_irrefl _ h1
   ·have uS:up<x.seq:=h1
    have:=hf.2;omega
  ·exact hx
 cases hh:ej (spot key up) l with
 |nil=>
  rw [hh] at eU;exact Qb.2 fun x hx hf=>by cases eU x hx hf
 |cons e r=>
  rw [hh] at eU yU ho mF;have eA:=tK.1 ho;simp only;by_cases hk:e.key=key
  ·rw [if_pos hk]
   refine Qc h.fun (mF e (dR ..)) ⟨hk,aya (yU e (dR ..)) hk⟩ (fun x hx hf=> ?_)
   rcases bE.1 (eU x hx hf) with rfl|h2
   ·exact aw _
   ·rcases eA.1 x h2 with h3|⟨_,h3⟩
    ·rw [hk,hf.1] at h3;exact absurd h3 (List.lt_irrefl _)
    ·omega
  ·rw [if_neg hk]
   refine Qb.2 fun x hx hf=> ?_
   rcases bE.1 (eU x hx hf) with rfl|h2
   ·exact hk hf.1
   ·have h4:¬ fM e (spot key up):=yU e (dR ..)
    have h5:¬ e.key.data.toList<key.data.toList:=fun h6=>h4 (.inl h6)
    rcases eA.1 x h2 with h3|⟨h3,_⟩
    ·rw [hf.1] at h3;exact h5 h3
    ·exact hk (h3.trans hf.1)
end
end Go.Proofs.YtoolkdapflaeeaaGreatDoor
namespace Go.Proofs.YtoolkdapflaeeaaGreatDoor
open Go.RowKit Go.Gl Go.aF Mn
section
def Iw (N:Nat→Prop) (w:World) (v:Value) (l:List Int):Prop:=
 ∃ a c,v= .slice a l.length c∧l.length≤1000000000∧(l= []∨∃ b o,a=some ⟨b,o,none⟩∧N b∧b<w.heap.size∧∀ (j:Nat) (k:Int),l[j]?=some k→w.cell? ⟨b,o+j,none⟩=some (.int .i64 k))
theorem Iw.kp {N:Nat→Prop} {w w':World} {l:List Int} (h:Iw N w v l) (k:Kp N w w'):Iw N w' v l:=by
 obtain ⟨a,c,rfl,hl,h⟩:=h;refine ⟨a,c,rfl,hl,?_⟩;rcases h with h|⟨b,o,rfl,hb,hlt,hc⟩
 ·exact .inl h
 ·exact .inr ⟨b,o,rfl,hb,cf hlt k.size,fun j x hx=>by rw [k.cell hb hlt];exact hc j x hx⟩
theorem Iw.mono {N M:Nat→Prop} {w:World} {l:List Int} (h:Iw N w v l) (hM:∀ b,N b→M b):Iw M w v l:=by
 obtain ⟨a,c,rfl,hl,h⟩:=h;refine ⟨a,c,rfl,hl,?_⟩;rcases h with h|⟨b,o,rfl,hb,h⟩
 ·exact .inl h
 ·exact .inr ⟨b,o,rfl,hM b hb,h⟩
abbrev Qd (ha aU cnt:Nat) (dv:Value) (sz:Nat):Array Value:=#[.string ByteArray.empty,.int .u64 0,.bool false,.slice none 0 0,.slice (some ⟨ha,0,none⟩) 12 12,.func (.func 93) #[] #[],.int .i64 aU,.int .i64 cnt,dv,.int .i64 sz]
abbrev KZ (n:Nd):Array Value:=#[.string n.x.e.key,.int .u64 n.x.e.seq,.bool n.x.e.gone,n.x.v,.slice (some ⟨n.arr,0,none⟩) n.h n.h]
abbrev bM (tb ha:Nat):Nd:=⟨tb,ha,12,default⟩
def jq (e:En):Nat:=e.key.size+e.val.length+16
def costs (l:List En):Nat:=(l.map jq).sum
def FM (tb ha:Nat) (ns:List Nd):Nat→Prop:=fun b=>b=tb∨b=ha∨∃ n∈ns,b=n.blk∨b=n.arr
structure kq (N:Nat→Prop) (w:World) (tb ha:Nat) (ns:List Nd):Prop where
 node:∀ n∈ns,w.heap[n.blk]?=some (.cells (KZ n) 176 (0,0))
 iZ:fh w (fun r k=>ct k r) (bM tb ha::ns)
 hs:∀ n∈ns,1≤n.h∧n.h≤12
 Gz:(ns.map Nd.blk).Nodup
 DK:((bM tb ha::ns).map Nd.arr).Nodup
 vals:∀ n∈ns,kJ N w n.x∧n.x.e.seq<18446744073709551616
 ord:cn (ns.map (fun n=>n.x.e))
structure dQ (N:Nat→Prop) (w:World) (tb ha:Nat) (ns:List Nd) (aU:Nat) (dv:Value) (ds:List Int):Prop where
 self:w.heap[tb]?=some (.cells (Qd ha aU ns.length dv (costs (ns.map (fun n=>n.x.e)))) 181 (0,0))
 skip:kq N w tb ha ns
 aU:aU≤12
 draws:Iw N w dv ds
section
variable {N M:Nat→Prop} {w w':World} {tb ha:Nat} {ns:List Nd} {aU:Nat} {dv:Value} {ds:List Int}
theorem kq.keep (h:kq N w tb ha ns) (hk:∀ b,(b=ha∨∃ n∈ns,b=n.blk∨b=n.arr)→w'.heap[b]?=w.heap[b]?) (hN:Kp N w w'):kq N w' tb ha ns:=
 ⟨fun n hn=>(hk _ (.inr ⟨n,hn,.inl rfl⟩)).trans (h.node n hn),h.iZ.keep (fun n hn=>by
  rcases bE.1 hn with rfl|hn
  ·exact hk _ (.inl rfl)
  ·exact hk _ (.inr ⟨n,hn,.inr rfl⟩)),h.hs,h.Gz,h.DK,fun n hn=>⟨(h.vals n hn).1.kp hN,(h.vals n hn).2⟩,h.ord⟩
theorem dQ.keep (h:dQ N w tb ha ns aU dv ds) (hk:∀ b,FM tb ha ns b→w'.heap[b]?=w.heap[b]?) (hN:Kp N w w'):dQ N w' tb ha ns aU dv ds:=
 ⟨(hk _ (.inl rfl)).trans h.self,h.skip.keep (fun b hb=>hk b (.inr hb)) hN,h.aU,h.draws.kp hN⟩
theorem kq.lt (h:kq N w tb ha ns) (hb:b=ha∨∃ n∈ns,b=n.blk∨b=n.arr):b<w.heap.size:=by
 rcases hb with rfl|⟨n,hn,rfl|rfl⟩
 ·exact af h.iZ.1
 ·exact af (h.node n hn)
 ·obtain ⟨pre,r,e⟩:=sN hn
  exact af (h.iZ.2.at e)
theorem dQ.lt (h:dQ N w tb ha ns aU dv ds) (hb:FM tb ha ns b):b<w.heap.size:=by
 rcases hb with rfl|hb
 ·exact af h.self
 ·exact h.skip.lt hb
theorem kq.grow (h:kq N w tb ha ns) (hg:Grow w w'):kq N w' tb ha ns:=h.keep (fun b hb=>hg.block b (h.lt hb)) (.bT hg)
theorem dQ.grow (h:dQ N w tb ha ns aU dv ds) (hg:Grow w w'):dQ N w' tb ha ns aU dv ds:=h.keep (fun b hb=>hg.block b (h.lt hb)) (.bT hg)
theorem kq.mono (h:kq N w tb ha ns) (hM:∀ b,N b→M b):kq M w tb ha ns:=⟨h.node,h.iZ,h.hs,h.Gz,h.DK,fun n hn=>⟨(h.vals n hn).1.mono hM,(h.vals n hn).2⟩,h.ord⟩
theorem dQ.mono (h:dQ N w tb ha ns aU dv ds) (hM:∀ b,N b→M b):dQ M w tb ha ns aU dv ds:=⟨h.self,h.skip.mono hM,h.aU,h.draws.mono hM⟩
def cd (x:En) (ns:List Nd):List Nd:=ns.takeWhile (fun n=>decide (dU n.x.e x<0))
def gz (x:En) (ns:List Nd):List Nd:=ns.dropWhile (fun n=>decide (dU n.x.e x<0))
theorem jO (x:En) (ns:List Nd):cd x ns++gz x ns=ns:=List.takeWhile_append_dropWhile ..
theorem WB (x:En):∀ ns:List Nd,(cd x ns).map (fun n=>n.x.e)=gD x (ns.map (fun n=>n.x.e))
 | []=>rfl
 |n::ns=>by
  unfold cd gD;rw [cg,List.takeWhile_cons,List.takeWhile_cons];split
  ·rw [cg];exact congrArg _ (WB x ns)
  ·rfl
theorem DL (x:En):∀ ns:List Nd,(gz x ns).map (fun n=>n.x.e)=ej x (ns.map (fun n=>n.x.e))
 | []=>rfl
 |n::ns=>by
  unfold gz ej;rw [cg,List.dropWhile_cons,List.dropWhile_cons];split
  ·exact DL x ns
  ·rw [cg]
theorem ayb {x:En} {ns:List Nd}:∀ n∈cd x ns,dU n.x.e x<0:=fun n hn=>by
 have:=List.all_takeWhile (p:=fun n:Nd=>decide (dU n.x.e x<0)) (l:=ns);have h2:=List.all_eq_true.1 this n hn;rwa [decide_eq_true_eq] at h2
theorem ayc {x:En} {ns:List Nd} (h:cn (ns.map (fun n=>n.x.e))):∀ n∈gz x ns,¬ dU n.x.e x<0:=fun n hn=>by
 have:=DF (x:=x) h n.x.e (by rw [←DL];exact aZ.2 ⟨n,hn,rfl⟩);rwa [yS]
def gU:Option Nd→Value
 |none=> .pointer none
 |some n=>au n.blk
theorem WC (hk:k<12) (tb ha:Nat):∀ (lo:List Nd),∃ m,cw k (bM tb ha::lo)=some m:=fun lo=>by
 unfold cw;cases cw k lo with
 |some m=>exact ⟨m,rfl⟩
 |none=>exact ⟨bM tb ha,by simp [hk]⟩
def GA (x:En) (tb ha:Nat) (ns:List Nd):Array Value:=((List.range 12).map (fun k=>gU (cw k (bM tb ha::cd x ns)))).toArray
end
end
section
theorem agD {k:Nat} {n n':Nd} (hb:n'.blk=n.blk) (hh:n'.h=n.h):∀ (a r:List Nd),ct k (a++n'::r)=ct k (a++n::r)
 | [],r=>by rw [iq,iq,ct,ct,hb,hh]
 |m::a,r=>by rw [gG,gG,ct,ct,agD hb hh a r]
theorem agE {w:World} {n n':Nd} (hb:n'.blk=n.blk) (hh:n'.h=n.h) (ha:n'.arr=n.arr):∀ {l r:List Nd},fh w (fun r k=>ct k r) (l++n::r)→fh w (fun r k=>ct k r) (l++n'::r)
 | [],r,h=>⟨by have h1:=h.1;rw [ha,hh];exact h1,h.2⟩
 |m::l,r,h=>⟨by
  have h1:=h.1;have e:(List.range m.h).map (fun k=>ct k (l++n'::r))=(List.range m.h).map (fun k=>ct k (l++n::r)):=iJ fun k _=>agD hb hh l r
  show w.heap[m.arr]?=some (.cells ((List.range m.h).map (fun k=>ct k (l++n'::r))).toArray 287 (0,0));rw [e];exact h1,agE hb hh ha h.2⟩
theorem ayd {a b:List En} {x y:En} (h:cn (a++x::b)) (hs:oY x y):cn (a++y::b):=by
 obtain ⟨h1,h2,h3⟩:=List.pairwise_append.1 h;have CV:=tK.1 h2;refine List.pairwise_append.2 ⟨h1,tK.2 ⟨fun c hc=>(wZ hs).1 (CV.1 c hc),CV.2⟩,fun c hc d hd=> ?_⟩;rcases bE.1 hd with rfl|hd
 ·exact (ags hs).1 (h3 c hc x (dR ..))
 ·exact h3 c hc d (fk _ hd)
variable {N:Nat→Prop} {w w':World} {tb ha:Nat} {lo hi r:List Nd} {n n' nw:Nd}
theorem kq.rep (h:kq N w tb ha (lo++n::r)) (hb:n'.blk=n.blk) (hh:n'.h=n.h) (DM:n'.arr=n.arr) (hc:w'.heap[n.blk]?=some (.cells (KZ n') 176 (0,0)))
  (ho:∀ b,b≠n.blk→b<w.heap.size→w'.heap[b]?=w.heap[b]?) (hN:Kp N w w') (hx:kJ N w' n'.x∧n'.x.e.seq<18446744073709551616) (hs:oY n.x.e n'.x.e):kq N w' tb ha (lo++n'::r):=by
 have cK:n∈lo++n::r:=mX _ (dR ..);have aye:∀ m∈bM tb ha::(lo++n::r),m.arr≠n.blk:=fun m hm e=>by
  obtain ⟨pre,r',e2⟩:=sN hm;have h1:=h.iZ.at e2;rw [e,h.node n cK] at h1;have h2:=(cE (bk h1)).2.1;exact absurd h2 (by decide)
 have WD:fh w' (fun r k=>ct k r) (bM tb ha::(lo++n::r)):=h.iZ.keep (fun m hm=>ho _ (aye m hm) (by
  obtain ⟨pre,r',e2⟩:=sN hm;exact af (h.iZ.at e2)))
 have hbl:=h.Gz;have rU:=h.DK;have vk:=h.ord;rw [dD,cg] at hbl vk;have iB:=List.nodup_append.1 hbl;have Qe:=List.nodup_cons.1 iB.2.1;refine ⟨?_,?_,?_,?_,?_,?_,?_⟩
 ·intro m hm
  rcases cU.1 hm with h1|h1
  ·rw [ho m.blk (fun e=>iB.2.2 _ (aZ.2 ⟨m,h1,rfl⟩) _ (dR ..) e) (af (h.node m (jw _ h1)))]
   exact h.node m (jw _ h1)
  ·rcases bE.1 h1 with rfl|h1
   ·rw [hb];exact hc
   ·have h2:m∈lo++n::r:=mX _ (fk _ h1)
    rw [ho m.blk (fun e=>Qe.1 (by rw [←e];exact aZ.2 ⟨m,h1,rfl⟩)) (af (h.node m h2))];exact h.node m h2
 ·exact agE (l:=bM tb ha::lo) hb hh DM WD
 ·intro m hm
  rcases cU.1 hm with h1|h1
  ·exact h.hs m (jw _ h1)
  ·rcases bE.1 h1 with rfl|h1
   ·rw [hh];exact h.hs n cK
   ·exact h.hs m (mX _ (fk _ h1))
 ·rw [dD,cg,hb];exact hbl
 ·simp only [dD,cg,DM] at rU ⊢;exact rU
 ·intro m hm
  rcases cU.1 hm with h1|h1
  ·have:=h.vals m (jw _ h1);exact ⟨this.1.kp hN,this.2⟩
  ·rcases bE.1 h1 with rfl|h1
   ·exact hx
   ·have:=h.vals m (mX _ (fk _ h1));exact ⟨this.1.kp hN,this.2⟩
 ·rw [dD,cg]
  exact ayd vk hs
theorem kq.ins (h:kq N w tb ha (lo++hi)) (GC:w'.heap[nw.blk]?=some (.cells (KZ nw) 176 (0,0))) (WD:fh w' (fun r k=>ct k (r++nw::hi)) (bM tb ha::lo))
  (GD:w'.heap[nw.arr]?=some (.cells ((List.range nw.h).map (fun k=>ct k hi)).toArray 287 (0,0))) (hblk:∀ m∈lo++hi,w'.heap[m.blk]?=w.heap[m.blk]?) (DM:∀ m∈hi,w'.heap[m.arr]?=w.heap[m.arr]?)
  (rH:w.heap.size≤nw.blk) (bq:w.heap.size≤nw.arr) (hN:Kp N w w') (hx:kJ N w' nw.x∧nw.x.e.seq<18446744073709551616) (hh:1≤nw.h∧nw.h≤12) (vk:cn ((lo++nw::hi).map (fun n=>n.x.e))):kq N w' tb ha (lo++nw::hi):=by
 have gH:∀ {m},m∈lo++nw::hi→m=nw∨m∈lo++hi:=fun {m} hm=>by
  rcases cU.1 hm with h1|h1
  ·exact .inr (jw _ h1)
  ·rcases bE.1 h1 with h1|h1
   ·exact .inl h1
   ·exact .inr (mX _ h1)
 have nZ:∀ m∈lo++hi,m.blk<w.heap.size:=fun m hm=>af (h.node m hm)
 have La:∀ m∈bM tb ha::(lo++hi),m.arr<w.heap.size:=fun m hm=>by
  obtain ⟨pre,r',e2⟩:=sN hm;exact af (h.iZ.at e2)
 have iB:∀ (f:Nd→Nat) (a:List Nd),((a++hi).map f).Nodup→(∀ m∈a++hi,f m≠f nw)→((a++nw::hi).map f).Nodup:=fun f a hn hne=>by
  rw [dD] at hn;rw [dD,cg];obtain ⟨h1,h2,h3⟩:=List.nodup_append.1 hn;refine List.nodup_append.2 ⟨h1,List.nodup_cons.2 ⟨fun hm=> ?_,h2⟩,fun x hx y hy=> ?_⟩
  ·obtain ⟨m,hm,e⟩:=aZ.1 hm
   exact hne m (mX _ hm) e
  ·rcases bE.1 hy with rfl|hy
   ·obtain ⟨m,hm,e⟩:=aZ.1 hx
    intro e2;exact hne m (jw _ hm) (e.trans e2)
   ·exact h3 x hx y hy
 refine ⟨?_,?_,?_,?_,?_,?_,vk⟩
 ·intro m hm
  rcases gH hm with rfl|hm
  ·exact GC
  ·rw [hblk m hm];exact h.node m hm
 ·have ayf:fh w' (fun r k=>ct k r) hi:=((fh.split (lo:=bM tb ha::lo) h.iZ).2).keep DM
  have:=fh.join (lo:=bM tb ha::lo) (hi:=nw::hi) (g:=fun r k=>ct k r) WD ⟨GD,ayf⟩;exact this
 ·intro m hm
  rcases gH hm with rfl|hm
  ·exact hh
  ·exact h.hs m hm
 ·exact iB Nd.blk lo h.Gz (fun m hm e=>by have:=nZ m hm;omega)
 ·have h9:((bM tb ha::lo++hi).map Nd.arr).Nodup:=h.DK
  exact iB Nd.arr (bM tb ha::lo) h9 (fun m hm e=>by have:=La m hm;omega)
 ·intro m hm
  rcases gH hm with rfl|hm
  ·exact hx
  ·have:=h.vals m hm;exact ⟨this.1.kp hN,this.2⟩
end
end Go.Proofs.YtoolkdapflaeeaaGreatDoor
namespace Go.Proofs.YtoolkdapflaeeaaGreatDoor
open Go.RowKit Go.Gl Mn
theorem ayg (x:Int) (w:World):Calls Tryz.prog 197 #[.int .u64 x] w fun e w'=>e= .returned (.bool false)∧w'=w:=by
 have hb:(x != x)=false:=by simp
 go_enter Tryz.func197,Tryz.ntmps197;go_wp2;go_ret;exact ⟨rfl,rfl⟩
theorem ayh (x y:Int) (w:World):Calls Tryz.prog 144 #[.int .u64 x,.int .u64 y] w fun e w'=>e= .returned (.int .i64 (jk x y))∧w'=w:=by
 go_enter Tryz.func144,Tryz.ntmps144
 go_wp2_with (go_at_call 197;(with_reducible refine (ayg _ _).mono ?_);rintro e w' ⟨rfl,rfl⟩)
 ·rename_i h
  go_ret;exact ⟨by rw [jk,if_pos h];rfl,rfl⟩
 ·rename_i h1 h2
  go_ret;exact ⟨by rw [jk,if_neg (by omega),if_pos h2];rfl,rfl⟩
 ·rename_i h1 h2
  go_ret;exact ⟨by rw [jk,if_neg (by omega),if_neg (by omega)];rfl,rfl⟩
theorem agF (w:World) (x y:Int):(Instr.buildSlice 24 2 #[(0,.int .i64 x),(1,.int .i64 y)]).run Tryz.prog w= .ok (.slice (some ⟨w.heap.size,0,none⟩) 2 2) (w.alloc (.cells #[.int .i64 x,.int .i64 y] 3)):=by
 simp [Instr.buildSlice,run_underlying Tryz.underlying24,Tryz.sizeOf3,Tryz.zeroValue3,Instr.fill,newRow,Value.cells];congr 2;apply Array.ext
 ·simp
 ·intro i h1 h2
  simp at h1
  match i,h1 with
  |0,_=>simp
  |1,_=>simp
theorem cS (h:w.heap[b]?=some (.cells #[x0,x1,x2,x3] t (0,0))):
  w.cell? ⟨b,0,none⟩=some x0∧w.cell? ⟨b,1,none⟩=some x1∧w.cell? ⟨b,2,none⟩=some x2∧w.cell? ⟨b,3,none⟩=some x3:=by
 simp [World.cell?,h]
theorem agG (xk:ByteArray) (xs:Nat) (xg:Bool) (xv:Value) (yk:ByteArray) (ys:Nat) (yg:Bool) (yv:Value) (W:World):∀ f,f=93∨f=133→Calls Tryz.prog f #[.agg #[.string xk,.int .u64 xs,.bool xg,xv],.agg #[.string yk,.int .u64 ys,.bool yg,yv]] W fun e w'=>e= .returned (.int .i64 (df (ke xk yk) (jk ys xs)))∧Grow W w':=by
 have hc0:=adF xk yk;have hc1:=ayh ys xs;generalize ke xk yk=c0 at*;generalize jk ys xs=c1 at*;have wB:=UJ c0 c1;generalize df c0 c1=res at*;have b0:((W.alloc (.cells #[.string xk,.int .u64 xs,.bool xg,xv] 60)).alloc (.cells #[.string yk,.int .u64 ys,.bool yg,yv] 60)).heap[W.heap.size]?=some (.cells #[.string xk,.int .u64 xs,.bool xg,xv] 60 (0,0)):=(heap_alloc_old _ _ (by simp)).trans (ax _ _);have b1:((W.alloc (.cells #[.string xk,.int .u64 xs,.bool xg,xv] 60)).alloc (.cells #[.string yk,.int .u64 ys,.bool yg,yv] 60)).heap[W.heap.size+1]?=some (.cells #[.string yk,.int .u64 ys,.bool yg,yv] 60 (0,0)):=by
  have:=ax (W.alloc (.cells #[.string xk,.int .u64 xs,.bool xg,xv] 60)) (.cells #[.string yk,.int .u64 ys,.bool yg,yv] 60);simpa using this
 obtain ⟨d0,d1,_,_⟩:=cS b0;obtain ⟨e0,e1,_,_⟩:=cS b1;have l0:=af b0;have l1:=af b1;have fB:Grow W ((W.alloc (.cells #[.string xk,.int .u64 xs,.bool xg,xv] 60)).alloc (.cells #[.string yk,.int .u64 ys,.bool yg,yv] 60)):=(ar _ _).trans (ar _ _);have UK:=ae hc0;have qI:=ae hc1;have UL:=ae wB;have cJ:=ae fB;clear b0 b1 hc0 hc1 wB fB;rintro f (rfl|rfl);go_enter Tryz.func93,Tryz.ntmps93;rotate_left;go_enter Tryz.func133,Tryz.ntmps133
 all_goals
  go_upto_region 1 with fail
  generalize (W.alloc (.cells #[.string xk,.int .u64 xs,.bool xg,xv] 60)).alloc (.cells #[.string yk,.int .u64 ys,.bool yg,yv] 60)=w0 at*;have aQ:=Grow.cells (w:=w0);refine ou (fun V=>Below w0.heap.size w0 V)
   [(0,false),(1,false),(2,false),(3,false),(5,false),(6,false),(7,false),(8,false),(4,true),(9,true),(10,true),(11,true),(12,false)] (by kernel_rfl) (by kernel_rfl) (bK fun _ _ _ _ _ h=>h) (by ((repeat (first|exact bS _ _|assumption|refine cz ?_|refine cA ?_|refine cj ?_ ?_ _|refine cy ?_ ?_ _))<;>try (first|omega|(simp<;>omega)))) ?_
  simp only [cm,nth]
  repeat ((first|(refine aA (v:= ?_) (by rfl) ?_ ?_;rotate_left;rintro W hW;go_simp;with_reducible rfl)|refine aB (by rfl) ?_);simp only [ai,List.set])
  refine bp (by rfl) (by go_simp) (UK.out _) ?_;rintro e w2 ⟨rfl,rfl⟩;refine ⟨_,rfl,by ((repeat (first|exact bS _ _|assumption|refine cz ?_|refine cA ?_|refine cj ?_ ?_ _|refine cy ?_ ?_ _))<;>try (first|omega|(simp<;>omega))),?_⟩
  try simp only [ai,List.set,aC]
  refine bp (by rfl) (by go_simp) (qI.out _) ?_;rintro e w2 ⟨rfl,rfl⟩;refine ⟨_,rfl,by ((repeat (first|exact bS _ _|assumption|refine cz ?_|refine cA ?_|refine cj ?_ ?_ _|refine cy ?_ ?_ _))<;>try (first|omega|(simp<;>omega))),?_⟩
  try simp only [ai,List.set,aC]
  refine sR (by rfl) (v:= .slice (some ⟨w0.drew.heap.size,0,none⟩) 2 2) (w':=World.alloc w0.drew (.cells #[.int .i64 c0,.int .i64 c1] 3)) ?_ (by ((repeat (first|exact bS _ _|assumption|refine cz ?_|refine cA ?_|refine cj ?_ ?_ _|refine cy ?_ ?_ _))<;>try (first|omega|(simp<;>omega)))) ?_
  ·unfold execOp
   simp only [Act.eval];simp [agF]
  try simp only [ai,List.set,aC]
  refine bp (by rfl) (by go_simp) (UL.out w0.drew.heap.size (World.alloc w0.drew (.cells #[.int .i64 c0,.int .i64 c1] 3)) (by unfold World.cell?;rw [ax];rfl) (by unfold World.cell?;rw [ax];rfl)) ?_;rintro e w2 ⟨rfl,rfl⟩;refine ⟨_,rfl,by ((repeat (first|exact bS _ _|assumption|refine cz ?_|refine cA ?_|refine cj ?_ ?_ _|refine cy ?_ ?_ _))<;>try (first|omega|(simp<;>omega))),?_⟩
  try simp only [ai,List.set,aC]
  repeat ((first|(refine aA (v:= ?_) (by rfl) ?_ ?_;rotate_left;rintro W hW;go_simp;with_reducible rfl)|refine aB (by rfl) ?_);simp only [ai,List.set])
  refine bj ?_
  go_wp2_with fail
  go_ret;exact ⟨rfl,cJ.out.trans ((az _).trans (ar _ _))⟩
theorem agH (xk:ByteArray) (xs:Nat) (xg:Bool) (xv:Value) (yk:ByteArray) (ys:Nat) (yg:Bool) (yv:Value) (W:World):Calls Tryz.prog 93 #[.agg #[.string xk,.int .u64 xs,.bool xg,xv],.agg #[.string yk,.int .u64 ys,.bool yg,yv]] W fun e w'=>e= .returned (.int .i64 (df (ke xk yk) (jk ys xs)))∧Grow W w':=agG xk xs xg xv yk ys yg yv W _ (.inl rfl)
theorem agI (xk:ByteArray) (xs:Nat) (xg:Bool) (xv:Value) (yk:ByteArray) (ys:Nat) (yg:Bool) (yv:Value) (W:World):Calls Tryz.prog 133 #[.agg #[.string xk,.int .u64 xs,.bool xg,xv],.agg #[.string yk,.int .u64 ys,.bool yg,yv]] W fun e w'=>e= .returned (.int .i64 (df (ke xk yk) (jk ys xs)))∧Grow W w':=agG xk xs xg xv yk ys yg yv W _ (.inr rfl)
end Go.Proofs.YtoolkdapflaeeaaGreatDoor
namespace Go.Proofs.YtoolkdapflaeeaaGreatDoor
open Go.RowKit Go.Gl Go.aF Mn
def qZ (L:List Nd) (j:Nat):Array Value:=((List.range 12).map (fun i=>if j≤i then gU (cw i L) else .pointer none)).toArray
theorem ayi (L:List Nd):qZ L 12=#[.pointer none,.pointer none,.pointer none,.pointer none,.pointer none,.pointer none,.pointer none,.pointer none,.pointer none,.pointer none,.pointer none,.pointer none]:=rfl
theorem ayj (L:List Nd) (hj:j<12):(qZ L (j+1)).setIfInBounds j (gU (cw j L))=qZ L j:=by
 apply Array.ext_getElem?;intro i;rw [Array.getElem?_setIfInBounds];by_cases h:j=i
 ·subst h
  rw [if_pos rfl,if_pos (by simpa [qZ] using hj)];simp [qZ,hj]
 ·rw [if_neg h]
  by_cases hi:i<12
  ·simp only [qZ,List.getElem?_toArray,gZ,List.getElem?_range hi,Option.map_some]
   by_cases h2:j≤i
   ·rw [if_pos h2,if_pos (by omega)]
   ·rw [if_neg h2,if_neg (by omega)]
  ·simp [qZ,hi]
theorem ayk (x:En) (tb ha:Nat) (ns:List Nd):qZ (bM tb ha::cd x ns) 0=GA x tb ha ns:=by
 unfold qZ GA;simp
theorem ayl (x:En) (ns:List Nd) (tb ha:Nat):∃ b:Nat→Nat,∀ i,i<12→gU (cw i (bM tb ha::cd x ns))=au (b i):=by
 refine ⟨fun i=>match cw i (bM tb ha::cd x ns) with|some m=>m.blk|none=>0,fun i hi=> ?_⟩;obtain ⟨m,hm⟩:=WC hi tb ha (cd x ns);simp only [hm];rfl
theorem agJ {L:List Nd} {b:Nat→Nat} (h:∀ i,i<12→gU (cw i L)=au (b i)):qZ L 0=#[au (b 0),au (b 1),au (b 2),au (b 3),au (b 4),au (b 5),au (b 6),au (b 7),au (b 8),au (b 9),au (b 10),au (b 11)]:=by
 have:qZ L 0=#[gU (cw 0 L),gU (cw 1 L),gU (cw 2 L),gU (cw 3 L),gU (cw 4 L),gU (cw 5 L),gU (cw 6 L),gU (cw 7 L),gU (cw 8 L),gU (cw 9 L),gU (cw 10 L),gU (cw 11 L)]:=rfl;rw [this];simp only [h 0 (by decide),h 1 (by decide),h 2 (by decide),h 3 (by decide),h 4 (by decide),h 5 (by decide),h 6 (by decide),h 7 (by decide),h 8 (by decide),h 9 (by decide),h 10 (by decide),h 11 (by decide)]
theorem eO (h:w.heap[b]?=some (.cells arr t f)) (hv:arr[i]?=some v):w.setCell ⟨b,i,none⟩ v=w:=by
 have ea:arr.setIfInBounds i v=arr:=by
  apply Array.ext_getElem?;intro k;rw [Array.getElem?_setIfInBounds];by_cases hk:i=k
  ·subst hk
   rw [if_pos rfl,if_pos (af hv),hv]
  ·rw [if_neg hk]
 have hm:∀ g:Obj→Obj,g (.cells arr t f)= .cells arr t f→w.heap.modify b g=w.heap:=fun g hg=>by
  apply Array.ext_getElem?;intro k;rw [Array.getElem?_modify];by_cases hk:b=k
  ·subst hk;rw [if_pos rfl,h,Option.map_some,hg]
  ·rw [if_neg hk]
 unfold World.setCell;simp only;rw [hm _ (by simp [ea])]
structure Ah (w:World) (L:List Nd) (x:Ev) (j:Nat) (W:World):Prop where
 grow:Below w.heap.size w W
 box:W.heap[w.heap.size]?=some (.cells (bW x) 60 (0,0))
 out:W.heap[w.heap.size+1]?=some (.cells (qZ L j) 288 (0,0))
theorem Ah.step {L:List Nd} {x:Ev} (h:Ah w L x j W) (hg:Grow W W'):Ah w L x j W':=⟨Below.trans h.grow (hg.mono h.grow.size),hg.heap h.box,hg.heap h.out⟩
theorem Ah.store {L:List Nd} {x:Ev} (h:Ah w L x (j+1) W) (hj:j<12):Ah w L x j (W.setCell ⟨w.heap.size+1,j,none⟩ (gU (cw j L))):=by
 refine ⟨h.grow.setCell (p:=⟨w.heap.size+1,j,none⟩) (by simp) _,?_,?_⟩
 ·rw [aP _ _ _ _ (by simp)];exact h.box
 ·rw [Go.Gl.aK h.out,ayj L hj]
theorem dQ.tail {ns:List Nd} (h:dQ N w tb ha ns aU dv ds) {m:Nd} (hm:m∈bM tb ha::ns):w.cell? ⟨m.blk,4,none⟩=some (.slice (some ⟨m.arr,0,none⟩) m.h m.h)∧m.blk<w.heap.size:=by
 rcases bE.1 hm with rfl|hm
 ·have:=h.self
  exact ⟨by simp [World.cell?,this],af this⟩
 ·have:=h.skip.node m hm
  exact ⟨by simp [World.cell?,this],af this⟩
theorem dQ.link {ns:List Nd} (h:dQ N w tb ha ns aU dv ds) {pre r:List Nd} {m:Nd} (e:bM tb ha::ns=pre++m::r) (hk:k<m.h):w.cell? ⟨m.arr,k,none⟩=some (ct k r)∧m.arr<w.heap.size:=
 ⟨PZ (h.skip.iZ.at e) hk,af (h.skip.iZ.at e)⟩
theorem dQ.ay {ns:List Nd} (h:dQ N w tb ha ns aU dv ds) {n:Nd} (hn:n∈ns):
  w.cell? ⟨n.blk,0,none⟩=some (.string n.x.e.key)∧w.cell? ⟨n.blk,1,none⟩=some (.int .u64 n.x.e.seq)∧w.cell? ⟨n.blk,2,none⟩=some (.bool n.x.e.gone)∧w.cell? ⟨n.blk,3,none⟩=some n.x.v:=by
 have:=h.skip.node n hn;simp [World.cell?,this]
theorem aym {x:En} {ns pre r:List Nd} {m:Nd} (tb ha k:Nat) (vk:cn (ns.map (fun n=>n.x.e))) (e:bM tb ha::cd x ns=pre++m::r) (hk:k<m.h):
  (ct k (r++gz x ns)= .pointer none∧cw k (bM tb ha::cd x ns)=some m)∨
  ∃ n∈ns,ct k (r++gz x ns)=au n.blk∧((¬ dU n.x.e x<0∧cw k (bM tb ha::cd x ns)=some m)∨(dU n.x.e x<0∧∃ r1 r2,r=r1++n::r2∧k<n.h)):=by
 have nH:∀ n∈gz x ns,n∈ns:=fun n hn=>by rw [←jO x ns];exact mX _ hn
 rcases agy k r with h|⟨r1,n,r2,h1,h2,h3⟩
 ·have hl:cw k (bM tb ha::cd x ns)=some m:=by rw [e];exact Wy hk h pre
  rw [PX _ h];rcases agz k (gz x ns) with h4|⟨p1,n,p2,h4,h5⟩
  ·exact .inl ⟨h4,hl⟩
  ·have hn:n∈gz x ns:=by rw [h4];simp
   exact .inr ⟨n,nH n hn,h5,.inl ⟨ayc vk n hn,hl⟩⟩
 ·have hn:n∈bM tb ha::cd x ns:=by rw [e,h1];simp
  have mE:n∈cd x ns:=by
   have e2:cd x ns=(pre++m::r).tail:=by rw [←e];rfl
   rw [e2,h1];cases pre with
   |nil=>simp
   |cons a pre=>simp
  exact .inr ⟨n,by rw [←jO x ns];exact jw _ mE,h3 _,.inr ⟨ayb n mE,r1,r2,h1,h2⟩⟩
theorem agK {ns:List Nd} (h:dQ N w tb ha ns aU dv ds) (x:Ev) {xa:Option Addr} {xl xc:Nat} (cN:x.v= .slice xa xl xc):
  Calls Tryz.prog 182 #[au tb,.agg (bW x)] w fun e w'=>e= .returned (.agg (GA x.e tb ha ns))∧Grow w w':=by
 obtain ⟨⟨xk,xs,xg,xd⟩,xv⟩:=x;simp only at cN;subst cN;obtain ⟨w2,hw2⟩:∃ w2,(w.alloc (.cells (bW ⟨⟨xk,xs,xg,xd⟩,.slice xa xl xc⟩) 60)).alloc (.cells #[.pointer none,.pointer none,.pointer none,.pointer none,.pointer none,.pointer none,.pointer none,.pointer none,.pointer none,.pointer none,.pointer none,.pointer none] 288)=w2:=⟨_,rfl⟩
 have hA:Ah w (bM tb ha::cd ⟨xk,xs,xg,xd⟩ ns) ⟨⟨xk,xs,xg,xd⟩,.slice xa xl xc⟩ 12 w2:=by
  rw [←hw2];exact ⟨(ar _ _).trans (ar _ _),(heap_alloc_old _ _ (by simp)).trans (ax _ _),by rw [ayi];have:=ax (w.alloc (.cells (bW ⟨⟨xk,xs,xg,xd⟩,.slice xa xl xc⟩) 60)) (.cells #[.pointer none,.pointer none,.pointer none,.pointer none,.pointer none,.pointer none,.pointer none,.pointer none,.pointer none,.pointer none,.pointer none,.pointer none] 288);simpa using this⟩
 generalize hX:(⟨xk,xs,xg,xd⟩:En)=X at*;generalize hL:bM tb ha::cd X ns=L at*;have H:=ae h;have HA:=ae hA;have HL:=ae hL;clear h hA hL;go_enter Tryz.func182,Tryz.ntmps182
 go_wp2_with fail
 clear hw2
 go_loopw [5,6] (fun av kv wr=>∃ (j:Nat) (pre:List Nd) (m:Nd) (r:List Nd),kv= .int .i64 ((j:Int)-1)∧j≤12∧L=pre++m::r∧av=au m.blk∧j≤m.h∧Ah w L ⟨X,.slice xa xl xc⟩ j wr) (fun _ kv _=>(intOf kv+1).toNat)
 case atStart=>exact ⟨12,[],bM tb ha,cd X ns,rfl,aw _,HL.out.symm,rfl,aw _,HA.out⟩
 case round=>
  obtain ⟨j,pre,m,r,rfl,hj,e,rfl,Bj,hW⟩:=hrel;cases j with
  |zero=>
   obtain ⟨b,hb⟩:=ayl X ns tb ha;rw [HL.out] at hb;have hout:=hW.out;have hg:=hW.grow;rw [agJ hb] at hout;have lo:=af hout;obtain ⟨c0,c1,c2,c3,c4,c5,c6,c7,c8,c9,c10,c11⟩:wr.cell? ⟨w.heap.size+1,0,none⟩=some (au (b 0))∧wr.cell? ⟨w.heap.size+1,1,none⟩=some (au (b 1))∧wr.cell? ⟨w.heap.size+1,2,none⟩=some (au (b 2))∧wr.cell? ⟨w.heap.size+1,3,none⟩=some (au (b 3))∧wr.cell? ⟨w.heap.size+1,4,none⟩=some (au (b 4))∧wr.cell? ⟨w.heap.size+1,5,none⟩=some (au (b 5))∧wr.cell? ⟨w.heap.size+1,6,none⟩=some (au (b 6))∧wr.cell? ⟨w.heap.size+1,7,none⟩=some (au (b 7))∧wr.cell? ⟨w.heap.size+1,8,none⟩=some (au (b 8))∧wr.cell? ⟨w.heap.size+1,9,none⟩=some (au (b 9))∧wr.cell? ⟨w.heap.size+1,10,none⟩=some (au (b 10))∧wr.cell? ⟨w.heap.size+1,11,none⟩=some (au (b 11)):=by simp [World.cell?,hout]
   obtain ⟨s0,s1,s2,s3,s4,s5,s6,s7,s8,s9,yE,CD⟩:wr.setCell ⟨w.heap.size+1,0,none⟩ (au (b 0))=wr∧wr.setCell ⟨w.heap.size+1,1,none⟩ (au (b 1))=wr∧wr.setCell ⟨w.heap.size+1,2,none⟩ (au (b 2))=wr∧wr.setCell ⟨w.heap.size+1,3,none⟩ (au (b 3))=wr∧wr.setCell ⟨w.heap.size+1,4,none⟩ (au (b 4))=wr∧wr.setCell ⟨w.heap.size+1,5,none⟩ (au (b 5))=wr∧wr.setCell ⟨w.heap.size+1,6,none⟩ (au (b 6))=wr∧wr.setCell ⟨w.heap.size+1,7,none⟩ (au (b 7))=wr∧wr.setCell ⟨w.heap.size+1,8,none⟩ (au (b 8))=wr∧wr.setCell ⟨w.heap.size+1,9,none⟩ (au (b 9))=wr∧wr.setCell ⟨w.heap.size+1,10,none⟩ (au (b 10))=wr∧wr.setCell ⟨w.heap.size+1,11,none⟩ (au (b 11))=wr:=⟨eO hout rfl,eO hout rfl,eO hout rfl,eO hout rfl,eO hout rfl,eO hout rfl,eO hout rfl,eO hout rfl,eO hout rfl,eO hout rfl,eO hout rfl,eO hout rfl⟩
   have eY:=bG hout;have ee:GA X tb ha ns=#[au (b 0),au (b 1),au (b 2),au (b 3),au (b 4),au (b 5),au (b 6),au (b 7),au (b 8),au (b 9),au (b 10),au (b 11)]:=by rw [←ayk,HL.out];exact agJ hb
   have bw:=ae (ag ee (ag hg hout));clear ee hg hW hb hout;go_wp2;refine bodyPost_ret (v:= .agg #[au (b 0),au (b 1),au (b 2),au (b 3),au (b 4),au (b 5),au (b 6),au (b 7),au (b 8),au (b 9),au (b 10),au (b 11)]) (by simp [results,Tryz.results182,go_sem,c0,c1,c2,c3,c4,c5,c6,c7,c8,c9,c10,c11]) rfl ⟨by rw [bw.out.1],bw.out.2.1⟩
  |succ j=>
   have FX:(((j+1:Nat):Int)-1)=(j:Int):=by omega
   rw [FX];have Al:(0:Int)≤(j:Int):=by omega
   go_wp2_with fail
   clear FX
   go_loopw [5] (fun av wr=>∃ (pre:List Nd) (m:Nd) (r:List Nd),L=pre++m::r∧av=au m.blk∧j<m.h∧Ah w L ⟨X,.slice xa xl xc⟩ (j+1) wr) (fun av _=>mleft L av)
   case atStart=>exact ⟨pre,m,r,e,rfl,Bj,hW⟩
   clear hW e Bj
   case round=>
   obtain ⟨pre,m,r,e,rfl,Bj,hW⟩:=hrel;have hM:=H.out.grow hW.grow;have hL:=HL.out;have cK:m∈bM tb ha::ns:=by
    have h1:m∈bM tb ha::cd X ns:=by rw [hL,e];simp
    rcases bE.1 h1 with h1|h1
    ·exact h1 ▸ dR ..
    ·exact fk _ (by rw [←jO X ns];exact jw _ h1)
   have e2:bM tb ha::ns=pre++m::(r++gz X ns):=by
    have h1:bM tb ha::ns=(bM tb ha::cd X ns)++gz X ns:=by rw [gG,jO]
    rw [h1,hL,e];simp
   obtain ⟨t4,lm⟩:=hM.tail cK;obtain ⟨tl,la⟩:=hM.link e2 Bj;obtain ⟨t5,lt⟩:wr.cell? ⟨tb,5,none⟩=some (.func (.func 93) #[] #[])∧tb<wr.heap.size:=⟨by have:=hM.self;simp [World.cell?,this],af hM.self⟩
   have aJw:(j:Int)<(m.h:Int):=by omega
   obtain ⟨b0,b1,b2,b3,lb⟩:wr.cell? ⟨w.heap.size,0,none⟩=some (.string X.key)∧wr.cell? ⟨w.heap.size,1,none⟩=some (.int .u64 X.seq)∧wr.cell? ⟨w.heap.size,2,none⟩=some (.bool X.gone)∧wr.cell? ⟨w.heap.size,3,none⟩=some (.slice xa xl xc)∧w.heap.size<wr.heap.size:=by
    have:=hW.box;exact ⟨by simp [World.cell?,this],by simp [World.cell?,this],by simp [World.cell?,this],by simp [World.cell?,this],af this⟩
   rw [←hL] at e;rcases aym tb ha j hM.skip.ord e Bj with ⟨ie,nM⟩|⟨n,hn,ie,hc⟩
   ·rw [ie] at tl
    rw [hL] at e nM;clear ie e2 cK hL;have HW:=ae (ag hM hW);clear hM hW
    go_upto_region 5 with fail
    have aQ:=Grow.cells (w:=wr);refine dz (fun V=>Below wr.heap.size wr V) [24] (by kernel_rfl) (bK fun _ _ _ _ _ h=>h) (by ((repeat (first|exact bS _ _|assumption|refine cz ?_|refine cA ?_|refine cj ?_ ?_ _|refine cy ?_ ?_ _))<;>try (first|omega|(simp<;>omega)))) ?_;simp only [cF]
    repeat ((first|(refine aA (v:= ?_) (by rfl) ?_ ?_;rotate_left;rintro W hW;go_simp;with_reducible rfl)|refine aB (by rfl) ?_);simp only [ai,List.set])
    refine Fw (by rfl) (by ((repeat (first|exact bS _ _|assumption|refine cz ?_|refine cA ?_|refine cj ?_ ?_ _|refine cy ?_ ?_ _))<;>try (first|omega|(simp<;>omega)))) ?_
    try simp only [ai,List.set,aC]
    repeat ((first|(refine aA (v:= ?_) (by rfl) ?_ ?_;rotate_left;rintro W hW;go_simp;with_reducible rfl)|refine aB (by rfl) ?_);simp only [ai,List.set])
    refine bj ?_;obtain ⟨wd,hwd⟩:∃ wd,wr.drew=wd:=⟨_,rfl⟩
    have xe:=HW.out.2.step (az wr);rw [hwd] at xe ⊢;clear hwd aQ t4 lm tl la t5 lt b0 b1 b2 b3 lb;obtain ⟨s0,s1,s2⟩:wd.cell? ⟨w.heap.size+1,j,none⟩=some (.pointer none)∧wd.frozen? ⟨w.heap.size+1,j,none⟩=false∧w.heap.size+1<wd.heap.size:=by
     have h1:=xe.out;exact ⟨by simp [World.cell?,h1,qZ,show j<12 by omega,show ¬ (j+1≤j) by omega],by simp [World.frozen?,h1],af h1⟩
    have ayn:(j:Int)<12:=by omega
    have hend:=xe.store (by omega);rw [nM] at hend;have bw:=ae hend;clear hend xe
    go_wp2_with fail
    go_roundw
    case rel=>exact ⟨j,pre,m,r,rfl,by omega,e,rfl,Nat.le_of_lt Bj,bw.out⟩
    case measure=>simp [intOf]
   ·obtain ⟨d0,d1,d2,d3⟩:=hM.ay hn
    obtain ⟨va,vc,hv⟩:=(hM.skip.vals n hn).1.slice;have ln:=af (hM.skip.node n hn);rw [hv] at d3;rw [ie] at tl;have agL:(L.map Nd.blk).Nodup:=by
     rw [←hL];have h1:cd X ns++gz X ns=ns:=jO X ns;have h2:=hM.skip.Gz;rw [←h1,dD] at h2;refine List.nodup_cons.2 ⟨fun hm=> ?_,(List.nodup_append.1 h2).1⟩;obtain ⟨k,hk,hk2⟩:=aZ.1 hm;have h3:=hM.skip.node k (by rw [←h1];exact jw _ hk);have h4:=hM.self;rw [show k.blk=tb from hk2,h4] at h3;exact absurd (cE (bk h3)).2.1 (by decide)
    rw [hL] at e hc;have HW:=ae (ag hM hW);have Bc:=ae agL;have Hc:=ae hc;have Us:=ae cK;have He2:=ae e2;have Hn:=ae hn;have WE:=ae ie;clear ie e2 cK hL hM hW hv agL hc hn;have Bn:df (ke n.x.e.key X.key) (jk X.seq n.x.e.seq)=dU n.x.e X:=rfl;have fS:=agH n.x.e.key n.x.e.seq n.x.e.gone (.slice va n.x.e.val.length vc) X.key X.seq X.gone (.slice xa xl xc);rw [Bn] at fS;have kh:=ae fS;clear Bn fS;generalize Qf:dU n.x.e X=c at*;obtain ⟨bb,dX⟩:∃ bb,decide (c<0)=bb:=⟨_,rfl⟩
    go_upto_region 5 with fail
    have aQ:=Grow.cells (w:=wr);refine dz (fun V=>Below wr.heap.size wr V) [24] (by kernel_rfl) (bK fun _ _ _ _ _ h=>h) (by ((repeat (first|exact bS _ _|assumption|refine cz ?_|refine cA ?_|refine cj ?_ ?_ _|refine cy ?_ ?_ _))<;>try (first|omega|(simp<;>omega)))) ?_;simp only [cF]
    repeat ((first|(refine aA (v:= ?_) (by rfl) ?_ ?_;rotate_left;rintro W hW;go_simp;with_reducible rfl)|refine aB (by rfl) ?_);simp only [ai,List.set])
    refine bp (by rfl) (by go_simp) (kh.out wr.drew) ?_;rintro e' w3 ⟨rfl,hg3⟩;refine ⟨_,rfl,(az wr).trans hg3,?_⟩
    try simp only [ai,List.set,aC]
    repeat ((first|(refine aA (v:= ?_) (by rfl) ?_ ?_;rotate_left;rintro W hW;go_simp;with_reducible rfl)|refine aB (by rfl) ?_);simp only [ai,List.set])
    refine bj ?_;have hg3':=(az wr).trans hg3;have xe:=HW.out.2.step hg3';clear aQ t4 lm tl la t5 lt b0 b1 b2 b3 lb d0 d1 d2 d3 ln;rcases Hc.out with ⟨hc,nM⟩|⟨hc,r1,r2,hr,hjn⟩
    ·have DA:bb=false:=by rw [←dX];simpa using hc
     clear hc dX;subst DA;obtain ⟨s0,s1,s2⟩:w3.cell? ⟨w.heap.size+1,j,none⟩=some (.pointer none)∧w3.frozen? ⟨w.heap.size+1,j,none⟩=false∧w.heap.size+1<w3.heap.size:=by
      have h1:=xe.out;exact ⟨by simp [World.cell?,h1,qZ,show j<12 by omega,show ¬ (j+1≤j) by omega],by simp [World.frozen?,h1],af h1⟩
     have ayn:(j:Int)<12:=by omega
     have hend:=xe.store (by omega);rw [nM] at hend;have bw:=ae hend;clear hend xe
     go_wp2_with fail
     go_roundw
     case rel=>exact ⟨j,pre,m,r,rfl,by omega,e,rfl,Nat.le_of_lt Bj,bw.out⟩
     case measure=>simp [intOf]
    ·have DA:bb=true:=by rw [←dX];simpa using hc
     clear hc dX;subst DA;have WG:=HW.out.1.grow hg3';obtain ⟨t4,lm⟩:=WG.tail Us.out;obtain ⟨tl,la⟩:=WG.link He2.out Bj;have agM:ct j (r++gz X ns)=au n.blk:=WE.out;rw [agM] at tl;have Hw3:=ae xe;clear xe WG hg3 hg3' agM
     go_wp2_with fail
     go_roundw
     case rel=>exact ⟨pre++m::r1,n,r2,by rw [e,hr];simp,rfl,hjn,Hw3.out⟩
     case measure=>
      rw [Qa Bc.out e,Qa Bc.out (show L=(pre++m::r1)++n::r2 by rw [e,hr];simp)];rw [hr];simp;omega
end Go.Proofs.YtoolkdapflaeeaaGreatDoor
