/- Helpers. -/
import Derived.Lib.AtoiErrMem
import Derived.Test.YtoolkdapflaeeaaGreatDoorW01
set_option maxRecDepth 100000
set_option maxHeartbeats 16000000
namespace Go.Proofs.YtoolkdapflaeeaaGreatDoor
open Go.RowKit Go.Gl Go.aH
theorem aG.slice {B:Nat} {w:World} {v:Value} {l:List UInt8} (h:aG B w v l):∃ a c,v= .slice a l.length c:=by
 have:=Row1.slice h;rw [iL] at this;exact this
theorem aqz {w:World} {a:Option Addr} {l p:List UInt8} {pv:Value} (h:Bv w (.slice a l.length l.length) l) (hp:Bv w pv p) (yY:0<p.length) (hlen:l.length+p.length≤140737488355328):
  ∃ v' w',(Builtin.append_ #[49,49] 49 #[.slice a l.length l.length,pv]).run Tryz.prog w= .ok v' w'∧aG w.heap.size w' v' (l++p)∧Grow w w':=by
 obtain ⟨i,bK,hzz,hsz,cZ⟩:=info_parts Tryz.Mt;have hs':Src Tryz.prog i.size 49 pv p.length (cR p) w:=by rw [hsz];exact hp.src
 have hold:(Builtin.firstCells i.size l.length (.slice a l.length l.length)).run Tryz.prog w.drew= .ok (cR l).toArray w.drew:=by rw [hsz];exact h.src.cellsD
 have hr:=run_append_grow_src w 49 49 49 5 i _ Tryz.underlying49 bK hzz a l.length l.length (cR l) hold pv p.length (cR p) hs' (by omega) (by omega) (by rw [cZ];exact growslice_fits (by omega) (by simpa using hlen));have iK:=grownCap_ge w (l.length+p.length) l.length 5;have hcm:grownCap w (l.length+p.length) l.length 5≤maxLen:=grownCap_le_maxLen w (l.length+p.length) l.length 5 (by unfold maxLen;omega);refine ⟨_,_,hr,?_,⟨rfl,rfl,rfl,by simp,fun k hk=>heap_alloc_old w.drew _ hk⟩⟩;have e:cR l++cR p=cR (l++p):=(ZM l p).symm;refine .inr ⟨w.heap.size,_,_,by rw [iL,List.length_append],ay _,aw w.drew _,by rw [iL,List.length_append];exact iK,?_,hcm,?_⟩
 ·have hz1:(Value.cells (.int .u8 0)).size=1:=rfl
  simp only [Array.size_append,List.size_toArray,size_zeroCells,hz1,List.length_append,iL];omega
 ·simp only [Array.toList_append]
  rw [e];exact List.take_left
def Ext (B:Nat) (w:World) (v:Value) (l:List UInt8):Prop:=aG B w v l∨∃ a,v= .slice a l.length l.length∧Bv w v l
theorem Ext.slice {B:Nat} {w:World} {v:Value} {l:List UInt8} (h:Ext B w v l):∃ a c,v= .slice a l.length c:=by
 rcases h with h|⟨a,h,_⟩
 ·exact h.slice
 ·exact ⟨a,_,h⟩
theorem abj {B:Nat} {w:World} {v:Value} {l:List UInt8} (h:Ext B w v l) (x:UInt8) {n:Int} (hx:n=(x.toNat:Int)) (hB:B≤w.heap.size) (hlen:l.length+1≤140737488355328):
  ∃ v' w',(Builtin.append_ #[49,49] 49 #[v,.slice (some ⟨w.heap.size,0,none⟩) 1 1]).run Tryz.prog (w.alloc (.cells #[.int .u8 n] 5))= .ok v' w'∧aG B w' v' (l++ [x])∧Below B w w':=by
 rcases h with h|⟨a,rfl,h⟩
 ·exact GR h x hx hB hlen
 ·subst hx
  have hb:Bv (w.alloc (.cells #[.int .u8 x.toNat] 5)) (.slice (some ⟨w.heap.size,0,none⟩) 1 1) [x]:=by
   refine ⟨some ⟨w.heap.size,0,none⟩,1,rfl,ay _,by decide,(fun h=>by cases h),.inr ⟨w.heap.size,0,rfl,by simp,fun j k hk=> ?_⟩⟩
   match j,hk with
   |0,hk=>
    cases hk;simp only [World.cell?,aw];rfl
   |j+1,hk=>simp at hk
  have ai:Grow w (w.alloc (.cells #[.int .u8 x.toNat] 5)):=Grow.alloc _ _;obtain ⟨v',w',h1,h2,h3⟩:=aqz (h.grow ai) hb (by simp) (by simpa using hlen);exact ⟨v',w',h1,h2.mono (aN hB ai.size),(ai.trans h3).mono hB⟩
theorem aqA {w:World} {v:Value} {l:List UInt8} (h:Bv w v l):Calls Tryz.prog 126 #[v] w fun e w'=>∃ a,e= .returned (.slice a l.length l.length)∧Bv w (.slice a l.length l.length) l∧w'=w:=by
 obtain ⟨a,c,rfl,h1,h2,h3,h4⟩:=h;have hb:Bv w (.slice a l.length l.length) l:=⟨a,l.length,rfl,ay _,aN h1 h2,fun e=>by have:=h3 e;omega,h4⟩
 have Hb:=ae hb;cases a with
 |none=>
  have:=h3 rfl;have hl:l= []:=jb (by omega);subst this hl;clear h1 h2 h3 h4 hb;go_enter Tryz.func126,Tryz.ntmps126;go_wp2;go_ret;exact ⟨none,rfl,Hb.out,rfl⟩
 |some x=>
  clear h2 h3 h4 hb;go_enter Tryz.func126,Tryz.ntmps126;go_wp2;go_ret;exact ⟨_,rfl,Hb.out,rfl⟩
def SQ (w:World) (l:List UInt8) (n:Nat) (bv vv:Value) (wr:World):Prop:=
 ∃ (pre:List UInt8) (m k:Nat),vv= .int .u64 m∧Ext w.heap.size wr bv (l++pre)∧m<128^(k+1)∧pre.length+(k+1)=10∧aA n=pre++gB (k+1) m∧m<18446744073709551616∧Grow w wr
theorem nd {w:World} {bv:Value} {l:List UInt8} (h:Bv w bv l) (hl:l.length≤1000000000000) {n:Nat} (hn:n<18446744073709551616):
  Calls Tryz.prog 81 #[bv,.int .u64 n] w fun e w'=>∃ v,e= .returned v∧aG w.heap.size w' v (l++aA n)∧Grow w w':=by
 have Hc:=ae (aqA h);obtain ⟨xa,xc,rfl⟩:=h.slice;clear h;go_enter Tryz.func81,Tryz.ntmps81
 go_wp2_with fail
 (with_reducible refine Hc.out.mono ?_);rintro e w1 ⟨ca,rfl,mV,bS⟩;have hw2:=bS.symm;subst hw2;clear bS Hc;have bI:Hid (SQ w l n (.slice ca l.length l.length) (.int .u64 n) w):=ae ⟨[],n,9,rfl,.inr ⟨ca,by simp,by simpa using mV⟩,by omega,rfl,rfl,hn,Grow.refl _⟩;clear mV
 go_wp2_with fail
 go_loopw [0,1] (fun bv vv wr=>SQ w l n bv vv wr) (fun _ vv _=>(intOf vv).toNat)
 case atStart=>exact bI.out
 case round=>
  obtain ⟨pre,m,k,rfl,hown,hm,hk,ie,ZQ,hg⟩:=hrel;have ej:=hg.size;have ml:(l++pre).length+1≤140737488355328:=by simp;omega
  obtain ⟨ba,bc,rfl⟩:=hown.slice;by_cases hlt:128≤m
  ·have iK:decide ((128:Int)≤(m:Int))=true:=by simp;omega
   have kR:0<k:=by
    rcases Nat.eq_zero_or_pos k with rfl|h1
    ·simp at hm;omega
    ·exact h1
   obtain ⟨k',rfl⟩:∃ k',k=k'+1:=⟨k-1,by omega⟩
   obtain ⟨v',w',h1,h2,h3⟩:=abj hown (UInt8.ofNat (m%128+128)) (ZO m) ej ml;have dC:=ae h1;have hrel:SQ w l n v' (.int .u64 ((m:Int) / 128)) w':=by
    refine ⟨pre++ [UInt8.ofNat (m%128+128)],m / 128,k',by simp,.inl (by rw [←List.append_assoc];exact h2),?_,by simp;omega,?_,by omega,Below.trans hg h3⟩
    ·rw [Nat.pow_succ] at hm;exact Nat.div_lt_of_lt_mul (by rw [Nat.mul_comm];exact hm)
    ·rw [ie,gB,if_neg (by omega)];simp
   have bq:=ae hrel;clear h1 h2 h3 hrel hown ie hm hk hg ej ml
   go_wp2_with (at_builtin;refine fC rfl rfl rfl rfl dC.out ?_)
   go_roundw
   case rel=>exact bq.out
   case measure=>simp [intOf];omega
  ·have iK:decide ((128:Int)≤(m:Int))=false:=by simp;omega
   have hx:(m:Int)=(((UInt8.ofNat m).toNat:Nat):Int):=by rw [UInt8.toNat_ofNat_of_lt' (by simp [UInt8.size];omega)]
   obtain ⟨v',w',h1,h2,h3⟩:=abj hown (UInt8.ofNat m) hx ej ml;have dC:=ae h1;have jd:aG w.heap.size w' v' (l++aA n):=by
    rw [ie,gB,if_pos (by omega),←List.append_assoc];exact h2
   have fK:=ae jd;have Hg:=ae (Below.trans hg h3);clear h1 h2 h3 hown ie hm hk hg jd hx ej ml
   go_wp2_with (at_builtin;refine fC rfl rfl rfl rfl dC.out ?_)
   go_ret;exact ⟨_,rfl,fK.out,Hg.out⟩
def aU (x:List UInt8):List UInt8:=aA x.length++x
theorem aqB {w:World} {qb:Nat} {pv:Value} {x:List UInt8} (hq:w.heap[qb]?=some (.cells #[pv] 49 (0,0))) (hx:Bv w pv x) (hl:x.length≤1000000000000):
  Calls Tryz.prog 127 #[.slice (some ⟨qb,0,none⟩) 1 1] w fun e w'=>e= .returned (.int .i64 x.length)∧w'=w:=by
 have c0:w.cell? ⟨qb,0,none⟩=some pv:=by simp [World.cell?,hq]
 have lq:=af hq;obtain ⟨xa,xc,rfl⟩:=hx.slice;have hw:IntKind.i64.wrap (0+(x.length:Int))=(x.length:Int):=by rw [Int.zero_add];exact aR _ (by omega)
 have bS:IntKind.i64.wrap (x.length:Int)=(x.length:Int):=aR _ (by omega);clear hx hq;go_enter Tryz.func127,Tryz.ntmps127
 go_wp2_with fail
 refine wp_loop_rounds 2 ?_;rw [rounds_succ];go_wp2;rw [rounds_succ];go_wp2;go_ret;exact ⟨rfl,rfl⟩
theorem BG {w:World} {bv:Value} {l:List UInt8} (h:Bv w bv l) (hl:l.length≤900000000000) {qb:Nat} {pv:Value} {x:List UInt8} (hq:w.heap[qb]?=some (.cells #[pv] 49 (0,0))) (hx:Bv w pv x) (ic:x.length≤10000000000):
  Calls Tryz.prog 82 #[bv,.slice (some ⟨qb,0,none⟩) 1 1] w fun e w'=>∃ v,e= .returned v∧aG w.heap.size w' v (l++aU x)∧Grow w w':=by
 have Hs:=ae (aqB hq hx (by omega));have Hn:=ae (nd h (by omega) (n:=x.length) (by omega));obtain ⟨ba,bc,rfl⟩:=h.slice;have Hq:=ae hq;have Hx:=ae hx;have hwu:IntKind.u64.wrap (x.length:Int)=(x.length:Int):=by simp [IntKind.wrap,IntKind.bits,IntKind.signed];omega
 clear h hq hx;go_enter Tryz.func82,Tryz.ntmps82
 go_wp2_with fail
 (with_reducible refine Hs.out.mono ?_);rintro e w1 ⟨rfl,bS⟩;have hw2:=bS.symm;subst hw2;clear bS Hs
 go_wp2_with fail
 (with_reducible refine Hn.out.mono ?_);rintro e w2 ⟨nv,rfl,eU,hb2⟩;have jg:=hb2.heap Hq.out;have hx2:=Hx.out.grow hb2;obtain ⟨v',w',h1,h2,h3,_⟩:=qh eU hx2 hb2.size (by have:=GP 10 x.length;simp;unfold aA;omega);have dC:=ae h1;have jd:aG w.heap.size w' v' (l++aU x):=by unfold aU;rw [←List.append_assoc];exact h2
 have fK:=ae jd;have Hg:=ae (below_grown hb2 hb2.size eU h3);clear jd h2 h3;generalize l++aA x.length=y at*;have c0:w2.cell? ⟨qb,0,none⟩=some pv:=by simp [World.cell?,jg]
 have lq:=af jg;obtain ⟨na,nc,rfl⟩:=eU.slice;obtain ⟨xa,xc,rfl⟩:=hx2.slice;clear h1 eU hx2 jg Hn Hq Hx hb2
 go_wp2_with fail
 refine wp_loop_rounds 2 ?_;rw [rounds_succ]
 go_wp2_with (at_builtin;refine fC rfl rfl rfl rfl dC.out ?_)
 rw [rounds_succ];go_wp2;go_ret;exact ⟨_,rfl,fK.out,Hg.out⟩
theorem wN {w:World} {v:Value} {l:List UInt8} (h:Bv w v l):(convert 49 9 v).run Tryz.prog w= .ok (.string ⟨l.toArray⟩) w:=by
 obtain ⟨a,c,rfl,_,_,_,h⟩:=h;by_cases h0:l= []
 ·subst h0
  rw [List.length_nil,run_convert_bytes_string w 49 9 5 a 0 c Tryz.underlying49 Tryz.underlying5 Tryz.underlying9];cases a<;>simp [Conv.bytesToString,loadCells,loadCellsFrom]<;>rfl
 ·rcases h with h|⟨b,o,rfl,hb,hc⟩
  ·exact absurd h h0
  ·exact anp Tryz.underlying49 Tryz.underlying5 Tryz.underlying9 (.inr ⟨b,o,c,rfl,hb,hc⟩)
theorem yZ (s:ByteArray) (hs:s.size≤140737488355328) (w:World):∃ cap w',(convert 9 49 (.string s)).run Tryz.prog w= .ok (.slice (some ⟨w.heap.size,0,none⟩) s.size cap) w'∧Bv w' (.slice (some ⟨w.heap.size,0,none⟩) s.size cap) s.data.toList∧Grow w w':=by
 have hr:=Lib.run_convert_string_bytes (P:=Tryz.prog) w 9 49 5 s Tryz.underlying9 Tryz.underlying49 Tryz.underlying5;have iK:=grownCap_ge w s.size 0 5;have kY:grownCap w s.size 0 5≤maxLen:=grownCap_le_maxLen w s.size 0 5 (by unfold maxLen;omega);have hgrow:=Lib.bytesWorld_below w 5 s;have hblk:(Lib.bytesWorld w 5 s).heap[w.heap.size]?=some (.cells (Lib.bytesCells w 5 s) 5 ((Lib.bytesCells w 5 s).size,(Lib.bytesCells w 5 s).size+1)):=by
  simp [Lib.bytesWorld,World.freeze,World.alloc,World.drew,-World.alloc_eq,-World.drew_eq,Array.getElem_modify]
 have mo:s.data.toList.length=s.size:=by rw [Array.length_toList];rfl
 have cC:(Lib.bytesCells w 5 s).toList.take s.size=cR s.data.toList:=by
  unfold Lib.bytesCells;rw [Array.toList_append,Array.toList_map];have hl:(s.data.toList.map fun b=>Value.int .u8 b.toNat).length=s.size:=by rw [List.length_map,Array.length_toList];rfl
  rw [←hl,List.take_left];rfl
 refine ⟨_,_,hr,?_,hgrow⟩;refine ⟨some ⟨w.heap.size,0,none⟩,_,by rw [mo],by rw [mo];exact iK,kY,(fun h=>by cases h),.inr ⟨w.heap.size,0,rfl,af hblk,fun j k hk=> ?_⟩⟩;have h1:(cR s.data.toList)[j]?=some (.int .u8 k.toNat):=by simp [cR,hk]
 rw [←cC,List.getElem?_take] at h1
 split at h1
 ·simp only [World.cell?,hblk]
  simpa using h1
 ·cases h1
end Go.Proofs.YtoolkdapflaeeaaGreatDoor
