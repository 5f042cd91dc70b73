/- Helpers. -/
import Derived.Test.YtoolkdapflaeeaaGreatDoorW0F
import Derived.Test.YtoolkdapflaeeaaGreatDoorW0C
import Derived.Test.YtoolkdapflaeeaaGreatDoorW05
import Derived.Test.YtoolkdapflaeeaaGreatDoorW09
import Derived.Test.YtoolkdapflaeeaaGreatDoorW0D
set_option maxRecDepth 100000
set_option maxHeartbeats 16000000
namespace Go.Proofs.YtoolkdapflaeeaaGreatDoor
open Go.RowKit Go.Gl Go.aH Mn
theorem levels (x:En) (ns:List Nd) (tb ha:Nat):∃ bf:Nat→Nd,(∀ k,k<12→bW k (bC tb ha::bR x ns)=some (bf k))∧EZ x tb ha ns=#[au (bf 0).blk,au (bf 1).blk,au (bf 2).blk,au (bf 3).blk,au (bf 4).blk,au (bf 5).blk,au (bf 6).blk,au (bf 7).blk,au (bf 8).blk,au (bf 9).blk,au (bf 10).blk,au (bf 11).blk]:=by
 refine ⟨fun k=>(bW k (bC tb ha::bR x ns)).getD (bC tb ha),fun k hk=> ?_,?_⟩
 ·obtain ⟨m,hm⟩:=UK hk tb ha (bR x ns)
  simp only [hm,Option.getD_some]
 ·have h:∀ k,k<12→fO (bW k (bC tb ha::bR x ns))=au ((bW k (bC tb ha::bR x ns)).getD (bC tb ha)).blk:=fun k hk=>by
   obtain ⟨m,hm⟩:=UK hk tb ha (bR x ns);rw [hm];rfl
  have e:EZ x tb ha ns=#[fO (bW 0 (bC tb ha::bR x ns)),fO (bW 1 (bC tb ha::bR x ns)),fO (bW 2 (bC tb ha::bR x ns)),fO (bW 3 (bC tb ha::bR x ns)),fO (bW 4 (bC tb ha::bR x ns)),fO (bW 5 (bC tb ha::bR x ns)),fO (bW 6 (bC tb ha::bR x ns)),fO (bW 7 (bC tb ha::bR x ns)),fO (bW 8 (bC tb ha::bR x ns)),fO (bW 9 (bC tb ha::bR x ns)),fO (bW 10 (bC tb ha::bR x ns)),fO (bW 11 (bC tb ha::bR x ns))]:=rfl;rw [e];simp only [h 0 (by decide),h 1 (by decide),h 2 (by decide),h 3 (by decide),h 4 (by decide),h 5 (by decide),h 6 (by decide),h 7 (by decide),h 8 (by decide),h 9 (by decide),h 10 (by decide),h 11 (by decide)]
theorem last_zero:∀ {L:List Nd},L≠ []→(∀ n∈L,1≤n.h)→∃ pre m,L=pre++ [m]∧bW 0 L=some m:=fun {L} hne hh=>by
 have e:L=L.dropLast++ [L.getLast hne]:=(List.dropLast_concat_getLast hne).symm;refine ⟨L.dropLast,L.getLast hne,e,?_⟩;have h1:=hh _ (List.getLast_mem hne);have h2:=UF (k:=0) (n:=L.getLast hne) (r:= []) (by omega) rfl L.dropLast;rwa [←e] at h2
structure Pb (w:World) (x:Ev) (bf:Nat→Nd) (g:Nat) (W:World):Prop where
 grow:Grow w W
 hg:w.heap.size+2≤g
 box:W.heap[w.heap.size]?=some (.cells (bQ x) 60 (0,0))
 res:W.heap[w.heap.size+1]?=some (.cells #[.string ⟨#[]⟩,.int .u64 0,.bool false,.slice none 0 0] 60 (0,0))
 arr:W.heap[g]?=some (.cells #[au (bf 0).blk,au (bf 1).blk,au (bf 2).blk,au (bf 3).blk,au (bf 4).blk,au (bf 5).blk,au (bf 6).blk,au (bf 7).blk,au (bf 8).blk,au (bf 9).blk,au (bf 10).blk,au (bf 11).blk] 288 (0,0))
theorem Pb.step {w W W':World} {x:Ev} {bf:Nat→Nd} {g:Nat} (h:Pb w x bf g W) (hg:Grow W W'):Pb w x bf g W':=⟨h.grow.trans hg,h.hg,hg.heap h.box,hg.heap h.res,hg.heap h.arr⟩
theorem avo {P:Program} {c:Code} {Q:Exit→Act→World→Prop} {a:Act} {w:World} (R:World→Prop) (hr:R w) (h:∀ W,R W→c.wp P Q a W):c.wp P Q a w:=h w hr
theorem avp {w w2 w3:World} {x:Ev} (bf:Nat→Nd) (h2:Grow w w2) (hb:w2.heap[w.heap.size]?=some (.cells (bQ x) 60 (0,0)))
  (hr:w2.heap[w.heap.size+1]?=some (.cells #[.string ⟨#[]⟩,.int .u64 0,.bool false,.slice none 0 0] 60 (0,0))) (h3:Grow w2 w3):
  Pb w x bf w3.heap.size (w3.alloc (.cells #[au (bf 0).blk,au (bf 1).blk,au (bf 2).blk,au (bf 3).blk,au (bf 4).blk,au (bf 5).blk,au (bf 6).blk,au (bf 7).blk,au (bf 8).blk,au (bf 9).blk,au (bf 10).blk,au (bf 11).blk] 288)):=by
 have hg:=Grow.alloc w3 (.cells #[au (bf 0).blk,au (bf 1).blk,au (bf 2).blk,au (bf 3).blk,au (bf 4).blk,au (bf 5).blk,au (bf 6).blk,au (bf 7).blk,au (bf 8).blk,au (bf 9).blk,au (bf 10).blk,au (bf 11).blk] 288);have h8:=h3.size;have h9:=af hr;exact ⟨h2.trans (h3.trans hg),by omega,hg.heap (h3.heap hb),hg.heap (h3.heap hr),aw w3 _⟩
end Go.Proofs.YtoolkdapflaeeaaGreatDoor
namespace Go.Proofs.YtoolkdapflaeeaaGreatDoor
open Go.RowKit Go.Gl Go.aH Mn
abbrev iG (w:World) (b:Nat) (v0 v1 v2 v3:Value):World:=(((w.setCell ⟨b,0,none⟩ v0).setCell ⟨b,1,none⟩ v1).setCell ⟨b,2,none⟩ v2).setCell ⟨b,3,none⟩ v3
section
variable {w:World} {b:Nat} {a0 a1 a2 a3 a4 v0 v1 v2 v3:Value} {t:TypeId} {f:Nat×Nat}
theorem zV (h:w.heap[b]?=some (.cells #[a0,a1,a2,a3] t f)):(iG w b v0 v1 v2 v3).heap[b]?=some (.cells #[v0,v1,v2,v3] t f):=by
 have h1:=Go.Gl.aI h 0 v0;have h2:=Go.Gl.aI h1 1 v1;have h3:=Go.Gl.aI h2 2 v2;have h4:=Go.Gl.aI h3 3 v3;simpa only [List.setIfInBounds_toArray,List.set_cons_zero,List.set_cons_succ] using h4
theorem avq (h:w.heap[b]?=some (.cells #[a0,a1,a2,a3,a4] t f)):(iG w b v0 v1 v2 v3).heap[b]?=some (.cells #[v0,v1,v2,v3,a4] t f):=by
 have h1:=Go.Gl.aI h 0 v0;have h2:=Go.Gl.aI h1 1 v1;have h3:=Go.Gl.aI h2 2 v2;have h4:=Go.Gl.aI h3 3 v3;simpa only [List.setIfInBounds_toArray,List.set_cons_zero,List.set_cons_succ] using h4
theorem qR {k:Nat} (h:k≠b) (v0 v1 v2 v3:Value):(iG w b v0 v1 v2 v3).heap[k]?=w.heap[k]?:=
 (aK _ _ _ _ h).trans ((aK _ _ _ _ h).trans ((aK _ _ _ _ h).trans (aK _ _ _ _ h)))
theorem avr {F:Nat→Prop} (hb:F b) (v0 v1 v2 v3:Value):Sep F w (iG w b v0 v1 v2 v3) F:=
 ⟨rfl,rfl,rfl,by simp,fun k _ hn=>qR (fun e=>hn (by rw [e];exact hb)) _ _ _ _,fun k hk=> .inl hk⟩
end
theorem Sep.mono {F G F':Nat→Prop} {w w':World} (h:Sep F w w' F') (hG:∀ b,F b→G b):Sep G w w' F':=
 ⟨h.os,h.tape,h.output,h.size,fun b hb hn=>h.out b hb (fun hf=>hn (hG b hf)),fun b hb=>(h.foot b hb).imp (hG b) id⟩
theorem Sep.tgt {F F' G':Nat→Prop} {w w':World} (h:Sep F w w' F') (hG:∀ b,G' b→F b∨w.heap.size≤b):Sep F w w' G':=
 ⟨h.os,h.tape,h.output,h.size,h.out,hG⟩
theorem Sep.xw {F F':Nat→Prop} {w wr:World} (h:Sep F w wr F') {b:Nat} (hb:w.heap.size≤b) (j:Nat) (v:Value):Sep F w (wr.setCell ⟨b,j,none⟩ v) F':=
 ⟨h.os,h.tape,h.output,by simpa using h.size,fun k hk hn=>(aK _ _ _ _ (fun e=>by have e':k=b:=e;omega)).trans (h.out k hk hn),h.foot⟩
theorem Sep.aeF {F F':Nat→Prop} {w wr:World} (h:Sep F w wr F') {b:Nat} (hb:w.heap.size≤b) (v0 v1 v2 v3:Value):Sep F w (iG wr b v0 v1 v2 v3) F':=(((h.xw hb 0 v0).xw hb 1 v1).xw hb 2 v2).xw hb 3 v3
theorem Sep.avs {F F':Nat→Prop} {w wr:World} (h:Sep F w wr F') {b:Nat} (hb:F' b) (v0 v1 v2 v3:Value):Sep F w (iG wr b v0 v1 v2 v3) F':=h.trans (avr hb v0 v1 v2 v3)
theorem Sep.drew {F F':Nat→Prop} {w wr:World} (h:Sep F w wr F'):Sep F w wr.drew F':=h.trans (Sep.bF (Grow.drew wr))
theorem heap_drew {W:World} {b:Nat} {o:Option Obj} (h:W.heap[b]?=o):W.drew.heap[b]?=o:=h
structure oC (N:Nat→Prop) (w:World) (tb ha:Nat) (ns:List Nd) (dv:Value) (x:Ev) (bE:List Nd) (dH:Nat) (w':World):Prop where
 list:bE.map (fun n=>n.x.e)=jt x.e (ns.map (fun n=>n.x.e))
 self:w'.heap[tb]?=some (.cells (Oo ha dH bE.length dv (costs (ns.map (fun n=>n.x.e)))) 181 (0,0))
 aM:dH≤12
 skip:jw N w' tb ha bE
 sep:Sep (FM tb ha ns) w w' (FM tb ha bE)
structure Ps (w8:World) (L hi:List Nd) (nw:Nd) (K:Nat) (W:World):Prop where
 gZ:dW W (pN K nw hi) L
 nt:W.heap[nw.arr]?=some (.cells ((List.range nw.h).map (fun k=>if k<K then bV k hi else .pointer none)).toArray 287 (0,0))
 sep:Sep (fun b=>b=nw.arr∨∃ n∈L,b=n.arr) w8 W (fun b=>b=nw.arr∨∃ n∈L,b=n.arr)
theorem aeG (k:Nat):∀ l:List Nd,∃ q,bV k l= .pointer q
 | []=>⟨none,rfl⟩
 |n::r=>by
  unfold bV;split
  ·exact ⟨_,rfl⟩
  ·exact aeG k r
theorem Ps.drew {w8 W:World} {L hi:List Nd} {nw:Nd} {K:Nat} (h:Ps w8 L hi nw K W):Ps w8 L hi nw K W.drew:=⟨h.gZ.keep (fun _ _=>rfl),h.nt,h.sep.trans (Sep.bF (Grow.drew W))⟩
theorem Ps.step {w8 W:World} {L hi:List Nd} {nw m:Nd} {K:Nat} (h:Ps w8 L hi nw K W) (hK:K<nw.h) (hn:(L.map Nd.arr).Nodup) (dV:∀ n∈L,n.arr≠nw.arr) (hm:bW K L=some m):
  W.cell? ⟨m.arr,K,none⟩=some (bV K hi)∧W.cell? ⟨nw.arr,K,none⟩=some (.pointer none)∧Ps w8 L hi nw (K+1) ((W.setCell ⟨nw.arr,K,none⟩ (bV K hi)).setCell ⟨m.arr,K,none⟩ (au nw.blk)):=by
 obtain ⟨h1,h2⟩:=UG hK hn h.gZ;have nG:=(Og hm).1;refine ⟨(h1 m hm).1,by rw [Oh h.nt hK];simp,?_,?_,?_⟩
 ·have ht:dW (W.setCell ⟨nw.arr,K,none⟩ (bV K hi)) (pN K nw hi) L:=h.gZ.keep (fun n rF=>aK _ _ _ _ (dV n rF))
  exact ((UG hK hn ht).1 m hm).2
 ·rw [aK _ _ _ _ (show nw.arr≠m.arr from fun e=>dV m nG e.symm),Go.Gl.aI h.nt]
  congr 2;apply Array.ext_getElem?;intro k;rw [Array.getElem?_setIfInBounds];by_cases JO:K=k
  ·subst JO
   simp [hK]
  ·rw [if_neg JO]
   by_cases ju:k<nw.h
   ·simp only [List.getElem?_toArray,List.getElem?_map,List.getElem?_range ju,Option.map_some]
    rcases Nat.lt_trichotomy k K with h3|h3|h3
    ·rw [if_pos h3,if_pos (by omega)]
    ·omega
    ·rw [if_neg (by omega),if_neg (by omega)]
   ·simp [ju]
 ·refine ⟨h.sep.os,h.sep.tape,h.sep.output,by simpa using h.sep.size,fun b hb dw=> ?_,fun b hb=> .inl hb⟩
  rw [aK _ _ _ _ (show b≠m.arr from fun e=>dw (.inr ⟨m,nG,e⟩)),aK _ _ _ _ (show b≠nw.arr from fun e=>dw (.inl e))];exact h.sep.out b hb dw
theorem Tryz.avt:(Tryz.prog.info? 287).map (fun i=>(i.zero,i.size,i.bytes))=some (some (.pointer none),1,8):=by kernel_rfl
theorem aeH {k:Nat} (hk:k≤12) (w:World):(Instr.makeSlice 174 (.int .i64 (k:Int)) (.int .i64 (k:Int))).run Tryz.prog w= .ok (.slice (some ⟨w.heap.size,0,none⟩) k k) (w.alloc (.cells ((List.range k).map (fun _=>(.pointer none:Value))).toArray 287)):=by
 obtain ⟨i,bK,hzz,hsz,cZ⟩:=info_parts Tryz.avt;have h:=run_makeSlice (w:=w) 174 287 i (.pointer none) Tryz.underlying174 bK hzz .i64 .i64 (k:Int) (k:Int) (by omega) (Int.le_refl _) (by rw [hsz];simp;omega) (by rw [cZ];omega) (by omega);have e:madeCells (Value.pointer none).cells ((k:Int).toNat*i.size)=((List.range k).map (fun _=>(.pointer none:Value))).toArray:=by
  rw [hsz];apply Array.ext
  ·simp [madeCells]
  ·intro j h1 h2
   simp [madeCells,Value.cells,Nat.mod_one]
 rw [e] at h;exact h
end Go.Proofs.YtoolkdapflaeeaaGreatDoor
namespace Go.Proofs.YtoolkdapflaeeaaGreatDoor
open Go.RowKit Go.Gl Go.aH Mn
theorem tW {n:Nat} (h:n<18446744073709551616):IntKind.u64.wrap (n:Int)=(n:Int):=by simp [IntKind.wrap,IntKind.bits,IntKind.signed];omega
def lY (k:List UInt8) (m j:Nat):Nat:=(dB aq k+j*dB aq (k++ [1]))%m
theorem aeI {w:World} {b:Nat} {pv:Value} {x:List UInt8} (h:w.heap[b]?=some (.cells #[pv] 49 (0,0))) (hx:Bv w pv x):Rv w (.slice (some ⟨b,0,none⟩) 1 1) [x]:=by
 refine ⟨_,_,rfl,.inr ⟨b,0,rfl,af h,fun j p hp=> ?_⟩⟩;cases j with
 |zero=>cases hp;exact ⟨pv,by simp [World.cell?,h],hx⟩
 |succ j=>simp at hp
theorem aeJ {w:World} {b:Nat} {x:UInt8} {f:Nat×Nat} (h:w.heap[b]?=some (.cells #[.int .u8 x.toNat] 5 f)):Bv w (.slice (some ⟨b,0,none⟩) 1 1) [x]:=by
 refine ⟨_,_,rfl,ay _,by decide,(fun h=>by cases h),.inr ⟨b,0,rfl,af h,fun j k hk=> ?_⟩⟩;cases j with
 |zero=>cases hk;simp [World.cell?,h]
 |succ j=>simp at hk
theorem avu {w:World} {b:Nat} {pv qv:Value} {x y:List UInt8} (h:w.heap[b]?=some (.cells #[pv,qv] 49 (0,0))) (hx:Bv w pv x) (hy:Bv w qv y):Rv w (.slice (some ⟨b,0,none⟩) 2 2) [x,y]:=by
 refine ⟨_,_,rfl,.inr ⟨b,0,rfl,af h,fun j p hp=> ?_⟩⟩
 match j with
 |0=>cases hp;exact ⟨pv,by simp [World.cell?,h],hx⟩
 |1=>cases hp;exact ⟨qv,by simp [World.cell?,h],hy⟩
 |j+2=>simp at hp
theorem Ou {a b j:Nat} (ha:a<4294967296) (hb:b<4294967296) (hj:j<4):IntKind.u64.wrap ((j:Int)*(b:Int))=((j*b:Nat):Int)∧IntKind.u64.wrap ((a:Int)+((j*b:Nat):Int))=((a+j*b:Nat):Int):=by
 have h1:j*b≤3*b:=Nat.mul_le_mul_right _ (by omega);constructor
 ·rw [←Int.natCast_mul]
  simp [IntKind.wrap,IntKind.bits,IntKind.signed,-Int.natCast_mul];omega
 ·rw [←Int.natCast_add]
  generalize j*b=z at*;simp [IntKind.wrap,IntKind.bits,IntKind.signed];omega
theorem avv (key:ByteArray) (hk:key.size≤100000000) {m:Nat} (hm:0<m) (ZQ:m<18446744073709551616) (w:World):
  Calls Tryz.prog 200 #[.string key,.int .u64 m] w fun e w'=>e= .returned (.agg #[.int .u64 (lY key.data.toList m 0:Nat),.int .u64 (lY key.data.toList m 1:Nat),.int .u64 (lY key.data.toList m 2:Nat),.int .u64 (lY key.data.toList m 3:Nat)])∧Grow w w':=by
 have ha0:=aw w (.cells #[.int .u64 0,.int .u64 0,.int .u64 0,.int .u64 0] 310);have ai:=Grow.alloc w (.cells #[.int .u64 0,.int .u64 0,.int .u64 0,.int .u64 0] 310);have hsz:key.data.toList.length=key.size:=by rw [Array.length_toList];rfl
 have Ha:=ae (ah ha0 ai);clear ha0 ai;go_enter Tryz.func200,Tryz.ntmps200
 go_upto_region 1 with fail
 generalize w.alloc (.cells #[.int .u64 0,.int .u64 0,.int .u64 0,.int .u64 0] 310)=wa at*;obtain ⟨tX,w1,hc1,hb1,hg1⟩:=yZ key (by omega) wa;have hg2:=Grow.alloc w1 (.cells #[.slice (some ⟨wa.heap.size,0,none⟩) key.size tX] 49);have jk:=aw w1 (.cells #[.slice (some ⟨wa.heap.size,0,none⟩) key.size tX] 49);have hs1:=aej (aeI jk (hb1.grow hg2)) (by simp);have zo:=ae hs1;have jT:=ae (hg1.trans hg2);clear jk hb1 hg1 hg2 hs1
 go_wp2_with fail
 (with_reducible refine zo.out.mono ?_);rintro e w2 ⟨rfl,hg3⟩;rw [show ([key.data.toList]:List (List UInt8)).flatten=key.data.toList by simp];obtain ⟨Fg,w3,hc3,hb3,hg4⟩:=yZ key (by omega) w2;have aO:=Grow.alloc w3 (.cells #[.int .u8 1] 5);have hn5:=aw w3 (.cells #[.int .u8 1] 5);have Fh:=(aeJ (x:=1) (by simpa using hn5):Bv (w3.alloc (.cells #[.int .u8 1] 5)) (.slice (some ⟨w3.heap.size,0,none⟩) 1 1) [1])
 have su:=hb3.grow aO;obtain ⟨w5,oq⟩:∃ W,w3.alloc (.cells #[.int .u8 1] 5)=W:=⟨_,rfl⟩
 rw [oq] at aO Fh su;have cM:=Grow.alloc w5 (.cells #[.slice (some ⟨w2.heap.size,0,none⟩) key.size Fg,.slice (some ⟨w3.heap.size,0,none⟩) 1 1] 49);have xx:=aw w5 (.cells #[.slice (some ⟨w2.heap.size,0,none⟩) key.size Fg,.slice (some ⟨w3.heap.size,0,none⟩) 1 1] 49);have hs2:=aej (avu xx (su.grow cM) (Fh.grow cM)) (by simp);have oZ:=ae hs2;have JS:=ae (jT.out.trans (hg3.trans (hg4.trans (aO.trans cM))));have IB:=oq;clear xx hb3 hg3 hg4 aO cM hs2 hn5 Fh su
 go_wp2_with fail
 (with_reducible refine oZ.out.mono ?_);rintro e w7 ⟨rfl,cF⟩;rw [show ([key.data.toList,[1]]:List (List UInt8)).flatten=key.data.toList++ [1] by simp];have iD:=JS.out.trans cF;have hG:=Ha.out.2.trans iD;have tR:=iD.heap Ha.out.1;have lb:=af tR;clear IB hc1 hc3 zo oZ jT JS cF oq;have hA:=yH key.data.toList;have hB:=yH (key.data.toList++ [1]);have Hp:=ae (show ∀ j,lY key.data.toList m j=(dB aq key.data.toList+j*dB aq (key.data.toList++ [1]))%m from fun _=>rfl);generalize dB aq key.data.toList=a at*;generalize dB aq (key.data.toList++ [1])=b at*;have aFy:IntKind.u64.wrap (a:Int)=(a:Int):=tW (by omega);have aFz:IntKind.u64.wrap (b:Int)=(b:Int):=tW (by omega);obtain ⟨m0,s0⟩:=Ou (j:=0) hA hB (by decide);obtain ⟨m1,s1⟩:=Ou (j:=1) hA hB (by decide);obtain ⟨m2,s2⟩:=Ou (j:=2) hA hB (by decide);obtain ⟨m3,s3⟩:=Ou (j:=3) hA hB (by decide);have hmz:(m:Int)≠0:=by omega
 have hG':=ae hG;have c0:w7.cell? ⟨w.heap.size,0,none⟩=some (.int .u64 0):=by simp [World.cell?,tR]
 have c1:w7.cell? ⟨w.heap.size,1,none⟩=some (.int .u64 0):=by simp [World.cell?,tR]
 have c2:w7.cell? ⟨w.heap.size,2,none⟩=some (.int .u64 0):=by simp [World.cell?,tR]
 have c3:w7.cell? ⟨w.heap.size,3,none⟩=some (.int .u64 0):=by simp [World.cell?,tR]
 have fe:∀ i,w7.frozen? ⟨w.heap.size,i,none⟩=false:=fun i=>by simp [World.frozen?,tR]
 have Ov:=ae tR;clear hG iD tR
 go_wp2_with fail
 refine wp_loop_rounds 5 ?_;rw [rounds_succ];go_wp2;rw [rounds_succ];go_wp2;rw [rounds_succ];go_wp2;rw [rounds_succ];go_wp2;rw [rounds_succ]
 go_wp2_with fail
 have r1:=zV (v0:= .int .u64 ((a:Int)%m)) (v1:= .int .u64 (((a:Int)+b)%m)) (v2:= .int .u64 (((a:Int)+2*b)%m)) (v3:= .int .u64 (((a:Int)+3*b)%m)) Ov.out;have r2:=zV (v0:= .int .u64 ((a:Int)%m)) (v1:= .int .u64 (((a:Int)+b)%m)) (v2:= .int .u64 (((a:Int)+2*b)%m)) (v3:= .int .u64 (((a:Int)+3*b)%m)) r1;obtain ⟨d0,d1,d2,d3⟩:=cK r2;refine bodyPost_ret (v:= .agg #[.int .u64 ((a:Int)%m),.int .u64 (((a:Int)+b)%m),.int .u64 (((a:Int)+2*b)%m),.int .u64 (((a:Int)+3*b)%m)]) (by simp [results,Tryz.results200,go_sem,d0,d1,d2,d3]) rfl ⟨?_,?_⟩
 ·rw [Hp.out 0,Hp.out 1,Hp.out 2,Hp.out 3]
  simp
 ·have hle:w.heap.size≤w.heap.size:=ay _
  exact (((((((hG'.out.setCell (p:=⟨w.heap.size,0,none⟩) hle _).setCell (p:=⟨w.heap.size,1,none⟩) hle _).setCell (p:=⟨w.heap.size,2,none⟩) hle _).setCell (p:=⟨w.heap.size,3,none⟩) hle _).setCell (p:=⟨w.heap.size,0,none⟩) hle _).setCell (p:=⟨w.heap.size,1,none⟩) hle _).setCell (p:=⟨w.heap.size,2,none⟩) hle _).setCell (p:=⟨w.heap.size,3,none⟩) hle _
structure Bk where
 first:ByteArray
 at':Nat
 size:Nat
def zW (x:Bk):List Value:= [.string x.first,.int .i64 x.at',.int .i64 x.size]
abbrev Fi (x:Bk):Array Value:=#[.string x.first,.int .i64 x.at',.int .i64 x.size]
theorem avx (x:Bk):(zW x).length=3:=rfl
def fU (B:Nat) (w:World) (v:Value) (xs:List Bk):Prop:=w.ownsRow B 257 3 v xs.length (xs.flatMap zW)
theorem fU.grow {B:Nat} {w w':World} {v:Value} {xs:List Bk} (h:fU B w v xs) (hg:Grow w w'):fU B w' v xs:=ek h hg
theorem aeL (B:Nat) (w:World):fU B w (.slice none 0 0) []:=World.ownsRow_nil _ _ _ _
theorem fU.slice {B:Nat} {w:World} {v:Value} {xs:List Bk} (h:fU B w v xs):∃ a c,v= .slice a xs.length c:=by
 rcases h.2 with ⟨h1,h0⟩|⟨g,cap,cur,h1,_⟩
 ·exact ⟨none,0,by rw [h1,h0]⟩
 ·exact ⟨_,_,h1⟩
theorem fU.lt {B g:Nat} {w:World} {v:Value} {xs:List Bk} (h:fU B w v xs) (hg:v.ownBlock=some g):B≤g∧g<w.heap.size∧∃ cur,w.heap[g]?=some (.cells cur 257 (0,0)):=by
 rcases h.2 with ⟨h1,h0⟩|⟨g',cap,cur,h1,hB,h3,_⟩
 ·rw [h1] at hg;cases hg
 ·rw [h1] at hg;cases hg;exact ⟨hB,af h3,cur,h3⟩
theorem fU.at {B:Nat} {w:World} {v:Value} {xs:List Bk} (h:fU B w v xs) {i:Nat} {x:Bk} (hx:xs[i]?=some x):∃ g cap,v= .slice (some ⟨g,0,none⟩) xs.length cap∧g<w.heap.size∧
  w.cell? ⟨g,i*3,none⟩=some (.string x.first)∧w.cell? ⟨g,i*3+1,none⟩=some (.int .i64 x.at')∧w.cell? ⟨g,i*3+2,none⟩=some (.int .i64 x.size):=by
 rcases id h.2 with ⟨h1,h0⟩|⟨g,cap,cur,h1,hB,h3,h4,h5,h6⟩
 ·rw [jb h0] at hx;simp at hx
 ·have hr:=wO avx (h1 ▸ h)
  refine ⟨g,cap,h1,af h3,?_,?_,?_⟩
  ·have:=hr i x hx 0 _ rfl;simpa using this
  ·have:=hr i x hx 1 _ rfl;simpa using this
  ·have:=hr i x hx 2 _ rfl;simpa using this
theorem Tryz.avy:(Tryz.prog.info? 257).map (fun i=>(i.zero,i.size,i.bytes))=some (some (.agg #[.string ByteArray.empty,.int .i64 0,.int .i64 0]),3,32):=by kernel_rfl
theorem aeM {B:Nat} {w:World} {v:Value} {xs:List Bk} (h:fU B w v xs) (x:Bk) (hB:B≤w.heap.size) (hl:xs.length≤1000000000):
  ∃ g cap w',(Builtin.append_ #[252,252] 252 #[v,.slice (some ⟨w.heap.size,0,none⟩) 1 1]).run Tryz.prog (w.alloc (.cells (Fi x) 257))= .ok (.slice (some ⟨g,0,none⟩) (xs.length+1) cap) w'∧
   fU B w' (.slice (some ⟨g,0,none⟩) (xs.length+1) cap) (xs++ [x])∧w.grownBy w' v.ownBlock:=by
 obtain ⟨i0,bK,hz0,hz1,hz2⟩:=info_parts Tryz.avy;have dV:(w.alloc (.cells (Fi x) 257)).heap[w.heap.size]?=some (.cells (Fi x) 257 (0,0)):=aw _ _;obtain ⟨g,cap,w',hrun,hown,hgr,_,_⟩:=run_append_lies (P:=Tryz.prog) (w.alloc (.cells (Fi x) 257)) 252 252 B 257 i0 _ 3 32 Tryz.underlying252 bK hz0 hz1 hz2 rfl (by decide) _ _ _ (ek h (Grow.alloc _ _))
  ⟨w.heap.size,0,none⟩ 1 1 (zW x) rfl (fun j u hu=>World.news_of_block dV j u (by simpa [zW] using hu)) (fun u hu=>by
   simp only [zW,List.mem_cons,List.not_mem_nil,or_false] at hu;rcases hu with rfl|rfl|rfl<;>rfl) (by decide) (by unfold maxLen;omega) (by omega) (by simp;omega) _ rfl
 refine ⟨g,cap,w',hrun,?_,?_⟩
 ·have wT:(xs++ [x]).flatMap zW=xs.flatMap zW++zW x:=by simp
  unfold fU;rw [List.length_append,wT];exact hown
 ·obtain ⟨a,b,c,d,e⟩:=hgr
  exact ⟨a,b,c,aN (by simp) d,fun k hk hn=>by rw [e k (by simp;omega) hn];exact heap_alloc_old _ _ hk⟩
def mI (x:Bk):List UInt8:=aU x.first.data.toList++(aA x.at'++aA x.size)
def kH:Nat→List (List En)→List Bk
 |_,[]=> []
 |k,g::gs=>⟨jX g,k,(fj g).length⟩::kH (k+(fj g).length) gs
theorem CD:∀ (gs:List (List En)) (k:Nat),(kH k gs).flatMap mI=iR k gs
 | [],_=>rfl
 |g::gs,k=>by simp only [kH,List.flatMap_cons,CD gs,mI,iR,List.append_assoc]
theorem UQ (g:List En):∀ (gs:List (List En)) (k:Nat),kH k (gs++ [g])=kH k gs++ [⟨jX g,k+(bN gs).length,(fj g).length⟩]
 | [],k=>by simp [kH,bN]
 |h::gs,k=>by
  rw [List.cons_append,kH,kH,UQ g gs];have:(bN (h::gs)).length=(fj h).length+(bN gs).length:=by simp [bN]
  rw [this,Nat.add_assoc];rfl
theorem qT:∀ (gs:List (List En)) (k:Nat),(kH k gs).length=gs.length
 | [],_=>rfl
 |g::gs,k=>by simp [kH,qT gs]
def IxJ (w:World) (l:List Bk) (bv iv:Value) (wr:World):Prop:=
 ∃ i:Nat,iv= .int .i64 i∧i≤l.length∧aG w.heap.size wr bv ((l.take i).flatMap mI)∧Grow w wr
structure aeO (x:Bk):Prop where
 key:x.first.size≤100000000
 at':x.at'<1000000000000
 size:x.size<1000000000000
theorem avz (x:Bk):(mI x).length≤x.first.size+30:=by
 have h1:=lO x.first.data.toList;have h2:=cf x.at';have h3:=cf x.size;have e1:x.first.data.toList.length=x.first.size:=by rw [Array.length_toList];rfl
 simp only [mI,List.length_append];omega
theorem aeP {w:World} {B:Nat} {v:Value} {xs:List Bk} (h:fU B w v xs) (hf:∀ x∈xs,aeO x) (hlen:xs.length≤1000000) (mQ:(xs.flatMap mI).length≤100000000000):
  Calls Tryz.prog 151 #[v] w fun e w'=>∃ v',e= .returned v'∧aG w.heap.size w' v' (xs.flatMap mI)∧Grow w w':=by
 have H:=ae h;have HF:=ae hf;obtain ⟨va,vc,rfl⟩:=h.slice;clear h hf;go_enter Tryz.func151,Tryz.ntmps151
 go_wp2_with fail
 go_loopw [3,8] (fun bv iv wr=>IxJ w xs bv iv wr) (fun _ iv _=>xs.length-(intOf iv).toNat)
 case atStart=>exact ⟨0,rfl,bk _,mi _ _ _,Grow.refl _⟩
 case round=>
  obtain ⟨i,rfl,hi,hown,hg⟩:=hrel;by_cases hlt:i<xs.length
  ·obtain ⟨x,hx⟩:∃ x,xs[i]?=some x:=⟨_,List.getElem?_eq_getElem hlt⟩
   obtain ⟨gb,cap,hv,hgb,c0,c1,c2⟩:=(H.out.grow hg).at hx;cases hv;have oD:=HF.out x (dY hx);have df:=TL mI hx;have yT:((xs.take (i+1)).flatMap mI).length≤(xs.flatMap mI).length:=by
    have e:xs.flatMap mI=(xs.take (i+1)).flatMap mI++(xs.drop (i+1)).flatMap mI:=by rw [←List.flatMap_append,List.take_append_drop]
    rw [e,List.length_append];omega
   have dJ:(i:Int)<(xs.length:Int):=by omega
   have bK:(0:Int)≤(i:Int):=by omega
   have eE:IntKind.i64.wrap ((i:Int)+1)=(i:Int)+1:=aR _ (by omega);obtain ⟨xf,xa,xz⟩:=x;have f1:xf.size≤100000000:=oD.key;have f2:xa<1000000000000:=oD.at';have f3:xz<1000000000000:=oD.size;have dA:xf.data.toList.length=xf.size:=by rw [Array.length_toList];rfl
   have wa:=tK (n:=xa) (by omega);have wz:=tK (n:=xz) (by omega);have gO:=aw wr (.cells #[.string xf,.int .i64 xa,.int .i64 xz] 257);have ai:=Grow.alloc wr (.cells #[.string xf,.int .i64 xa,.int .i64 xz] 257);have gI:=hown.grow ai;have lQ:=ae df;have Hg:=ae (hg.trans ai);have jY:=ae gO;have hpl:((xs.take i).flatMap mI).length≤100000000000:=by rw [df,List.length_append] at yT;omega
   obtain ⟨PL,zy⟩:∃ PL,PL=(xs.take i).flatMap mI:=⟨_,rfl⟩
   rw [←zy] at gI hpl;have TN:=ae zy;have eT:=ae gI;obtain ⟨ba,bc,rfl⟩:=gI.slice;clear hown gI df yT hx oD hg ai gO zy mQ
   go_upto_region 5 with fail
   generalize wr.alloc (.cells #[.string xf,.int .i64 xa,.int .i64 xz] 257)=w3 at*;generalize wr.heap.size=tb at*;clear c0 c1 c2 hgb;have t0:w3.cell? ⟨tb,0,none⟩=some (.string xf):=by simp [World.cell?,jY.out]
   have t1:w3.cell? ⟨tb,1,none⟩=some (.int .i64 xa):=by simp [World.cell?,jY.out]
   have t2:w3.cell? ⟨tb,2,none⟩=some (.int .i64 xz):=by simp [World.cell?,jY.out]
   have Ja:=af jY.out;have aQ:=Grow.cells (w:=w3);refine bX (fun V=>Below w3.heap.size w3 V) [(0,false),(1,false),(2,false),(6,false),(7,false),(8,false),(10,false),(11,false),(12,false),(3,true),(4,true),(5,true),(9,true),(13,true),(14,false)] (by kernel_rfl) (by kernel_rfl) (fun c a d v w h=>by cases d<;>exact h) (by (repeat (first|exact Below.refl _ _|assumption|refine Below.drew ?_|refine cp ?_|refine Below.setCell ?_ (by first|omega|(simp<;>omega)) _|refine Below.alloc ?_ (by first|omega|(simp<;>omega)) _))) ?_;simp only [aP,nth]
   repeat (first|(refine aB (v:= ?_) (by rfl) ?_ ?_;rotate_left;(rintro W hW;go_simp;with_reducible rfl);simp only [ag,List.set])|(refine aC (by rfl) ?_;simp only [ag,List.set]))
   clear t0 t1 t2 Ja aQ;have hgd:=Grow.drew w3;obtain ⟨tX,w4,zt,bg,hg4⟩:=yZ xf (by omega) w3.drew;have tY:Grow w3 w4:=hgd.trans hg4;refine fQ (by rfl) (fun K hK=> ?_);go_simp;refine hK _ _ ⟨tY,?_⟩;clear hK K zt
   try first|simp only [ag,List.set]|simp only [aD]
   have nI:=aw w4 (.cells #[.slice (some ⟨w3.drew.heap.size,0,none⟩) xf.size tX] 49);have aO:=Grow.alloc w4 (.cells #[.slice (some ⟨w3.drew.heap.size,0,none⟩) xf.size tX] 49);have wW:=tY.trans aO;refine fQ (by rfl) (fun K hK=> ?_);go_simp;refine hK _ _ ⟨wW,?_⟩;clear hK K
   try first|simp only [ag,List.set]|simp only [aD]
   refine bj (by rfl) (by go_simp) (BG (cy (eT.out.grow wW)) (by omega) nI (bg.grow aO) (by omega)) ?_;rintro e w6 ⟨v6,rfl,kC,cM⟩;have Cf:=wW.trans cM;refine ⟨_,rfl,Cf,?_⟩
   try first|simp only [ag,List.set]|simp only [aD]
   refine bj (by rfl) (by go_simp) (nd (cy kC) (by have:=lO xf.data.toList;simp only [List.length_append];omega) (n:=xa) (by omega)) ?_;rintro e w7 ⟨v7,rfl,je,cF⟩;have Ow:=Cf.trans cF;refine ⟨_,rfl,Ow,?_⟩
   try first|simp only [ag,List.set]|simp only [aD]
   refine bj (by rfl) (by go_simp) (nd (cy je) (by have:=lO xf.data.toList;have:=cf xa;simp only [List.length_append];omega) (n:=xz) (by omega)) ?_;rintro e w8 ⟨v8,rfl,pF,cx⟩;have UR:=Ow.trans cx;refine ⟨_,rfl,UR,?_⟩
   try first|simp only [ag,List.set]|simp only [aD]
   have hrel:IxJ w xs v8 (.int .i64 ((i:Int)+1)) w8:=⟨i+1,by simp,hlt,by
    have h1:=pF.mono (aN Hg.out.size Ow.size);rw [lQ.out,←TN.out];simpa [mI,List.append_assoc] using h1,Hg.out.trans UR⟩
   have bq:=ae hrel;obtain ⟨CE,xL,CF,rfl⟩:∃ a L c,v8= .slice a L c:=by obtain ⟨a,c,h⟩:=pF.slice;exact ⟨_,_,_,h⟩
   clear kC je pF Cf Ow UR cM cF cx wW aO tY hg4 nI bg hrel hgd
   repeat (first|(refine aB (v:= ?_) (by rfl) ?_ ?_;rotate_left;(rintro W hW;go_simp;with_reducible rfl);simp only [ag,List.set])|(refine aC (by rfl) ?_;simp only [ag,List.set]))
   refine bm ?_;go_wp2;go_roundw
   case rel=>exact bq.out
   case measure=>simp [intOf];omega
  ·obtain rfl:i=xs.length:=by omega
   rw [List.take_length] at hown;have eT:=ae hown;obtain ⟨ba,bc,rfl⟩:=hown.slice;clear hown;go_wp2;go_ret;exact ⟨_,rfl,eT.out,hg⟩
theorem JT (W:World) (o:Option Nat):W.grownBy W o:=⟨rfl,rfl,rfl,ay _,fun _ _ _=>rfl⟩
theorem UT {W W':World} (h:Grow W W') (o:Option Nat):W.grownBy W' o:=⟨h.os,h.tape,h.output,h.size,fun b hb _=>h.block b hb⟩
def CG (eb:Nat) (v0:Value) (g:UInt8) (vv:Value) (j:Nat) (v:Value) (W:World):Prop:=
 match j with
 |0=>v=v0
 |1=>v= .int .u8 (g.toNat:Int)
 |2=>∃ q:Nat,v= .slice (some ⟨q,0,none⟩) 1 1∧W.heap[q]?=some (.cells #[.int .u8 (g.toNat:Int)] 5 (0,0))∧some q≠v0.ownBlock
 |4=>v= .pointer (some ⟨eb,3,none⟩)
 |5=>v=vv
 |6=>∃ q:Nat,v= .slice (some ⟨q,0,none⟩) 1 1∧W.heap[q]?=some (.cells #[vv] 49 (0,0))∧some q≠v0.ownBlock
 |_=>True
theorem CG.keep {eb:Nat} {v0:Value} {g:UInt8} {vv:Value}:∀ (j:Nat) (v:Value) (W W':World),W.grownBy W' v0.ownBlock→CG eb v0 g vv j v W→CG eb v0 g vv j v W':=by
 intro j v W W' hR h;unfold CG at h
 split at h<;>first
  |exact h
  |(obtain ⟨q,h1,h2,h3⟩:=h;exact ⟨q,h1,(hR.block q (af h2) h3).trans h2,h3⟩)
  |(unfold CG;split<;>first|trivial|(exfalso;simp_all))
structure vC (w:World) (B eb:Nat) (cs:Array Value) (v0:Value) (L:List UInt8) (g:UInt8) (val:List UInt8) (l:Array Bool) (a:Act) (W:World):Prop where
 below:Below w.heap.size w W
 base:B≤W.heap.size
 box:W.heap[eb]?=some (.cells cs 60 (0,0))
 own:l.getD 3 false=false→aG B W v0 L
 lt:∀ k,v0.ownBlock=some k→w.heap.size≤k∧k<W.heap.size
 app:l.getD 3 false=true→∃ v,a.tmps[20]?=some v∧aG B W v (L++ [g])
 zX:l.getD 7 false=true→∃ v,a.tmps[24]?=some v∧aG B W v (L++ [g]++aU val)
 res:l.getD 8 false=true→∃ v,a.tmps[4]?=some v∧aG B W v (L++ [g]++aU val)
theorem vC.next {w:World} {B eb:Nat} {cs:Array Value} {v0:Value} {L val:List UInt8} {g:UInt8} {l:Array Bool} {a:Act} {W W':World} {i d:Nat} {v:Value} (h:vC w B eb cs v0 L g val l a W) (hi:i≠3∧i≠7∧i≠8) (hd:d≠20∧d≠24∧d≠4) (hg:Grow W W'):vC w B eb cs v0 L g val (l.setIfInBounds i true) (a.put (some d) v) W':=
 ⟨h.below.trans (hg.mono h.below.size),aN h.base hg.size,hg.heap h.box,fun hl=>(h.own (by rw [getD_set_ne false hi.1] at hl;exact hl)).grow hg,fun k e=>⟨(h.lt k e).1,cj (h.lt k e).2 hg.size⟩,
  fun hl=>by
   obtain ⟨u,h1,h2⟩:=h.app (by rw [getD_set_ne false hi.1] at hl;exact hl);exact ⟨u,ix hd.1 h1,h2.grow hg⟩,
  fun hl=>by
   obtain ⟨u,h1,h2⟩:=h.zX (by rw [getD_set_ne false hi.2.1] at hl;exact hl);exact ⟨u,ix hd.2.1 h1,h2.grow hg⟩,
  fun hl=>by
   obtain ⟨u,h1,h2⟩:=h.res (by rw [getD_set_ne false hi.2.2] at hl;exact hl);exact ⟨u,ix hd.2.2 h1,h2.grow hg⟩⟩
theorem avA {N:Nat→Prop} {w:World} {bv:Value} {l:List UInt8} (h:Bv w bv l) (hl:l.length≤100000000000) {x:Ev} (hx:kG N w x) (hk:x.e.key.size≤100000000) (hs:x.e.seq<18446744073709551616) (hv:x.e.val.length≤1000000000):
  Calls Tryz.prog 159 #[bv,.agg (bQ x)] w fun e w'=>∃ v,e= .returned v∧aG w.heap.size w' v (l++nH x.e)∧Grow w w':=by
 obtain ⟨⟨xk,xs,xg,xd⟩,xv⟩:=x;obtain ⟨xa,xc,iH⟩:=hx.slice;simp only at iH hk hs hv;subst iH;have gi:Bv w (.slice xa xd.length xc) xd:=hx.1;obtain ⟨ba,bc,rfl⟩:=h.slice;have dA:xk.data.toList.length=xk.size:=by rw [Array.length_toList];rfl
 have eO:=aw w (.cells #[.string xk,.int .u64 xs,.bool xg,.slice xa xd.length xc] 60);have ai:=Grow.alloc w (.cells #[.string xk,.int .u64 xs,.bool xg,.slice xa xd.length xc] 60);have Hb:=ae h;have tZ:=ae gi;have bT:=ae ai;have rT:=ae eO;clear h hx gi ai eO;show Calls Tryz.prog 159 #[.slice ba l.length bc,.agg #[.string xk,.int .u64 xs,.bool xg,.slice xa xd.length xc]] w _;go_enter Tryz.func159,Tryz.ntmps159
 go_upto_region 1 with fail
 generalize w.alloc (.cells #[.string xk,.int .u64 xs,.bool xg,.slice xa xd.length xc] 60)=w1 at*;obtain ⟨eb,py⟩:∃ eb,eb=w.heap.size:=⟨_,rfl⟩
 rw [←py] at rT ⊢;have Ox:=ae py;clear py;obtain ⟨t0,t1,t2,t3⟩:=cK rT.out;have UU:=af rT.out;have aQ:=Grow.cells (w:=w1);refine bX (fun V=>Below w1.heap.size w1 V) [(0,false),(1,false),(2,false),(6,false),(7,false),(3,true),(4,true),(5,true),(8,true),(9,false)] (by kernel_rfl) (by kernel_rfl) (fun c a d v w h=>by cases d<;>exact h) (by (repeat (first|exact Below.refl _ _|assumption|refine Below.drew ?_|refine cp ?_|refine Below.setCell ?_ (by first|omega|(simp<;>omega)) _|refine Below.alloc ?_ (by first|omega|(simp<;>omega)) _))) ?_;simp only [aP,nth]
 repeat (first|(refine aB (v:= ?_) (by rfl) ?_ ?_;rotate_left;(rintro W hW;go_simp;with_reducible rfl);simp only [ag,List.set])|(refine aC (by rfl) ?_;simp only [ag,List.set]))
 clear t0 t1 t2 t3 UU aQ;have hgd:=Grow.drew w1;obtain ⟨tX,w4,zt,bg,hg4⟩:=yZ xk (by omega) w1.drew;have oG:Grow w1 w4:=hgd.trans hg4;refine fQ (by rfl) (fun K hK=> ?_);go_simp;refine hK _ _ ⟨oG,?_⟩;clear hK K zt
 try first|simp only [ag,List.set]|simp only [aD]
 have nI:=aw w4 (.cells #[.slice (some ⟨w1.drew.heap.size,0,none⟩) xk.size tX] 49);have aO:=Grow.alloc w4 (.cells #[.slice (some ⟨w1.drew.heap.size,0,none⟩) xk.size tX] 49);have pP:=oG.trans aO;refine fQ (by rfl) (fun K hK=> ?_);go_simp;refine hK _ _ ⟨pP,?_⟩;clear hK K
 try first|simp only [ag,List.set]|simp only [aD]
 refine bj (by rfl) (by go_simp) (BG (Hb.out.grow (bT.out.trans pP)) (by omega) nI (bg.grow aO) (by omega)) ?_;rintro e w6 ⟨v6,rfl,kC,cM⟩;have Oy:=pP.trans cM;refine ⟨_,rfl,Oy,?_⟩
 try first|simp only [ag,List.set]|simp only [aD]
 refine bj (by rfl) (by go_simp) (nd (cy kC) (by have:=lO xk.data.toList;simp only [List.length_append];omega) (n:=xs) (by omega)) ?_;rintro e w7 ⟨v7,rfl,je,cF⟩;have iD:=Oy.trans cF;refine ⟨_,rfl,iD,?_⟩
 try first|simp only [ag,List.set]|simp only [aD]
 obtain ⟨L,hL⟩:∃ L,L=l++aU xk.data.toList++aA xs:=⟨_,rfl⟩
 rw [←hL] at je;have Fj:L.length≤200000000000:=by rw [hL];have:=lO xk.data.toList;have:=cf xs;simp only [List.length_append];omega
 have HL:=ae hL;have zI:aG w.heap.size w7 v7 L:=je.mono (aN bT.out.size Oy.size);obtain ⟨va,vL,vc,rfl⟩:∃ a L c,v7= .slice a L c:=by obtain ⟨a,c,h⟩:=je.slice;exact ⟨_,_,_,h⟩
 have aeQ:=iD.heap rT.out;have Fk:=ae (bT.out.trans iD);have aeR:=ae zI;have UW:=ae aeQ;clear hg4 oG nI aO pP kC cM Oy je cF iD bg hL zI hgd aeQ
 repeat (first|(refine aB (v:= ?_) (by rfl) ?_ ?_;rotate_left;(rintro W hW;go_simp;with_reducible rfl);simp only [ag,List.set])|(refine aC (by rfl) ?_;simp only [ag,List.set]))
 refine bm ?_;obtain ⟨gb,hgb⟩:∃ gb:UInt8,gb=if xg then 1 else 0:=⟨_,rfl⟩
 obtain ⟨t0,t1,t2,t3⟩:=cK UW.out;have lt7:=af UW.out;have Bg:∀ u:List UInt8,l++nH ⟨xk,xs,xg,xd⟩=L++ [gb]++aU xd:=fun _=>by
  rw [HL.out,hgb];simp [nH]
 have Bh:=ae (Bg []);clear Bg
 go_upto_if 16 with fail
 go_cut [5] from 5 to 5 (fun gv wx=>gv= .int .u8 ((gb:UInt8).toNat:Int)∧wx=w7)
 case first=>
  cases xg with
  |false=>
   obtain rfl:gb=0:=by rw [hgb];rfl
   go_wp2;go_meet;exact ⟨rfl,rfl⟩
  |true=>
   obtain rfl:gb=1:=by rw [hgb];rfl
   go_wp2;go_meet;exact ⟨rfl,rfl⟩
 case rest=>
 obtain ⟨rfl,hwc⟩:=hcut;have hwc':=hwc.symm;subst hwc';clear hwc hgb
 go_upto_region 5 with fail
 refine uD (fun a0 ha0=> ?_);have F0:a0.tmps[0]?=some (.slice va vL vc):=by rw [ha0];rfl
 have F3:a0.tmps[3]?=some (.pointer (some ⟨eb,0,none⟩)):=by rw [ha0];rfl
 have F5:a0.tmps[5]?=some (.int .u8 ((gb:UInt8).toNat:Int)):=by rw [ha0];rfl
 have hsz:a0.tmps.size=25:=by rw [ha0];rfl
 have mC:=ae ha0;clear ha0 t0 t1 t2 t3 lt7;refine uG (CG eb (.slice va vL vc) gb (.slice xa xd.length xc)) (vC w w.heap.size eb #[.string xk,.int .u64 xs,.bool xg,.slice xa xd.length xc] (.slice va vL vc) L gb xd) (fun W W'=>W.grownBy W' (Value.slice va vL vc).ownBlock) [4,17,18,19,20,21,22,23,24] (by kernel_rfl) (by kernel_rfl) (by rw [hsz];rfl) CG.keep ⟨Fk.out.trans (Grow.drew w7),Fk.out.size,UW.out,fun _=>aeR.out.grow (Grow.drew w7),(fun k e=>aeR.out.lt e),(fun h=>by cases h),(fun h=>by cases h),(fun h=>by cases h)⟩ ?_ (fun a1 W1 hf=> ?_);rotate_left
 ·obtain ⟨v,hv4,hq⟩:=hf.world.res rfl
  have hG:=hf.world.below;have e:=hf.alike.fill;rw [mC.out] at e;simp only [List.foldl_cons,List.foldl_nil,Act.put,List.setIfInBounds_toArray,List.set_cons_zero,List.set_cons_succ] at e;have h4:a1.tmps.getD 4 undef=v:=by rw [fI,hv4];rfl
  obtain ⟨u17,h17⟩:∃ u,a1.tmps.getD 17 undef=u:=⟨_,rfl⟩
  obtain ⟨u18,h18⟩:∃ u,a1.tmps.getD 18 undef=u:=⟨_,rfl⟩
  obtain ⟨u19,h19⟩:∃ u,a1.tmps.getD 19 undef=u:=⟨_,rfl⟩
  obtain ⟨u20,h20⟩:∃ u,a1.tmps.getD 20 undef=u:=⟨_,rfl⟩
  obtain ⟨u21,h21⟩:∃ u,a1.tmps.getD 21 undef=u:=⟨_,rfl⟩
  obtain ⟨u22,h22⟩:∃ u,a1.tmps.getD 22 undef=u:=⟨_,rfl⟩
  obtain ⟨u23,JU⟩:∃ u,a1.tmps.getD 23 undef=u:=⟨_,rfl⟩
  obtain ⟨u24,vD⟩:∃ u,a1.tmps.getD 24 undef=u:=⟨_,rfl⟩
  rw [h4,h17,h18,h19,h20,h21,h22,JU,vD] at e;clear h4 hv4 hf h17 h18 h19 h20 h21 h22 JU vD;rw [e];clear e mC F0 F3 F5 hsz;obtain ⟨CE,xL,CF,rfl⟩:∃ a L c,v= .slice a L c:=by obtain ⟨a,c,h⟩:=hq.slice;exact ⟨_,_,_,h⟩
  have Hq:=ae hq;clear hq;go_wp2;go_ret;exact ⟨_,rfl,by rw [Bh.out];exact Hq.out,hG⟩
 refine ⟨?_,?_,?_,?_,?_,?_,?_,?_,?_,True.intro⟩
 ·intro listed a W hf ar ak
  have hs1:a.tmps.size=25:=hf.alike.size.trans hsz;have hT:=hf.world;have G0:a.tmps[0]'(by rw [hs1];decide)= .slice va vL vc:=ax ((hf.alike.same 0 (by decide)).trans F0) _;refine aX rfl (by rfl) (fun K' hK'=> ?_);go_simp;exact hK' _ _ ⟨_,rfl,(fun _ _=>rfl),JT _ _,vC.next hT (by decide) (by decide) (Grow.refl _)⟩
 ·intro listed a W hf ar ak
  have hs1:a.tmps.size=25:=hf.alike.size.trans hsz;have hT:=hf.world;have G5:a.tmps[5]'(by rw [hs1];decide)= .int .u8 ((gb:UInt8).toNat:Int):=ax ((hf.alike.same 5 (by decide)).trans F5) _;refine aX rfl (by rfl) (fun K' hK'=> ?_);go_simp;exact hK' _ _ ⟨_,rfl,(fun _ _=>rfl),JT _ _,vC.next hT (by decide) (by decide) (Grow.refl _)⟩
 ·intro listed a W hf ar ak
  have hs1:a.tmps.size=25:=hf.alike.size.trans hsz;have hT:=hf.world;obtain ⟨v1,s1,q1⟩:=hf.slot 1 18 rfl (aJ ak 1 (by kernel_rfl));have kn:v1=_:=q1;subst kn;have G18:=ax s1 (by rw [hs1];decide);have hg2:Grow W (W.alloc (.cells #[.int .u8 ((gb:UInt8).toNat:Int)] 5)):=Grow.alloc _ _;refine Bc rfl (by rfl) (ru (v:= .int .u8 ((gb:UInt8).toNat:Int)) rfl Tryz.underlying49 Tryz.Mt rfl (by show a.tmps.getD 18 undef=_;rw [fI,s1];rfl) rfl) ?_;exact ⟨_,rfl,(fun _ _=>⟨W.heap.size,rfl,aw _ _,fun e=>by
   have:=(hT.lt W.heap.size e.symm).2;omega⟩),UT hg2 _,vC.next hT (by decide) (by decide) hg2⟩
 ·intro listed a W hf ar ak
  have hs1:a.tmps.size=25:=hf.alike.size.trans hsz;have hT:=hf.world;obtain ⟨v0,s0,q0⟩:=hf.slot 0 17 rfl (aJ ak 0 (by kernel_rfl));have kZ:v0=_:=q0;subst kZ;have G17:=ax s0 (by rw [hs1];decide);obtain ⟨v2,s2,q2⟩:=hf.slot 2 19 rfl (aJ ak 2 (by kernel_rfl));obtain ⟨q,rfl,hq,hne⟩:=q2;have G19:=ax s2 (by rw [hs1];decide);have nJ:listed.getD 3 false=false:=by
   rw [fI] at ar ⊢;cases hx:listed[3]? with
   |none=>rw [hx] at ar;cases ar
   |some b=>rw [hx] at ar;exact ar
  have CH:=dZ hf.closed (n:=8) (e:=7) (i:=3) (by kernel_rfl) ar;have jL:=dZ hf.closed (n:=8) (e:=8) (i:=3) (by kernel_rfl) ar;have pG:Bv W (.slice (some ⟨q,0,none⟩) 1 1) [gb]:=aeJ hq;obtain ⟨v',W2,r1,r2,r3,r4⟩:=qh (hT.own nJ) pG hT.base (by simp;omega);refine Bc rfl (by rfl) (GH rfl (by show a.tmps.getD 17 undef=_;rw [fI,s0];rfl) (by show a.tmps.getD 19 undef=_;rw [fI,s2];rfl) r1) ?_;refine ⟨_,rfl,(fun _ _=>True.intro),r3,?_⟩;have hlen:3<listed.size:=by rw [hf.size];decide
  have gI:=hT.own nJ;exact ⟨hT.below.grown r3 hT.below.size (fun k e=>(hT.lt k e).1),aN hT.base r3.size,(r3.block eb (af hT.box) (fun e=>by
    obtain ⟨cur,hc⟩:=gI.block e.symm;rw [hT.box] at hc;exact absurd (cA (bB hc)).2.1 (by decide))).trans hT.box,
   (fun hl=>by rw [mO hlen] at hl;cases hl),(fun k e=>⟨(hT.lt k e).1,cj (hT.lt k e).2 r3.size⟩),(fun _=>⟨v',uF (by rw [hs1];decide),r2⟩),(fun hl=>by rw [getD_set_ne false (by decide)] at hl;rw [CH] at hl;cases hl),(fun hl=>by rw [getD_set_ne false (by decide)] at hl;rw [jL] at hl;cases hl)⟩
 ·intro listed a W hf ar ak
  have hs1:a.tmps.size=25:=hf.alike.size.trans hsz;have hT:=hf.world;have G3:a.tmps[3]'(by rw [hs1];decide)= .pointer (some ⟨eb,0,none⟩):=ax ((hf.alike.same 3 (by decide)).trans F3) _;refine aX rfl (by rfl) (fun K' hK'=> ?_);go_simp;exact hK' _ _ ⟨_,rfl,(fun _ _=>rfl),JT _ _,vC.next hT (by decide) (by decide) (Grow.refl _)⟩
 ·intro listed a W hf ar ak
  have hs1:a.tmps.size=25:=hf.alike.size.trans hsz;have hT:=hf.world;obtain ⟨v4,s4,q4⟩:=hf.slot 4 21 rfl (aJ ak 4 (by kernel_rfl));have qi:v4=_:=q4;subst qi;have G21:=ax s4 (by rw [hs1];decide);obtain ⟨Ca,Cb,Cc,TQ⟩:=cK hT.box;have lb:=af hT.box;refine aX rfl (by rfl) (fun K' hK'=> ?_);go_simp;exact hK' _ _ ⟨_,rfl,(fun _ _=>rfl),JT _ _,vC.next hT (by decide) (by decide) (Grow.refl _)⟩
 ·intro listed a W hf ar ak
  have hs1:a.tmps.size=25:=hf.alike.size.trans hsz;have hT:=hf.world;obtain ⟨v5,s5,q5⟩:=hf.slot 5 22 rfl (aJ ak 5 (by kernel_rfl));have tk:v5=_:=q5;subst tk;have G22:=ax s5 (by rw [hs1];decide);have hg2:Grow W (W.alloc (.cells #[.slice xa xd.length xc] 49)):=Grow.alloc _ _;refine Bc rfl (by rfl) (ru (v:= .slice xa xd.length xc) rfl Tryz.underlying131 Tryz.wE rfl (by show a.tmps.getD 22 undef=_;rw [fI,s5];rfl) rfl) ?_;exact ⟨_,rfl,(fun _ _=>⟨W.heap.size,rfl,aw _ _,fun e=>by
   have:=(hT.lt W.heap.size e.symm).2;omega⟩),UT hg2 _,vC.next hT (by decide) (by decide) hg2⟩
 ·intro listed a W hf ar ak
  have hs1:a.tmps.size=25:=hf.alike.size.trans hsz;have hT:=hf.world;obtain ⟨v6,s6,q6⟩:=hf.slot 6 23 rfl (aJ ak 6 (by kernel_rfl));obtain ⟨q,rfl,hq,hne⟩:=q6;have G23:=ax s6 (by rw [hs1];decide);obtain ⟨v3,s3,gI⟩:=hT.app (aJ ak 3 (by kernel_rfl));have G20:=ax s3 (by rw [hs1];decide);refine jc rfl (by rfl) (by go_simp) (BG (cy gI) (by simp only [List.length_append,List.length_cons,List.length_nil];omega) hq (tZ.out.grow hT.below) (by omega)) ?_;rintro e W2 ⟨v,rfl,ho,hg2⟩;have jL:=dZ hf.closed (n:=8) (e:=8) (i:=7) (by kernel_rfl) ar;have h3l:=aJ ak 3 (by kernel_rfl);exact ⟨_,rfl,_,rfl,(fun _ _=>True.intro),UT hg2 _,hT.below.trans (hg2.mono hT.below.size),aN hT.base hg2.size,hg2.heap hT.box,(fun hl=>by rw [getD_set_ne false (by decide)] at hl;rw [h3l] at hl;cases hl),
   (fun k e=>⟨(hT.lt k e).1,cj (hT.lt k e).2 hg2.size⟩),(fun _=>⟨v3,ix (by decide) s3,gI.grow hg2⟩),(fun _=>⟨v,uF (by rw [hs1];decide),ho.mono hT.base⟩),(fun hl=>by rw [getD_set_ne false (by decide)] at hl;rw [jL] at hl;cases hl)⟩
 ·intro listed a W hf ar ak
  have hs1:a.tmps.size=25:=hf.alike.size.trans hsz;have hT:=hf.world;obtain ⟨v7,s7,zI⟩:=hT.zX (aJ ak 7 (by kernel_rfl));have G24:=ax s7 (by rw [hs1];decide);have nJ:=hT.own;refine aX rfl (by rfl) (fun K' hK'=> ?_);go_simp;exact hK' _ _ ⟨_,rfl,(fun _ _=>True.intro),JT _ _,hT.below,hT.base,hT.box,(fun hl=>hT.own (by rw [getD_set_ne false (by decide)] at hl;exact hl)),hT.lt,
   (fun hl=>by obtain ⟨u,h1,h2⟩:=hT.app (by rw [getD_set_ne false (by decide)] at hl;exact hl);exact ⟨u,ix (by decide) h1,h2⟩),(fun _=>⟨v7,ix (by decide) s7,zI⟩),(fun _=>⟨v7,uF (by rw [hs1];decide),zI⟩)⟩
end Go.Proofs.YtoolkdapflaeeaaGreatDoor
namespace Go.Proofs.YtoolkdapflaeeaaGreatDoor
open Go.RowKit Go.Gl Mn
structure Wr where
 key:ByteArray
 gone:Bool
 val:List UInt8
def ia (s:Nat) (w:Wr):En:=⟨w.key,s,w.gone,if w.gone then [] else w.val⟩
def gw (s:Nat) (ws:List Wr) (l:List En):List En:=ws.foldl (fun l w=>jt (ia s w) l) l
def fV (k:ByteArray) (ws:List Wr):Option Wr:=(ws.filter (fun w=>decide (w.key=k))).getLast?
theorem UX (s:Nat) (l:List En):gw s [] l=l:=rfl
theorem aeY (s:Nat) (ws:List Wr) (w:Wr) (l:List En):gw s (ws++ [w]) l=jt (ia s w) (gw s ws l):=by simp [gw]
theorem aeZ (s:Nat) (ws:List Wr) (w:Wr) (l:List En):gw s (w::ws) l=gw s ws (jt (ia s w) l):=rfl
theorem afa (s:Nat):∀ (ws:List Wr) {l:List En},cQ l→cQ (gw s ws l)
 | [],_,h=>h
 |_::ws,_,h=>afa s ws (Uz h)
theorem CI (k:ByteArray) (ws:List Wr) (w:Wr):fV k (ws++ [w])=if w.key=k then some w else fV k ws:=by
 unfold fV;rw [List.filter_append];by_cases h:w.key=k
 ·simp [h]
 ·simp [h]
theorem Oz {α:Type} {P:List α→Prop} (h0:P []) (h1:∀ l a,P l→P (l++ [a])) (l:List α):P l:=by
 have:∀ l:List α,P l.reverse:=fun l=>by
  induction l with
  |nil=>exact h0
  |cons a l ih=>rw [List.reverse_cons];exact h1 _ _ ih
 have h2:=this l.reverse;rwa [List.reverse_reverse] at h2
theorem afb {k:ByteArray} {ws:List Wr} {w:Wr} (h:fV k ws=some w):w∈ws∧w.key=k:=by
 unfold fV at h;have:=List.mem_of_getLast? h;obtain ⟨h1,h2⟩:=List.mem_filter.1 this;exact ⟨h1,by simpa using h2⟩
theorem avE {k:ByteArray} {ws:List Wr}:fV k ws=none↔∀ w∈ws,w.key≠k:=by
 unfold fV;rw [List.getLast?_eq_none_iff,List.filter_eq_nil_iff];simp
theorem afc {s:Nat} {l:List En} (hl:cQ l) {e:En} (ws:List Wr):e∈gw s ws l↔(∃ w,fV e.key ws=some w∧e=ia s w)∨(e∈l∧(e.seq=s→fV e.key ws=none)):=by
 induction ws using Oz generalizing e with
 |h0=>simp [UX,fV]
 |h1 ws w ih=>
  rw [aeY,Uy (afa s ws hl),ih,CI];have Bz:qP e (ia s w)↔e.key=w.key∧e.seq=s:=Iff.rfl;rw [Bz];by_cases hk:w.key=e.key
  ·rw [if_pos hk]
   constructor
   ·rintro (h|⟨h|⟨h1,h2⟩,h3⟩)
    ·exact .inl ⟨w,rfl,h⟩
    ·obtain ⟨w',hw',he⟩:=h
     exact absurd ⟨hk.symm,by rw [he];rfl⟩ h3
    ·exact .inr ⟨h1,fun hs=>absurd ⟨hk.symm,hs⟩ h3⟩
   ·rintro (⟨w',hw',he⟩|⟨h1,h2⟩)
    ·cases hw';exact .inl he
    ·by_cases hs:e.seq=s
     ·cases h2 hs
     ·exact .inr ⟨.inr ⟨h1,fun h=>absurd h hs⟩,fun h=>hs h.2⟩
  ·rw [if_neg hk]
   constructor
   ·rintro (h|⟨h|⟨h1,h2⟩,_⟩)
    ·exact absurd (by rw [h];rfl) hk
    ·exact .inl h
    ·exact .inr ⟨h1,h2⟩
   ·rintro (h|⟨h1,h2⟩)
    ·exact .inr ⟨.inl h,fun h3=>hk h3.1.symm⟩
    ·exact .inr ⟨.inr ⟨h1,h2⟩,fun h3=>hk h3.1.symm⟩
def seen (l:List En) (key:ByteArray) (up:Nat):Option En:=match eK key up l with|none=>none|some e=>if e.gone then none else some e
end Go.Proofs.YtoolkdapflaeeaaGreatDoor
namespace Go.Proofs.YtoolkdapflaeeaaGreatDoor
open Go.RowKit Go.Gl Go.aH Mn
def CJ (l:List En):Prop:=∀ e∈l,e.gone=true→e.val= []
theorem Es.read {N:Nat→Prop} {w wr:World} {v:Value} {ys:List Ev} (h:Es N w v ys) (hg:Grow w wr) {i:Nat} (hi:i<ys.length):
  ∃ x b o c xa xc,ys[i]?=some x∧v= .slice (some ⟨b,o,none⟩) ys.length c∧b<wr.heap.size∧x.v= .slice xa x.e.val.length xc∧kG N wr x∧
   wr.cell? ⟨b,o+i*4,none⟩=some (.string x.e.key)∧wr.cell? ⟨b,o+i*4+1,none⟩=some (.int .u64 x.e.seq)∧wr.cell? ⟨b,o+i*4+2,none⟩=some (.bool x.e.gone)∧wr.cell? ⟨b,o+i*4+3,none⟩=some (.slice xa x.e.val.length xc):=by
 have hE:=h.grow hg;have hx:=List.getElem?_eq_getElem hi;obtain ⟨b,o,c,hv,_,hb,aY⟩:=hE.addr hx;obtain ⟨d0,d1,d2,d3⟩:=JL aY hx;have dm:=hE.get hx;obtain ⟨xa,xc,iH⟩:=dm.slice;rw [iH] at d3;exact ⟨_,b,o,c,xa,xc,hx,hv,hb,iH,dm,d0,d1,d2,d3⟩
end Go.Proofs.YtoolkdapflaeeaaGreatDoor
