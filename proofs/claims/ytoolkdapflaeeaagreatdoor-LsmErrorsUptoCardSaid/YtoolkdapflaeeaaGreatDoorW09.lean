/- Helpers. -/
import Derived.Test.YtoolkdapflaeeaaGreatDoorW08
import Derived.Test.YtoolkdapflaeeaaGreatDoorW06
import Derived.Test.YtoolkdapflaeeaaGreatDoorW02
import Derived.Test.YtoolkdapflaeeaaGreatDoorW04
import Derived.BigRegion
import Derived.Test.YtoolkdapflaeeaaGreatDoorW00
set_option maxRecDepth 100000
set_option maxHeartbeats 16000000
set_option linter.unusedSimpArgs false
open Go
variable {B K b d g ha aU i id j k lb q s tb : Nat} {F F' G G' N : Nat → Prop} {L l val x : List UInt8} {W W' w w' w2 w3 wr : World} {bv dv pv v v0 : Value} {cs : Array Value} {ds : List Int} {f : Nat × Nat}
namespace Go.Proofs.YtoolkdapflaeeaaGreatDoor
open Go.RowKit Go.Gl Go.aF Mn
theorem levels (x:En) (ns:List Nd) (tb ha:Nat):∃ bf:Nat→Nd,(∀ k,k<12→cw k (bM tb ha::cd x ns)=some (bf k))∧GA x tb ha ns=#[au (bf 0).blk,au (bf 1).blk,au (bf 2).blk,au (bf 3).blk,au (bf 4).blk,au (bf 5).blk,au (bf 6).blk,au (bf 7).blk,au (bf 8).blk,au (bf 9).blk,au (bf 10).blk,au (bf 11).blk]:=by
 refine ⟨fun k=>(cw k (bM tb ha::cd x ns)).getD (bM tb ha),fun k hk=> ?_,?_⟩
 ·obtain ⟨m,hm⟩:=WC hk tb ha (cd x ns)
  simp only [hm,Option.getD_some]
 ·have h:∀ k,k<12→gU (cw k (bM tb ha::cd x ns))=au ((cw k (bM tb ha::cd x ns)).getD (bM tb ha)).blk:=fun k hk=>by
   obtain ⟨m,hm⟩:=WC hk tb ha (cd x ns);rw [hm];rfl
  have e:GA x tb ha ns=#[gU (cw 0 (bM tb ha::cd x ns)),gU (cw 1 (bM tb ha::cd x ns)),gU (cw 2 (bM tb ha::cd x ns)),gU (cw 3 (bM tb ha::cd x ns)),gU (cw 4 (bM tb ha::cd x ns)),gU (cw 5 (bM tb ha::cd x ns)),gU (cw 6 (bM tb ha::cd x ns)),gU (cw 7 (bM tb ha::cd x ns)),gU (cw 8 (bM tb ha::cd x ns)),gU (cw 9 (bM tb ha::cd x ns)),gU (cw 10 (bM tb ha::cd x ns)),gU (cw 11 (bM tb ha::cd x ns))]:=rfl;rw [e];simp only [h 0 (by decide),h 1 (by decide),h 2 (by decide),h 3 (by decide),h 4 (by decide),h 5 (by decide),h 6 (by decide),h 7 (by decide),h 8 (by decide),h 9 (by decide),h 10 (by decide),h 11 (by decide)]
theorem last_zero:∀ {L:List Nd},L≠ []→(∀ n∈L,1≤n.h)→∃ pre m,L=pre++ [m]∧cw 0 L=some m:=fun {L} hne hh=>by
 have e:L=L.dropLast++ [L.getLast hne]:=(List.dropLast_concat_getLast hne).symm;refine ⟨L.dropLast,L.getLast hne,e,?_⟩;have h1:=hh _ (List.getLast_mem hne);have h2:=Wy (k:=0) (n:=L.getLast hne) (r:= []) (by omega) rfl L.dropLast;rwa [←e] at h2
structure Pb (w:World) (x:Ev) (bf:Nat→Nd) (g:Nat) (W:World):Prop where
 grow:Grow w W
 hg:w.heap.size+2≤g
 box:W.heap[w.heap.size]?=some (.cells (bW x) 60 (0,0))
 res:W.heap[w.heap.size+1]?=some (.cells #[.string ⟨#[]⟩,.int .u64 0,.bool false,.slice none 0 0] 60 (0,0))
 arr:W.heap[g]?=some (.cells #[au (bf 0).blk,au (bf 1).blk,au (bf 2).blk,au (bf 3).blk,au (bf 4).blk,au (bf 5).blk,au (bf 6).blk,au (bf 7).blk,au (bf 8).blk,au (bf 9).blk,au (bf 10).blk,au (bf 11).blk] 288 (0,0))
theorem Pb.step {x:Ev} {bf:Nat→Nd} (h:Pb w x bf g W) (hg:Grow W W'):Pb w x bf g W':=⟨h.grow.trans hg,h.hg,hg.heap h.box,hg.heap h.res,hg.heap h.arr⟩
theorem ayu {P:Program} {c:Code} {Q:Exit→Act→World→Prop} {a:Act} (R:World→Prop) (hr:R w) (h:∀ W,R W→c.wp P Q a W):c.wp P Q a w:=h w hr
theorem ayv {x:Ev} (bf:Nat→Nd) (h2:Grow w w2) (hb:w2.heap[w.heap.size]?=some (.cells (bW x) 60 (0,0)))
  (hr:w2.heap[w.heap.size+1]?=some (.cells #[.string ⟨#[]⟩,.int .u64 0,.bool false,.slice none 0 0] 60 (0,0))) (h3:Grow w2 w3):
  Pb w x bf w3.heap.size (w3.alloc (.cells #[au (bf 0).blk,au (bf 1).blk,au (bf 2).blk,au (bf 3).blk,au (bf 4).blk,au (bf 5).blk,au (bf 6).blk,au (bf 7).blk,au (bf 8).blk,au (bf 9).blk,au (bf 10).blk,au (bf 11).blk] 288)):=by
 have hg:=ar w3 (.cells #[au (bf 0).blk,au (bf 1).blk,au (bf 2).blk,au (bf 3).blk,au (bf 4).blk,au (bf 5).blk,au (bf 6).blk,au (bf 7).blk,au (bf 8).blk,au (bf 9).blk,au (bf 10).blk,au (bf 11).blk] 288);have h8:=h3.size;have h9:=af hr;exact ⟨h2.trans (h3.trans hg),by omega,hg.heap (h3.heap hb),hg.heap (h3.heap hr),ax w3 _⟩
section
abbrev jC (w:World) (b:Nat) (v0 v1 v2 v3:Value):World:=(((w.setCell ⟨b,0,none⟩ v0).setCell ⟨b,1,none⟩ v1).setCell ⟨b,2,none⟩ v2).setCell ⟨b,3,none⟩ v3
section
variable {w:World} {b:Nat} {a0 a1 a2 a3 a4 v0 v1 v2 v3:Value} {t:TypeId} {f:Nat×Nat}
theorem Bo (h:w.heap[b]?=some (.cells #[a0,a1,a2,a3] t f)):(jC w b v0 v1 v2 v3).heap[b]?=some (.cells #[v0,v1,v2,v3] t f):=by
 have h1:=Go.Gl.aK h 0 v0;have h2:=Go.Gl.aK h1 1 v1;have h3:=Go.Gl.aK h2 2 v2;have h4:=Go.Gl.aK h3 3 v3;simpa only [mf,List.set_cons_zero,kz] using h4
theorem ayw (h:w.heap[b]?=some (.cells #[a0,a1,a2,a3,a4] t f)):(jC w b v0 v1 v2 v3).heap[b]?=some (.cells #[v0,v1,v2,v3,a4] t f):=by
 have h1:=Go.Gl.aK h 0 v0;have h2:=Go.Gl.aK h1 1 v1;have h3:=Go.Gl.aK h2 2 v2;have h4:=Go.Gl.aK h3 3 v3;simpa only [mf,List.set_cons_zero,kz] using h4
theorem si (h:k≠b) (v0 v1 v2 v3:Value):(jC w b v0 v1 v2 v3).heap[k]?=w.heap[k]?:=
 (aP _ _ _ _ h).trans ((aP _ _ _ _ h).trans ((aP _ _ _ _ h).trans (aP _ _ _ _ h)))
theorem ayx (hb:F b) (v0 v1 v2 v3:Value):Sep F w (jC w b v0 v1 v2 v3) F:=
 ⟨rfl,rfl,rfl,by simp,fun k _ hn=>si (fun e=>hn (by rw [e];exact hb)) _ _ _ _,fun k hk=> .inl hk⟩
end
theorem Sep.mono {w:World} (h:Sep F w w' F') (hG:∀ b,F b→G b):Sep G w w' F':=
 ⟨h.os,h.tape,h.output,h.size,fun b hb hn=>h.out b hb (fun hf=>hn (hG b hf)),fun b hb=>(h.foot b hb).imp (hG b) id⟩
theorem Sep.tgt {w:World} (h:Sep F w w' F') (hG:∀ b,G' b→F b∨w.heap.size≤b):Sep F w w' G':=
 ⟨h.os,h.tape,h.output,h.size,h.out,hG⟩
theorem Sep.yV {w:World} (h:Sep F w wr F') {b:Nat} (hb:w.heap.size≤b) (j:Nat) (v:Value):Sep F w (wr.setCell ⟨b,j,none⟩ v) F':=
 ⟨h.os,h.tape,h.output,by simpa using h.size,fun k hk hn=>(aP _ _ _ _ (fun e=>by have e':k=b:=e;omega)).trans (h.out k hk hn),h.foot⟩
theorem Sep.agR {w:World} (h:Sep F w wr F') {b:Nat} (hb:w.heap.size≤b) (v0 v1 v2 v3:Value):Sep F w (jC wr b v0 v1 v2 v3) F':=(((h.yV hb 0 v0).yV hb 1 v1).yV hb 2 v2).yV hb 3 v3
theorem Sep.ayy {w:World} (h:Sep F w wr F') {b:Nat} (hb:F' b) (v0 v1 v2 v3:Value):Sep F w (jC wr b v0 v1 v2 v3) F':=h.trans (ayx hb v0 v1 v2 v3)
theorem Sep.drew {w:World} (h:Sep F w wr F'):Sep F w wr.drew F':=h.trans (Sep.bT (az wr))
theorem heap_drew {b:Nat} {o:Option Obj} (h:W.heap[b]?=o):W.drew.heap[b]?=o:=h
structure pZ (N:Nat→Prop) (w:World) (tb ha:Nat) (ns:List Nd) (dv:Value) (x:Ev) (bN:List Nd) (eI:Nat) (w':World):Prop where
 list:bN.map (fun n=>n.x.e)=kn x.e (ns.map (fun n=>n.x.e))
 self:w'.heap[tb]?=some (.cells (Qd ha eI bN.length dv (costs (ns.map (fun n=>n.x.e)))) 181 (0,0))
 aU:eI≤12
 skip:kq N w' tb ha bN
 sep:Sep (FM tb ha ns) w w' (FM tb ha bN)
structure Ps (w8:World) (L hi:List Nd) (nw:Nd) (K:Nat) (W:World):Prop where
 iZ:fh W (qY K nw hi) L
 nt:W.heap[nw.arr]?=some (.cells ((List.range nw.h).map (fun k=>if k<K then ct k hi else .pointer none)).toArray 287 (0,0))
 sep:Sep (fun b=>b=nw.arr∨∃ n∈L,b=n.arr) w8 W (fun b=>b=nw.arr∨∃ n∈L,b=n.arr)
theorem agS (k:Nat):∀ l:List Nd,∃ q,ct k l= .pointer q
 | []=>⟨none,rfl⟩
 |n::r=>by
  unfold ct;split
  ·exact ⟨_,rfl⟩
  ·exact agS k r
theorem Ps.drew {w8:World} {L hi:List Nd} {nw:Nd} (h:Ps w8 L hi nw K W):Ps w8 L hi nw K W.drew:=⟨h.iZ.keep (fun _ _=>rfl),h.nt,h.sep.trans (Sep.bT (az W))⟩
theorem Ps.step {w8:World} {L hi:List Nd} {nw m:Nd} (h:Ps w8 L hi nw K W) (hK:K<nw.h) (hn:(L.map Nd.arr).Nodup) (eK:∀ n∈L,n.arr≠nw.arr) (hm:cw K L=some m):
  W.cell? ⟨m.arr,K,none⟩=some (ct K hi)∧W.cell? ⟨nw.arr,K,none⟩=some (.pointer none)∧Ps w8 L hi nw (K+1) ((W.setCell ⟨nw.arr,K,none⟩ (ct K hi)).setCell ⟨m.arr,K,none⟩ (au nw.blk)):=by
 obtain ⟨h1,h2⟩:=Wz hK hn h.iZ;have nG:=(PY hm).1;refine ⟨(h1 m hm).1,by rw [PZ h.nt hK];simp,?_,?_,?_⟩
 ·have ht:fh (W.setCell ⟨nw.arr,K,none⟩ (ct K hi)) (qY K nw hi) L:=h.iZ.keep (fun n mE=>aP _ _ _ _ (eK n mE))
  exact ((Wz hK hn ht).1 m hm).2
 ·rw [aP _ _ _ _ (show nw.arr≠m.arr from fun e=>eK m nG e.symm),Go.Gl.aK h.nt]
  congr 2;apply Array.ext_getElem?;intro k;rw [Array.getElem?_setIfInBounds];by_cases KX:K=k
  ·subst KX
   simp [hK]
  ·rw [if_neg KX]
   by_cases ko:k<nw.h
   ·simp only [List.getElem?_toArray,gZ,List.getElem?_range ko,Option.map_some]
    rcases Nat.lt_trichotomy k K with h3|h3|h3
    ·rw [if_pos h3,if_pos (by omega)]
    ·omega
    ·rw [if_neg (by omega),if_neg (by omega)]
   ·simp [ko]
 ·refine ⟨h.sep.os,h.sep.tape,h.sep.output,by simpa using h.sep.size,fun b hb dJ=> ?_,fun b hb=> .inl hb⟩
  rw [aP _ _ _ _ (show b≠m.arr from fun e=>dJ (.inr ⟨m,nG,e⟩)),aP _ _ _ _ (show b≠nw.arr from fun e=>dJ (.inl e))];exact h.sep.out b hb dJ
theorem Tryz.ayz:(Tryz.prog.info? 287).map (fun i=>(i.zero,i.size,i.bytes))=some (some (.pointer none),1,8):=by kernel_rfl
theorem agT {k:Nat} (hk:k≤12) (w:World):(Instr.makeSlice 174 (.int .i64 (k:Int)) (.int .i64 (k:Int))).run Tryz.prog w= .ok (.slice (some ⟨w.heap.size,0,none⟩) k k) (w.alloc (.cells ((List.range k).map (fun _=>(.pointer none:Value))).toArray 287)):=by
 obtain ⟨i,bO,hzz,hsz,dX⟩:=info_parts Tryz.ayz;have h:=run_makeSlice (w:=w) 174 287 i (.pointer none) Tryz.underlying174 bO hzz .i64 .i64 (k:Int) (k:Int) (by omega) (Int.le_refl _) (by rw [hsz];simp;omega) (by rw [dX];omega) (by omega);have e:madeCells (Value.pointer none).cells ((k:Int).toNat*i.size)=((List.range k).map (fun _=>(.pointer none:Value))).toArray:=by
  rw [hsz];apply Array.ext
  ·simp [madeCells]
  ·intro j h1 h2
   simp [madeCells,Value.cells,Nat.mod_one]
 rw [e] at h;exact h
end
theorem vo {n:Nat} (h:n<18446744073709551616):IntKind.u64.wrap (n:Int)=(n:Int):=by simp [IntKind.wrap,IntKind.bits,IntKind.signed];omega
def nI (k:List UInt8) (m j:Nat):Nat:=(eF aq k+j*eF aq (k++ [1]))%m
theorem agU {x:UInt8} (h:w.heap[b]?=some (.cells #[.int .u8 x.toNat] 5 f)):Bv w (.slice (some ⟨b,0,none⟩) 1 1) [x]:=by
 refine ⟨_,_,rfl,aw _,by decide,(fun h=>by cases h),.inr ⟨b,0,rfl,af h,fun j k hk=> ?_⟩⟩;cases j with
 |zero=>cases hk;simp [World.cell?,h]
 |succ j=>simp at hk
theorem ayA {qv:Value} {y:List UInt8} (h:w.heap[b]?=some (.cells #[pv,qv] 49 (0,0))) (hx:Bv w pv x) (hy:Bv w qv y):Rv w (.slice (some ⟨b,0,none⟩) 2 2) [x,y]:=by
 refine ⟨_,_,rfl,.inr ⟨b,0,rfl,af h,fun j p hp=> ?_⟩⟩
 match j with
 |0=>cases hp;exact ⟨pv,by simp [World.cell?,h],hx⟩
 |1=>cases hp;exact ⟨qv,by simp [World.cell?,h],hy⟩
 |j+2=>simp at hp
theorem Qg {a b j:Nat} (ha:a<4294967296) (hb:b<4294967296) (hj:j<4):IntKind.u64.wrap ((j:Int)*(b:Int))=((j*b:Nat):Int)∧IntKind.u64.wrap ((a:Int)+((j*b:Nat):Int))=((a+j*b:Nat):Int):=by
 have h1:j*b≤3*b:=Nat.mul_le_mul_right _ (by omega);constructor
 ·rw [←Int.natCast_mul]
  simp [IntKind.wrap,IntKind.bits,IntKind.signed,-Int.natCast_mul];omega
 ·rw [←Int.natCast_add]
  generalize j*b=z at*;simp [IntKind.wrap,IntKind.bits,IntKind.signed];omega
theorem ayB (key:ByteArray) (hk:key.size≤100000000) {m:Nat} (hm:0<m) (acf:m<18446744073709551616) (w:World):
  Calls Tryz.prog 200 #[.string key,.int .u64 m] w fun e w'=>e= .returned (.agg #[.int .u64 (nI key.data.toList m 0:Nat),.int .u64 (nI key.data.toList m 1:Nat),.int .u64 (nI key.data.toList m 2:Nat),.int .u64 (nI key.data.toList m 3:Nat)])∧Grow w w':=by
 have ha0:=ax w (.cells #[.int .u64 0,.int .u64 0,.int .u64 0,.int .u64 0] 310);have ah:=ar w (.cells #[.int .u64 0,.int .u64 0,.int .u64 0,.int .u64 0] 310);have hsz:key.data.toList.length=key.size:=by rw [gO];rfl
 have Ha:=ae (ag ha0 ah);clear ha0 ah;go_enter Tryz.func200,Tryz.ntmps200
 go_upto_region 1 with fail
 generalize w.alloc (.cells #[.int .u64 0,.int .u64 0,.int .u64 0,.int .u64 0] 310)=wa at*;obtain ⟨vp,w1,hc1,hb1,hg1⟩:=Aj key (by omega) wa;have hg2:=ar w1 (.cells #[.slice (some ⟨wa.heap.size,0,none⟩) key.size vp] 49);have jX:=ax w1 (.cells #[.slice (some ⟨wa.heap.size,0,none⟩) key.size vp] 49);have hs1:=TQ (TP jX (hb1.grow hg2)) (by simp);have Aw:=ae hs1;have kY:=ae (hg1.trans hg2);clear jX hb1 hg1 hg2 hs1
 go_wp2_with fail
 (with_reducible refine Aw.out.mono ?_);rintro e w2 ⟨rfl,hg3⟩;rw [show ([key.data.toList]:List (List UInt8)).flatten=key.data.toList by simp];obtain ⟨GF,w3,hc3,hb3,hg4⟩:=Aj key (by omega) w2;have br:=ar w3 (.cells #[.int .u8 1] 5);have hn5:=ax w3 (.cells #[.int .u8 1] 5);have GG:=(agU (x:=1) (by simpa using hn5):Bv (w3.alloc (.cells #[.int .u8 1] 5)) (.slice (some ⟨w3.heap.size,0,none⟩) 1 1) [1])
 have tP:=hb3.grow br;obtain ⟨w5,nR⟩:∃ W,w3.alloc (.cells #[.int .u8 1] 5)=W:=⟨_,rfl⟩
 rw [nR] at br GG tP;have cx:=ar w5 (.cells #[.slice (some ⟨w2.heap.size,0,none⟩) key.size GF,.slice (some ⟨w3.heap.size,0,none⟩) 1 1] 49);have yX:=ax w5 (.cells #[.slice (some ⟨w2.heap.size,0,none⟩) key.size GF,.slice (some ⟨w3.heap.size,0,none⟩) 1 1] 49);have hs2:=TQ (ayA yX (tP.grow cx) (GG.grow cx)) (by simp);have qE:=ae hs2;have Lc:=ae (kY.out.trans (hg3.trans (hg4.trans (br.trans cx))));have JT:=nR;clear yX hb3 hg3 hg4 br cx hs2 hn5 GG tP
 go_wp2_with fail
 (with_reducible refine qE.out.mono ?_);rintro e w7 ⟨rfl,cG⟩;rw [show ([key.data.toList,[1]]:List (List UInt8)).flatten=key.data.toList++ [1] by simp];have jB:=Lc.out.trans cG;have hG:=Ha.out.2.trans jB;have vg:=jB.heap Ha.out.1;have lb:=af vg;clear JT hc1 hc3 Aw qE kY Lc cG nR;have hA:=zV key.data.toList;have hB:=zV (key.data.toList++ [1]);have Hp:=ae (show ∀ j,nI key.data.toList m j=(eF aq key.data.toList+j*eF aq (key.data.toList++ [1]))%m from fun _=>rfl);generalize eF aq key.data.toList=a at*;generalize eF aq (key.data.toList++ [1])=b at*;have aJB:IntKind.u64.wrap (a:Int)=(a:Int):=vo (by omega);have aJC:IntKind.u64.wrap (b:Int)=(b:Int):=vo (by omega);obtain ⟨m0,s0⟩:=Qg (j:=0) hA hB (by decide);obtain ⟨m1,s1⟩:=Qg (j:=1) hA hB (by decide);obtain ⟨m2,s2⟩:=Qg (j:=2) hA hB (by decide);obtain ⟨m3,s3⟩:=Qg (j:=3) hA hB (by decide);have hmz:(m:Int)≠0:=by omega
 have hG':=ae hG;have c0:w7.cell? ⟨w.heap.size,0,none⟩=some (.int .u64 0):=by simp [World.cell?,vg]
 have c1:w7.cell? ⟨w.heap.size,1,none⟩=some (.int .u64 0):=by simp [World.cell?,vg]
 have c2:w7.cell? ⟨w.heap.size,2,none⟩=some (.int .u64 0):=by simp [World.cell?,vg]
 have c3:w7.cell? ⟨w.heap.size,3,none⟩=some (.int .u64 0):=by simp [World.cell?,vg]
 have fe:=bG vg;have Qh:=ae vg;clear hG jB vg
 go_wp2_with fail
 refine wp_loop_rounds 5 ?_;rw [rounds_succ];go_wp2;rw [rounds_succ];go_wp2;rw [rounds_succ];go_wp2;rw [rounds_succ];go_wp2;rw [rounds_succ]
 go_wp2_with fail
 have r1:=Bo (v0:= .int .u64 ((a:Int)%m)) (v1:= .int .u64 (((a:Int)+b)%m)) (v2:= .int .u64 (((a:Int)+2*b)%m)) (v3:= .int .u64 (((a:Int)+3*b)%m)) Qh.out;have r2:=Bo (v0:= .int .u64 ((a:Int)%m)) (v1:= .int .u64 (((a:Int)+b)%m)) (v2:= .int .u64 (((a:Int)+2*b)%m)) (v3:= .int .u64 (((a:Int)+3*b)%m)) r1;obtain ⟨d0,d1,d2,d3⟩:=cS r2;refine bodyPost_ret (v:= .agg #[.int .u64 ((a:Int)%m),.int .u64 (((a:Int)+b)%m),.int .u64 (((a:Int)+2*b)%m),.int .u64 (((a:Int)+3*b)%m)]) (by simp [results,Tryz.results200,go_sem,d0,d1,d2,d3]) rfl ⟨?_,?_⟩
 ·rw [Hp.out 0,Hp.out 1,Hp.out 2,Hp.out 3]
  simp
 ·have hle:w.heap.size≤w.heap.size:=aw _
  exact (((((((hG'.out.setCell (p:=⟨w.heap.size,0,none⟩) hle _).setCell (p:=⟨w.heap.size,1,none⟩) hle _).setCell (p:=⟨w.heap.size,2,none⟩) hle _).setCell (p:=⟨w.heap.size,3,none⟩) hle _).setCell (p:=⟨w.heap.size,0,none⟩) hle _).setCell (p:=⟨w.heap.size,1,none⟩) hle _).setCell (p:=⟨w.heap.size,2,none⟩) hle _).setCell (p:=⟨w.heap.size,3,none⟩) hle _
structure Bk where
 first:ByteArray
 at':Nat
 size:Nat
def Bp (x:Bk):List Value:= [.string x.first,.int .i64 x.at',.int .i64 x.size]
abbrev GH (x:Bk):Array Value:=#[.string x.first,.int .i64 x.at',.int .i64 x.size]
theorem ayD (x:Bk):(Bp x).length=3:=rfl
def ig (B:Nat) (w:World) (v:Value) (xs:List Bk):Prop:=w.ownsRow B 257 3 v xs.length (xs.flatMap Bp)
theorem ig.grow {xs:List Bk} (h:ig B w v xs) (hg:Grow w w'):ig B w' v xs:=eM h hg
theorem agW (B:Nat) (w:World):ig B w (.slice none 0 0) []:=iL _ _ _ _
theorem ig.slice {xs:List Bk} (h:ig B w v xs):∃ a c,v= .slice a xs.length c:=by
 rcases h.2 with ⟨h1,h0⟩|⟨g,cap,cur,h1,_⟩
 ·exact ⟨none,0,by rw [h1,h0]⟩
 ·exact ⟨_,_,h1⟩
theorem ig.lt {xs:List Bk} (h:ig B w v xs) (hg:v.ownBlock=some g):B≤g∧g<w.heap.size∧∃ cur,w.heap[g]?=some (.cells cur 257 (0,0)):=by
 rcases h.2 with ⟨h1,h0⟩|⟨g',cap,cur,h1,hB,h3,_⟩
 ·rw [h1] at hg;cases hg
 ·rw [h1] at hg;cases hg;exact ⟨hB,af h3,cur,h3⟩
theorem ig.at {xs:List Bk} (h:ig B w v xs) {x:Bk} (hx:xs[i]?=some x):∃ g cap,v= .slice (some ⟨g,0,none⟩) xs.length cap∧g<w.heap.size∧
  w.cell? ⟨g,i*3,none⟩=some (.string x.first)∧w.cell? ⟨g,i*3+1,none⟩=some (.int .i64 x.at')∧w.cell? ⟨g,i*3+2,none⟩=some (.int .i64 x.size):=by
 rcases id h.2 with ⟨h1,h0⟩|⟨g,cap,cur,h1,hB,h3,h4,h5,h6⟩
 ·rw [iI h0] at hx;simp at hx
 ·have hr:=wC ayD (h1 ▸ h)
  refine ⟨g,cap,h1,af h3,?_,?_,?_⟩
  ·have:=hr i x hx 0 _ rfl;simpa using this
  ·have:=hr i x hx 1 _ rfl;simpa using this
  ·have:=hr i x hx 2 _ rfl;simpa using this
theorem Tryz.ayE:(Tryz.prog.info? 257).map (fun i=>(i.zero,i.size,i.bytes))=some (some (.agg #[.string ByteArray.empty,.int .i64 0,.int .i64 0]),3,32):=by kernel_rfl
theorem agX {xs:List Bk} (h:ig B w v xs) (x:Bk) (hB:B≤w.heap.size) (hl:xs.length≤1000000000):
  ∃ g cap w',(Builtin.append_ #[252,252] 252 #[v,.slice (some ⟨w.heap.size,0,none⟩) 1 1]).run Tryz.prog (w.alloc (.cells (GH x) 257))= .ok (.slice (some ⟨g,0,none⟩) (xs.length+1) cap) w'∧
   ig B w' (.slice (some ⟨g,0,none⟩) (xs.length+1) cap) (xs++ [x])∧w.grownBy w' v.ownBlock:=by
 obtain ⟨i0,bO,hz0,hz1,hz2⟩:=info_parts Tryz.ayE;have eK:(w.alloc (.cells (GH x) 257)).heap[w.heap.size]?=some (.cells (GH x) 257 (0,0)):=ax _ _;obtain ⟨g,cap,w',hrun,hown,hgr,_,_⟩:=run_append_lies (P:=Tryz.prog) (w.alloc (.cells (GH x) 257)) 252 252 B 257 i0 _ 3 32 Tryz.underlying252 bO hz0 hz1 hz2 rfl (by decide) _ _ _ (eM h (ar _ _))
  ⟨w.heap.size,0,none⟩ 1 1 (Bp x) rfl (fun j u hu=>World.news_of_block eK j u (by simpa [Bp] using hu)) (fun u hu=>by
   simp only [Bp,bE,List.not_mem_nil,or_false] at hu;rcases hu with rfl|rfl|rfl<;>rfl) (by decide) (by unfold maxLen;omega) (by omega) (by simp;omega) _ rfl
 refine ⟨g,cap,w',hrun,?_,?_⟩
 ·have yA:(xs++ [x]).flatMap Bp=xs.flatMap Bp++Bp x:=by simp
  unfold ig;rw [aJ,yA];exact hown
 ·obtain ⟨a,b,c,d,e⟩:=hgr
  exact ⟨a,b,c,aM (by simp) d,fun k hk hn=>by rw [e k (by simp;omega) hn];exact heap_alloc_old _ _ hk⟩
def od (x:Bk):List UInt8:=aW x.first.data.toList++(aD x.at'++aD x.size)
def lW:Nat→List (List En)→List Bk
 |_,[]=> []
 |k,g::gs=>⟨lu g,k,(gy g).length⟩::lW (k+(gy g).length) gs
theorem DN:∀ (gs:List (List En)) (k:Nat),(lW k gs).flatMap od=jI k gs
 | [],_=>rfl
 |g::gs,k=>by simp only [lW,List.flatMap_cons,DN gs,od,jI,ju]
theorem WJ (g:List En):∀ (gs:List (List En)) (k:Nat),lW k (gs++ [g])=lW k gs++ [⟨lu g,k+(bV gs).length,(gy g).length⟩]
 | [],k=>by simp [lW,bV]
 |h::gs,k=>by
  rw [gG,lW,lW,WJ g gs];have:(bV (h::gs)).length=(gy h).length+(bV gs).length:=by simp [bV]
  rw [this,Nat.add_assoc];rfl
theorem sj:∀ (gs:List (List En)) (k:Nat),(lW k gs).length=gs.length
 | [],_=>rfl
 |g::gs,k=>by simp [lW,sj gs]
def IxJ (w:World) (l:List Bk) (bv iv:Value) (wr:World):Prop:=
 ∃ i:Nat,iv= .int .i64 i∧i≤l.length∧aI w.heap.size wr bv ((l.take i).flatMap od)∧Grow w wr
structure agZ (x:Bk):Prop where
 key:x.first.size≤100000000
 at':x.at'<1000000000000
 size:x.size<1000000000000
theorem ayF (x:Bk):(od x).length≤x.first.size+30:=by
 have h1:=nz x.first.data.toList;have h2:=cB x.at';have h3:=cB x.size;have e1:x.first.data.toList.length=x.first.size:=by rw [gO];rfl
 simp only [od,aJ];omega
theorem aha {xs:List Bk} (h:ig B w v xs) (hf:∀ x∈xs,agZ x) (hlen:xs.length≤1000000) (nd:(xs.flatMap od).length≤100000000000):
  Calls Tryz.prog 151 #[v] w fun e w'=>∃ v',e= .returned v'∧aI w.heap.size w' v' (xs.flatMap od)∧Grow w w':=by
 have H:=ae h;have HF:=ae hf;obtain ⟨va,vc,rfl⟩:=h.slice;clear h hf;go_enter Tryz.func151,Tryz.ntmps151
 go_wp2_with fail
 go_loopw [3,8] (fun bv iv wr=>IxJ w xs bv iv wr) (fun _ iv _=>xs.length-(intOf iv).toNat)
 case atStart=>exact ⟨0,rfl,aY _,nO _ _ _,aV _⟩
 case round=>
  obtain ⟨i,rfl,hi,hown,hg⟩:=hrel;by_cases hlt:i<xs.length
  ·obtain ⟨x,hx⟩:∃ x,xs[i]?=some x:=⟨_,dZ hlt⟩
   obtain ⟨gb,cap,hv,hgb,c0,c1,c2⟩:=(H.out.grow hg).at hx;cases hv;have mO:=HF.out x (dB hx);have dS:=Vz od hx;have Ad:((xs.take (i+1)).flatMap od).length≤(xs.flatMap od).length:=by
    have e:xs.flatMap od=(xs.take (i+1)).flatMap od++(xs.drop (i+1)).flatMap od:=by rw [←List.flatMap_append,List.take_append_drop]
    rw [e,aJ];omega
   have eB:(i:Int)<(xs.length:Int):=by omega
   have bO:(0:Int)≤(i:Int):=by omega
   have fE:IntKind.i64.wrap ((i:Int)+1)=(i:Int)+1:=aS _ (by omega);obtain ⟨xf,xa,xz⟩:=x;have f1:xf.size≤100000000:=mO.key;have f2:xa<1000000000000:=mO.at';have f3:xz<1000000000000:=mO.size;have ed:xf.data.toList.length=xf.size:=by rw [gO];rfl
   have wa:=uW (n:=xa) (by omega);have wz:=uW (n:=xz) (by omega);have fP:=ax wr (.cells #[.string xf,.int .i64 xa,.int .i64 xz] 257);have ah:=ar wr (.cells #[.string xf,.int .i64 xa,.int .i64 xz] 257);have iC:=hown.grow ah;have nA:=ae dS;have Hg:=ae (hg.trans ah);have kr:=ae fP;have hpl:((xs.take i).flatMap od).length≤100000000000:=by rw [dS,aJ] at Ad;omega
   obtain ⟨PL,AG⟩:∃ PL,PL=(xs.take i).flatMap od:=⟨_,rfl⟩
   rw [←AG] at iC hpl;have VB:=ae AG;have fX:=ae iC;obtain ⟨ba,bc,rfl⟩:=iC.slice;clear hown iC dS Ad hx mO hg ah fP AG nd
   go_upto_region 5 with fail
   generalize wr.alloc (.cells #[.string xf,.int .i64 xa,.int .i64 xz] 257)=w3 at*;generalize wr.heap.size=tb at*;clear c0 c1 c2 hgb;have t0:w3.cell? ⟨tb,0,none⟩=some (.string xf):=by simp [World.cell?,kr.out]
   have t1:w3.cell? ⟨tb,1,none⟩=some (.int .i64 xa):=by simp [World.cell?,kr.out]
   have t2:w3.cell? ⟨tb,2,none⟩=some (.int .i64 xz):=by simp [World.cell?,kr.out]
   have Kl:=af kr.out;have aQ:=Grow.cells (w:=w3);refine ou (fun V=>Below w3.heap.size w3 V) [(0,false),(1,false),(2,false),(6,false),(7,false),(8,false),(10,false),(11,false),(12,false),(3,true),(4,true),(5,true),(9,true),(13,true),(14,false)] (by kernel_rfl) (by kernel_rfl) (bK fun _ _ _ _ _ h=>h) (by ((repeat (first|exact bS _ _|assumption|refine cz ?_|refine cA ?_|refine cj ?_ ?_ _|refine cy ?_ ?_ _))<;>try (first|omega|(simp<;>omega)))) ?_;simp only [cm,nth]
   repeat ((first|(refine aA (v:= ?_) (by rfl) ?_ ?_;rotate_left;rintro W hW;go_simp;with_reducible rfl)|refine aB (by rfl) ?_);simp only [ai,List.set])
   clear t0 t1 t2 Kl aQ;have hgd:=az w3;obtain ⟨vp,w4,Ax,bC,hg4⟩:=Aj xf (by omega) w3.drew;have vq:Grow w3 w4:=hgd.trans hg4;refine fO (by rfl) (fun K hK=> ?_);go_simp;refine hK _ _ ⟨vq,?_⟩;clear hK K Ax
   try simp only [ai,List.set,aC]
   have pd:=ax w4 (.cells #[.slice (some ⟨w3.drew.heap.size,0,none⟩) xf.size vp] 49);have br:=ar w4 (.cells #[.slice (some ⟨w3.drew.heap.size,0,none⟩) xf.size vp] 49);have yD:=vq.trans br;refine fO (by rfl) (fun K hK=> ?_);go_simp;refine hK _ _ ⟨yD,?_⟩;clear hK K
   try simp only [ai,List.set,aC]
   refine bp (by rfl) (by go_simp) (CN (cI (fX.out.grow yD)) (by omega) pd (bC.grow br) (by omega)) ?_;rintro e w6 ⟨v6,rfl,lQ,cx⟩;have Dn:=yD.trans cx;refine ⟨_,rfl,Dn,?_⟩
   try simp only [ai,List.set,aC]
   refine bp (by rfl) (by go_simp) (oI (cI lQ) (by have:=nz xf.data.toList;simp only [aJ];omega) (n:=xa) (by omega)) ?_;rintro e w7 ⟨v7,rfl,jT,cG⟩;have Qi:=Dn.trans cG;refine ⟨_,rfl,Qi,?_⟩
   try simp only [ai,List.set,aC]
   refine bp (by rfl) (by go_simp) (oI (cI jT) (by have:=nz xf.data.toList;have:=cB xa;simp only [aJ];omega) (n:=xz) (by omega)) ?_;rintro e w8 ⟨v8,rfl,qT,di⟩;have WK:=Qi.trans di;refine ⟨_,rfl,WK,?_⟩
   try simp only [ai,List.set,aC]
   have hrel:IxJ w xs v8 (.int .i64 ((i:Int)+1)) w8:=⟨i+1,by simp,hlt,by
    have h1:=qT.mono (aM Hg.out.size Qi.size);rw [nA.out,←VB.out];simpa [od,ju] using h1,Hg.out.trans WK⟩
   have aX:=ae hrel;obtain ⟨DR,xL,DT,rfl⟩:∃ a L c,v8= .slice a L c:=by obtain ⟨a,c,h⟩:=qT.slice;exact ⟨_,_,_,h⟩
   clear lQ jT qT Dn Qi WK cx cG di yD br vq hg4 pd bC hrel hgd
   repeat ((first|(refine aA (v:= ?_) (by rfl) ?_ ?_;rotate_left;rintro W hW;go_simp;with_reducible rfl)|refine aB (by rfl) ?_);simp only [ai,List.set])
   refine bj ?_;go_wp2;go_roundw
   case rel=>exact aX.out
   case measure=>simp [intOf];omega
  ·obtain rfl:i=xs.length:=by omega
   rw [ij] at hown;have fX:=ae hown;obtain ⟨ba,bc,rfl⟩:=hown.slice;clear hown;go_wp2;go_ret;exact ⟨_,rfl,fX.out,hg⟩
theorem Ld (W:World) (o:Option Nat):W.grownBy W o:=⟨rfl,rfl,rfl,aw _,fun _ _ _=>rfl⟩
theorem WL (h:Grow W W') (o:Option Nat):W.grownBy W' o:=⟨h.os,h.tape,h.output,h.size,fun b hb _=>h.block b hb⟩
def DU (eb:Nat) (v0:Value) (g:UInt8) (vv:Value) (j:Nat) (v:Value) (W:World):Prop:=
 match j with
 |0=>v=v0
 |1=>v= .int .u8 (g.toNat:Int)
 |2=>∃ q:Nat,v= .slice (some ⟨q,0,none⟩) 1 1∧W.heap[q]?=some (.cells #[.int .u8 (g.toNat:Int)] 5 (0,0))∧some q≠v0.ownBlock
 |4=>v= .pointer (some ⟨eb,3,none⟩)
 |5=>v=vv
 |6=>∃ q:Nat,v= .slice (some ⟨q,0,none⟩) 1 1∧W.heap[q]?=some (.cells #[vv] 49 (0,0))∧some q≠v0.ownBlock
 |_=>True
theorem DU.keep {eb:Nat} {g:UInt8} {vv:Value}:∀ (j:Nat) (v:Value) (W W':World),W.grownBy W' v0.ownBlock→DU eb v0 g vv j v W→DU eb v0 g vv j v W':=by
 intro j v W W' hR h;unfold DU at h
 split at h<;>first
  |exact h
  |(obtain ⟨q,h1,h2,h3⟩:=h;exact ⟨q,h1,(hR.block q (af h2) h3).trans h2,h3⟩)
  |(unfold DU;split<;>first|trivial|(exfalso;simp_all))
structure xh (w:World) (B eb:Nat) (cs:Array Value) (v0:Value) (L:List UInt8) (g:UInt8) (val:List UInt8) (l:Array Bool) (a:Act) (W:World):Prop where
 below:Below w.heap.size w W
 base:B≤W.heap.size
 box:W.heap[eb]?=some (.cells cs 60 (0,0))
 own:l.getD 3 false=false→aI B W v0 L
 lt:∀ k,v0.ownBlock=some k→w.heap.size≤k∧k<W.heap.size
 app:l.getD 3 false=true→∃ v,a.tmps[20]?=some v∧aI B W v (L++ [g])
 Bq:l.getD 7 false=true→∃ v,a.tmps[24]?=some v∧aI B W v (L++ [g]++aW val)
 res:l.getD 8 false=true→∃ v,a.tmps[4]?=some v∧aI B W v (L++ [g]++aW val)
theorem xh.next {eb:Nat} {g:UInt8} {l:Array Bool} {a:Act} (h:xh w B eb cs v0 L g val l a W) (hi:i≠3∧i≠7∧i≠8) (hd:d≠20∧d≠24∧d≠4) (hg:Grow W W'):xh w B eb cs v0 L g val (l.setIfInBounds i true) (a.put (some d) v) W':=
 ⟨h.below.trans (hg.mono h.below.size),aM h.base hg.size,hg.heap h.box,fun hl=>(h.own (by rw [getD_set_ne false hi.1] at hl;exact hl)).grow hg,fun k e=>⟨(h.lt k e).1,cf (h.lt k e).2 hg.size⟩,
  fun hl=>by
   obtain ⟨u,h1,h2⟩:=h.app (by rw [getD_set_ne false hi.1] at hl;exact hl);exact ⟨u,gi hd.1 h1,h2.grow hg⟩,
  fun hl=>by
   obtain ⟨u,h1,h2⟩:=h.Bq (by rw [getD_set_ne false hi.2.1] at hl;exact hl);exact ⟨u,gi hd.2.1 h1,h2.grow hg⟩,
  fun hl=>by
   obtain ⟨u,h1,h2⟩:=h.res (by rw [getD_set_ne false hi.2.2] at hl;exact hl);exact ⟨u,gi hd.2.2 h1,h2.grow hg⟩⟩
theorem ayG (h:Bv w bv l) (hl:l.length≤100000000000) {x:Ev} (hx:kJ N w x) (hk:x.e.key.size≤100000000) (hs:x.e.seq<18446744073709551616) (hv:x.e.val.length≤1000000000):
  Calls Tryz.prog 159 #[bv,.agg (bW x)] w fun e w'=>∃ v,e= .returned v∧aI w.heap.size w' v (l++oZ x.e)∧Grow w w':=by
 obtain ⟨⟨xk,xs,xg,xd⟩,xv⟩:=x;obtain ⟨xa,xc,iH⟩:=hx.slice;simp only at iH hk hs hv;subst iH;have il:Bv w (.slice xa xd.length xc) xd:=hx.1;obtain ⟨ba,bc,rfl⟩:=h.slice;have ed:xk.data.toList.length=xk.size:=by rw [gO];rfl
 have dK:=ax w (.cells #[.string xk,.int .u64 xs,.bool xg,.slice xa xd.length xc] 60);have ah:=ar w (.cells #[.string xk,.int .u64 xs,.bool xg,.slice xa xd.length xc] 60);have Hb:=ae h;have yY:=ae il;have cQ:=ae ah;have pQ:=ae dK;clear h hx il ah dK;show Calls Tryz.prog 159 #[.slice ba l.length bc,.agg #[.string xk,.int .u64 xs,.bool xg,.slice xa xd.length xc]] w _;go_enter Tryz.func159,Tryz.ntmps159
 go_upto_region 1 with fail
 generalize w.alloc (.cells #[.string xk,.int .u64 xs,.bool xg,.slice xa xd.length xc] 60)=w1 at*;obtain ⟨eb,np⟩:∃ eb,eb=w.heap.size:=⟨_,rfl⟩
 rw [←np] at pQ ⊢;have DV:=ae np;clear np;obtain ⟨t0,t1,t2,t3⟩:=cS pQ.out;have WM:=af pQ.out;have aQ:=Grow.cells (w:=w1);refine ou (fun V=>Below w1.heap.size w1 V) [(0,false),(1,false),(2,false),(6,false),(7,false),(3,true),(4,true),(5,true),(8,true),(9,false)] (by kernel_rfl) (by kernel_rfl) (bK fun _ _ _ _ _ h=>h) (by ((repeat (first|exact bS _ _|assumption|refine cz ?_|refine cA ?_|refine cj ?_ ?_ _|refine cy ?_ ?_ _))<;>try (first|omega|(simp<;>omega)))) ?_;simp only [cm,nth]
 repeat ((first|(refine aA (v:= ?_) (by rfl) ?_ ?_;rotate_left;rintro W hW;go_simp;with_reducible rfl)|refine aB (by rfl) ?_);simp only [ai,List.set])
 clear t0 t1 t2 t3 WM aQ;have hgd:=az w1;obtain ⟨vp,w4,Ax,bC,hg4⟩:=Aj xk (by omega) w1.drew;have qd:Grow w1 w4:=hgd.trans hg4;refine fO (by rfl) (fun K hK=> ?_);go_simp;refine hK _ _ ⟨qd,?_⟩;clear hK K Ax
 try simp only [ai,List.set,aC]
 have pd:=ax w4 (.cells #[.slice (some ⟨w1.drew.heap.size,0,none⟩) xk.size vp] 49);have br:=ar w4 (.cells #[.slice (some ⟨w1.drew.heap.size,0,none⟩) xk.size vp] 49);have rf:=qd.trans br;refine fO (by rfl) (fun K hK=> ?_);go_simp;refine hK _ _ ⟨rf,?_⟩;clear hK K
 try simp only [ai,List.set,aC]
 refine bp (by rfl) (by go_simp) (CN (Hb.out.grow (cQ.out.trans rf)) (by omega) pd (bC.grow br) (by omega)) ?_;rintro e w6 ⟨v6,rfl,lQ,cx⟩;have Qj:=rf.trans cx;refine ⟨_,rfl,Qj,?_⟩
 try simp only [ai,List.set,aC]
 refine bp (by rfl) (by go_simp) (oI (cI lQ) (by have:=nz xk.data.toList;simp only [aJ];omega) (n:=xs) (by omega)) ?_;rintro e w7 ⟨v7,rfl,jT,cG⟩;have jB:=Qj.trans cG;refine ⟨_,rfl,jB,?_⟩
 try simp only [ai,List.set,aC]
 obtain ⟨L,hL⟩:∃ L,L=l++aW xk.data.toList++aD xs:=⟨_,rfl⟩
 rw [←hL] at jT;have GI:L.length≤200000000000:=by rw [hL];have:=nz xk.data.toList;have:=cB xs;simp only [aJ];omega
 have HL:=ae hL;have AU:aI w.heap.size w7 v7 L:=jT.mono (aM cQ.out.size Qj.size);obtain ⟨va,vL,vc,rfl⟩:∃ a L c,v7= .slice a L c:=by obtain ⟨a,c,h⟩:=jT.slice;exact ⟨_,_,_,h⟩
 have ahb:=jB.heap pQ.out;have GJ:=ae (cQ.out.trans jB);have ahc:=ae AU;have WN:=ae ahb;clear hg4 qd pd br rf lQ cx Qj jT cG jB bC hL AU hgd ahb
 repeat ((first|(refine aA (v:= ?_) (by rfl) ?_ ?_;rotate_left;rintro W hW;go_simp;with_reducible rfl)|refine aB (by rfl) ?_);simp only [ai,List.set])
 refine bj ?_;obtain ⟨gb,hgb⟩:∃ gb:UInt8,gb=if xg then 1 else 0:=⟨_,rfl⟩
 obtain ⟨t0,t1,t2,t3⟩:=cS WN.out;have lt7:=af WN.out;have CA:∀ u:List UInt8,l++oZ ⟨xk,xs,xg,xd⟩=L++ [gb]++aW xd:=fun _=>by
  rw [HL.out,hgb];simp [oZ]
 have CB:=ae (CA []);clear CA
 go_upto_if 16 with fail
 go_cut [5] from 5 to 5 (fun gv wx=>gv= .int .u8 ((gb:UInt8).toNat:Int)∧wx=w7)
 case first=>
  cases xg with
  |false=>
   obtain rfl:gb=0:=by rw [hgb];rfl
   go_wp2;go_meet;exact ⟨rfl,rfl⟩
  |true=>
   obtain rfl:gb=1:=by rw [hgb];rfl
   go_wp2;go_meet;exact ⟨rfl,rfl⟩
 case rest=>
 obtain ⟨rfl,hwc⟩:=hcut;have hwc':=hwc.symm;subst hwc';clear hwc hgb
 go_upto_region 5 with fail
 refine uB (fun a0 ha0=> ?_);have F0:a0.tmps[0]?=some (.slice va vL vc):=by rw [ha0];rfl
 have F3:a0.tmps[3]?=some (.pointer (some ⟨eb,0,none⟩)):=by rw [ha0];rfl
 have F5:a0.tmps[5]?=some (.int .u8 ((gb:UInt8).toNat:Int)):=by rw [ha0];rfl
 have hsz:a0.tmps.size=25:=by rw [ha0];rfl
 have lS:=ae ha0;clear ha0 t0 t1 t2 t3 lt7;refine uD (DU eb (.slice va vL vc) gb (.slice xa xd.length xc)) (xh w w.heap.size eb #[.string xk,.int .u64 xs,.bool xg,.slice xa xd.length xc] (.slice va vL vc) L gb xd) (fun W W'=>W.grownBy W' (Value.slice va vL vc).ownBlock) [4,17,18,19,20,21,22,23,24] (by kernel_rfl) (by kernel_rfl) (by rw [hsz];rfl) DU.keep ⟨GJ.out.trans (az w7),GJ.out.size,WN.out,fun _=>ahc.out.grow (az w7),(fun k e=>ahc.out.lt e),(fun h=>by cases h),(fun h=>by cases h),(fun h=>by cases h)⟩ ?_ (fun a1 W1 hf=> ?_);rotate_left
 ·obtain ⟨v,hv4,hq⟩:=hf.world.res rfl
  have hG:=hf.world.below;have e:=hf.alike.fill;rw [lS.out] at e;simp only [List.foldl_cons,List.foldl_nil,Act.put,mf,List.set_cons_zero,kz] at e;have h4:a1.tmps.getD 4 undef=v:=by rw [eQ,hv4];rfl
  obtain ⟨u17,h17⟩:∃ u,a1.tmps.getD 17 undef=u:=⟨_,rfl⟩
  obtain ⟨u18,h18⟩:∃ u,a1.tmps.getD 18 undef=u:=⟨_,rfl⟩
  obtain ⟨u19,h19⟩:∃ u,a1.tmps.getD 19 undef=u:=⟨_,rfl⟩
  obtain ⟨u20,h20⟩:∃ u,a1.tmps.getD 20 undef=u:=⟨_,rfl⟩
  obtain ⟨u21,h21⟩:∃ u,a1.tmps.getD 21 undef=u:=⟨_,rfl⟩
  obtain ⟨u22,h22⟩:∃ u,a1.tmps.getD 22 undef=u:=⟨_,rfl⟩
  obtain ⟨u23,Le⟩:∃ u,a1.tmps.getD 23 undef=u:=⟨_,rfl⟩
  obtain ⟨u24,xi⟩:∃ u,a1.tmps.getD 24 undef=u:=⟨_,rfl⟩
  rw [h4,h17,h18,h19,h20,h21,h22,Le,xi] at e;clear h4 hv4 hf h17 h18 h19 h20 h21 h22 Le xi;rw [e];clear e lS F0 F3 F5 hsz;obtain ⟨DR,xL,DT,rfl⟩:∃ a L c,v= .slice a L c:=by obtain ⟨a,c,h⟩:=hq.slice;exact ⟨_,_,_,h⟩
  have Hq:=ae hq;clear hq;go_wp2;go_ret;exact ⟨_,rfl,by rw [CB.out];exact Hq.out,hG⟩
 refine ⟨?_,?_,?_,?_,?_,?_,?_,?_,?_,True.intro⟩
 ·intro listed a W hf ak aj
  have hs1:=hf.sz hsz;have hT:=hf.world;have G0:=hf.got (by decide) F0 (by rw [hs1];decide);refine aR rfl (by rfl) (fun K' hK'=> ?_);go_simp;exact hK' _ _ ⟨_,rfl,(fun _ _=>rfl),Ld _ _,xh.next hT (by decide) (by decide) (aV _)⟩
 ·intro listed a W hf ak aj
  have hs1:=hf.sz hsz;have hT:=hf.world;have G5:=hf.got (by decide) F5 (by rw [hs1];decide);refine aR rfl (by rfl) (fun K' hK'=> ?_);go_simp;exact hK' _ _ ⟨_,rfl,(fun _ _=>rfl),Ld _ _,xh.next hT (by decide) (by decide) (aV _)⟩
 ·intro listed a W hf ak aj
  have hs1:=hf.sz hsz;have hT:=hf.world;obtain ⟨v1,s1,q1⟩:=hf.slot 1 18 rfl (aH aj 1 (by kernel_rfl));have Br:v1=_:=q1;subst Br;have G18:=aO s1 (by rw [hs1];decide);have hg2:Grow W (W.alloc (.cells #[.int .u8 ((gb:UInt8).toNat:Int)] 5)):=ar _ _;refine xZ rfl (by rfl) (sQ (v:= .int .u8 ((gb:UInt8).toNat:Int)) rfl Tryz.underlying49 Tryz.Oc rfl (by show a.tmps.getD 18 undef=_;rw [eQ,s1];rfl) rfl) ?_;exact ⟨_,rfl,(fun _ _=>⟨W.heap.size,rfl,ax _ _,fun e=>by
   have:=(hT.lt W.heap.size e.symm).2;omega⟩),WL hg2 _,xh.next hT (by decide) (by decide) hg2⟩
 ·intro listed a W hf ak aj
  have hs1:=hf.sz hsz;have hT:=hf.world;obtain ⟨v0,s0,q0⟩:=hf.slot 0 17 rfl (aH aj 0 (by kernel_rfl));have WO:v0=_:=q0;subst WO;have G17:=aO s0 (by rw [hs1];decide);obtain ⟨v2,s2,q2⟩:=hf.slot 2 19 rfl (aH aj 2 (by kernel_rfl));obtain ⟨q,rfl,hq,hne⟩:=q2;have G19:=aO s2 (by rw [hs1];decide);have nJ:listed.getD 3 false=false:=by
   rw [eQ] at ak ⊢;cases hx:listed[3]? with
   |none=>rw [hx] at ak;cases ak
   |some b=>rw [hx] at ak;exact ak
  have ku:=dI hf.closed (n:=8) (e:=7) (i:=3) (by kernel_rfl) ak;have kK:=dI hf.closed (n:=8) (e:=8) (i:=3) (by kernel_rfl) ak;have qU:Bv W (.slice (some ⟨q,0,none⟩) 1 1) [gb]:=agU hq;obtain ⟨v',W2,r1,r2,r3,r4⟩:=rB (hT.own nJ) qU hT.base (by simp;omega);refine xZ rfl (by rfl) (Cu rfl (by show a.tmps.getD 17 undef=_;rw [eQ,s0];rfl) (by show a.tmps.getD 19 undef=_;rw [eQ,s2];rfl) r1) ?_;refine ⟨_,rfl,(fun _ _=>True.intro),r3,?_⟩;have hlen:3<listed.size:=by rw [hf.size];decide
  have iC:=hT.own nJ;exact ⟨hT.below.grown r3 hT.below.size (fun k e=>(hT.lt k e).1),aM hT.base r3.size,(r3.block eb (af hT.box) (fun e=>by
    obtain ⟨cur,hc⟩:=iC.block e.symm;rw [hT.box] at hc;exact absurd (cE (bk hc)).2.1 (by decide))).trans hT.box,
   (fun hl=>by rw [jQ hlen] at hl;cases hl),(fun k e=>⟨(hT.lt k e).1,cf (hT.lt k e).2 r3.size⟩),(fun _=>⟨v',pK (by rw [hs1];decide),r2⟩),(fun hl=>by rw [getD_set_ne false (by decide)] at hl;rw [ku] at hl;cases hl),(fun hl=>by rw [getD_set_ne false (by decide)] at hl;rw [kK] at hl;cases hl)⟩
 ·intro listed a W hf ak aj
  have hs1:=hf.sz hsz;have hT:=hf.world;have G3:=hf.got (by decide) F3 (by rw [hs1];decide);refine aR rfl (by rfl) (fun K' hK'=> ?_);go_simp;exact hK' _ _ ⟨_,rfl,(fun _ _=>rfl),Ld _ _,xh.next hT (by decide) (by decide) (aV _)⟩
 ·intro listed a W hf ak aj
  have hs1:=hf.sz hsz;have hT:=hf.world;have G21:=aO (hf.sv 4 21 rfl (aH aj 4 (by kernel_rfl)) fun _ _ h=>h) (by rw [hs1];decide);obtain ⟨Dh,Di,Dj,VH⟩:=cS hT.box;have lb:=af hT.box;refine aR rfl (by rfl) (fun K' hK'=> ?_);go_simp;exact hK' _ _ ⟨_,rfl,(fun _ _=>rfl),Ld _ _,xh.next hT (by decide) (by decide) (aV _)⟩
 ·intro listed a W hf ak aj
  have hs1:=hf.sz hsz;have hT:=hf.world;obtain ⟨v5,s5,q5⟩:=hf.slot 5 22 rfl (aH aj 5 (by kernel_rfl));have q5':v5=_:=q5;subst q5';have G22:=aO s5 (by rw [hs1];decide);have hg2:Grow W (W.alloc (.cells #[.slice xa xd.length xc] 49)):=ar _ _;refine xZ rfl (by rfl) (sQ (v:= .slice xa xd.length xc) rfl Tryz.underlying131 Tryz.ye rfl (by show a.tmps.getD 22 undef=_;rw [eQ,s5];rfl) rfl) ?_;exact ⟨_,rfl,(fun _ _=>⟨W.heap.size,rfl,ax _ _,fun e=>by
   have:=(hT.lt W.heap.size e.symm).2;omega⟩),WL hg2 _,xh.next hT (by decide) (by decide) hg2⟩
 ·intro listed a W hf ak aj
  have hs1:=hf.sz hsz;have hT:=hf.world;obtain ⟨v6,s6,q6⟩:=hf.slot 6 23 rfl (aH aj 6 (by kernel_rfl));obtain ⟨q,rfl,hq,hne⟩:=q6;have G23:=aO s6 (by rw [hs1];decide);obtain ⟨v3,s3,iC⟩:=hT.app (aH aj 3 (by kernel_rfl));have G20:=aO s3 (by rw [hs1];decide);refine jE rfl (by rfl) (by go_simp) (CN (cI iC) (by simp only [aJ,dH,iK];omega) hq (yY.out.grow hT.below) (by omega)) ?_;rintro e W2 ⟨v,rfl,ho,hg2⟩;have kK:=dI hf.closed (n:=8) (e:=8) (i:=7) (by kernel_rfl) ak;have h3l:=aH aj 3 (by kernel_rfl);exact ⟨_,rfl,_,rfl,(fun _ _=>True.intro),WL hg2 _,hT.below.trans (hg2.mono hT.below.size),aM hT.base hg2.size,hg2.heap hT.box,(fun hl=>by rw [getD_set_ne false (by decide)] at hl;rw [h3l] at hl;cases hl),
   (fun k e=>⟨(hT.lt k e).1,cf (hT.lt k e).2 hg2.size⟩),(fun _=>⟨v3,gi (by decide) s3,iC.grow hg2⟩),(fun _=>⟨v,pK (by rw [hs1];decide),ho.mono hT.base⟩),(fun hl=>by rw [getD_set_ne false (by decide)] at hl;rw [kK] at hl;cases hl)⟩
 ·intro listed a W hf ak aj
  have hs1:=hf.sz hsz;have hT:=hf.world;obtain ⟨v7,s7,AU⟩:=hT.Bq (aH aj 7 (by kernel_rfl));have G24:=aO s7 (by rw [hs1];decide);have nJ:=hT.own;refine aR rfl (by rfl) (fun K' hK'=> ?_);go_simp;exact hK' _ _ ⟨_,rfl,(fun _ _=>True.intro),Ld _ _,hT.below,hT.base,hT.box,(fun hl=>hT.own (by rw [getD_set_ne false (by decide)] at hl;exact hl)),hT.lt,
   (fun hl=>by obtain ⟨u,h1,h2⟩:=hT.app (by rw [getD_set_ne false (by decide)] at hl;exact hl);exact ⟨u,gi (by decide) h1,h2⟩),(fun _=>⟨v7,gi (by decide) s7,AU⟩),(fun _=>⟨v7,pK (by rw [hs1];decide),AU⟩)⟩
end Go.Proofs.YtoolkdapflaeeaaGreatDoor
namespace Go.Proofs.YtoolkdapflaeeaaGreatDoor
open Go.RowKit Go.Gl Mn
structure Wr where
 key:ByteArray
 gone:Bool
 val:List UInt8
def jD (s:Nat) (w:Wr):En:=⟨w.key,s,w.gone,if w.gone then [] else w.val⟩
def gA (s:Nat) (ws:List Wr) (l:List En):List En:=ws.foldl (fun l w=>kn (jD s w) l) l
def pg (k:ByteArray) (ws:List Wr):Option Wr:=(ws.filter (fun w=>decide (w.key=k))).getLast?
theorem WQ (s:Nat) (l:List En):gA s [] l=l:=rfl
theorem ahj (s:Nat) (ws:List Wr) (w:Wr) (l:List En):gA s (ws++ [w]) l=kn (jD s w) (gA s ws l):=by simp [gA]
theorem ahk (s:Nat) (ws:List Wr) (w:Wr) (l:List En):gA s (w::ws) l=gA s ws (kn (jD s w) l):=rfl
theorem ahl (s:Nat):∀ (ws:List Wr) {l:List En},cn l→cn (gA s ws l)
 | [],_,h=>h
 |_::ws,_,h=>ahl s ws (Wp h)
theorem ayL (k:ByteArray) (ws:List Wr) (w:Wr):pg k (ws++ [w])=if w.key=k then some w else pg k ws:=by
 unfold pg;rw [List.filter_append];by_cases h:w.key=k
 ·simp [h]
 ·simp [h]
theorem ahm {α:Type} {P:List α→Prop} (h0:P []) (h1:∀ l a,P l→P (l++ [a])) (l:List α):P l:=by
 have:∀ l:List α,P l.reverse:=fun l=>by
  induction l with
  |nil=>exact h0
  |cons a l ih=>rw [List.reverse_cons];exact h1 _ _ ih
 have h2:=this l.reverse;rwa [List.reverse_reverse] at h2
theorem ayM {k:ByteArray} {ws:List Wr} {w:Wr} (h:pg k ws=some w):w∈ws∧w.key=k:=by
 unfold pg at h;have:=List.mem_of_getLast? h;obtain ⟨h1,h2⟩:=List.mem_filter.1 this;exact ⟨h1,by simpa using h2⟩
theorem ahn {l:List En} (hl:cn l) {e:En} (ws:List Wr):e∈gA s ws l↔(∃ w,pg e.key ws=some w∧e=jD s w)∨(e∈l∧(e.seq=s→pg e.key ws=none)):=by
 induction ws using ahm generalizing e with
 |h0=>simp [WQ,pg]
 |h1 ws w ih=>
  rw [ahj,Wo (ahl s ws hl),ih,ayL];have CI:oY e (jD s w)↔e.key=w.key∧e.seq=s:=Iff.rfl;rw [CI];by_cases hk:w.key=e.key
  ·rw [if_pos hk]
   constructor
   ·rintro (h|⟨h|⟨h1,h2⟩,h3⟩)
    ·exact .inl ⟨w,rfl,h⟩
    ·obtain ⟨w',hw',he⟩:=h
     exact absurd ⟨hk.symm,by rw [he];rfl⟩ h3
    ·exact .inr ⟨h1,fun hs=>absurd ⟨hk.symm,hs⟩ h3⟩
   ·rintro (⟨w',hw',he⟩|⟨h1,h2⟩)
    ·cases hw';exact .inl he
    ·by_cases hs:e.seq=s
     ·cases h2 hs
     ·exact .inr ⟨.inr ⟨h1,fun h=>absurd h hs⟩,fun h=>hs h.2⟩
  ·rw [if_neg hk]
   constructor
   ·rintro (h|⟨h|⟨h1,h2⟩,_⟩)
    ·exact absurd (by rw [h];rfl) hk
    ·exact .inl h
    ·exact .inr ⟨h1,h2⟩
   ·rintro (h|⟨h1,h2⟩)
    ·exact .inr ⟨.inl h,fun h3=>hk h3.1.symm⟩
    ·exact .inr ⟨.inr ⟨h1,h2⟩,fun h3=>hk h3.1.symm⟩
theorem ayN {a b:En} (h:fM a b):a≠b:=fun e=>yT b (by rw [e] at h;exact h)
def Qk (ls:List (List En)) (out:List En):Prop:=cn out∧∀ e,e∈out↔∃ l∈ls,e∈l
def seen (l:List En) (key:ByteArray) (up:Nat):Option En:=match fT key up l with|none=>none|some e=>if e.gone then none else some e
end Go.Proofs.YtoolkdapflaeeaaGreatDoor
namespace Go.Proofs.YtoolkdapflaeeaaGreatDoor
open Go.RowKit Go.Gl Go.aF Mn
def yZ (l:List En):Prop:=∀ e∈l,e.gone=true→e.val= []
theorem Es.read {ys:List Ev} (h:Es N w v ys) (hg:Grow w wr) (hi:i<ys.length):
  ∃ x b o c xa xc,ys[i]?=some x∧v= .slice (some ⟨b,o,none⟩) ys.length c∧b<wr.heap.size∧x.v= .slice xa x.e.val.length xc∧kJ N wr x∧
   wr.cell? ⟨b,o+i*4,none⟩=some (.string x.e.key)∧wr.cell? ⟨b,o+i*4+1,none⟩=some (.int .u64 x.e.seq)∧wr.cell? ⟨b,o+i*4+2,none⟩=some (.bool x.e.gone)∧wr.cell? ⟨b,o+i*4+3,none⟩=some (.slice xa x.e.val.length xc):=by
 have hE:=h.grow hg;have hx:=dZ hi;obtain ⟨b,o,c,hv,_,hb,bm⟩:=hE.addr hx;obtain ⟨d0,d1,d2,d3⟩:=KU bm hx;have cN:=hE.get hx;obtain ⟨xa,xc,iH⟩:=cN.slice;rw [iH] at d3;exact ⟨_,b,o,c,xa,xc,hx,hv,hb,iH,cN,d0,d1,d2,d3⟩
def DW (l:List En) (i:Nat):Bool:=decide (i=0)||match l[i]?,l[i-1]? with|some a,some b=>decide (a.key≠b.key)|_,_=>false
def sk (l:List En) (n:Nat):Nat:=((List.range n).filter (DW l)).length
def gV (l:List En):Nat:=max 8 ((10*sk l l.length+7) / 8)
def Lf (bits:List UInt8) (p:Nat):List UInt8:=bits.set (p / 8) (UInt8.ofNat ((bits.getD (p / 8) 0).toNat|||2^(p%8)))
def pj (m:Nat) (bits:List UInt8) (k:List UInt8):Nat→List UInt8
 |0=>bits
 |j+1=>Lf (pj m bits k j) (nI k m j)
def dV (l:List En):List UInt8:=l.foldl (fun b e=>pj (8*gV l) b e.key.data.toList 4) (List.replicate (gV l) 0)
theorem ayO (bits:List UInt8) (p:Nat):(Lf bits p).length=bits.length:=by simp [Lf]
theorem WR (m:Nat) (bits k:List UInt8):∀ j,(pj m bits k j).length=bits.length
 |0=>rfl
 |j+1=>by rw [pj,ayO,WR m bits k j]
theorem WS (m:Nat):∀ (l:List En) (b:List UInt8),(l.foldl (fun b e=>pj m b e.key.data.toList 4) b).length=b.length
 | [],_=>rfl
 |e::l,b=>by rw [List.foldl_cons,WS m l,WR]
theorem Lg (l:List En):(dV l).length=gV l:=by unfold dV;rw [WS,List.length_replicate]
theorem GK (l:List En) (n:Nat):sk l n≤n:=by
 unfold sk;exact aM (List.length_filter_le _ _) (by simp)
theorem ayP (l:List En) (n:Nat):sk l (n+1)=sk l n+(if DW l n then 1 else 0):=by
 unfold sk;rw [List.range_succ,List.filter_append,aJ];congr 1;cases h:DW l n<;>simp [h]
theorem ayQ {k:List UInt8} {m:Nat} (h:0<m):nI k m j<m:=Nat.mod_lt _ h
theorem aho (N:Nat) (hN:N≤10000000) (w:World):∃ w',(Instr.makeSlice 49 (.int .i64 (N:Int)) (.int .i64 (N:Int))).run Tryz.prog w= .ok (.slice (some ⟨w.heap.size,0,none⟩) N N) w'∧
  w'.heap[w.heap.size]?=some (.cells (dE (List.replicate N 0)).toArray 5 (0,0))∧Grow w w':=by
 obtain ⟨i,bO,hzz,hsz,dX⟩:=info_parts Tryz.Oc;have h:=run_makeSlice (w:=w) 49 5 i (.int .u8 0) Tryz.underlying49 bO hzz .i64 .i64 (N:Int) (N:Int) (by omega) (Int.le_refl _) (by rw [hsz];simp;omega) (by rw [dX];omega) (by omega);refine ⟨_,h,?_,ar _ _⟩;have e:madeCells (Value.int .u8 0).cells ((N:Int).toNat*i.size)=(dE (List.replicate N 0)).toArray:=by
  rw [hsz];apply Array.ext
  ·simp [madeCells,dE]
  ·intro j h1 h2
   simp [madeCells,dE,Value.cells,Nat.mod_one]
 rw [e];exact ax _ _
theorem ayR (h:W.heap[g]?=some (.cells (dE L).toArray 5 (0,0))) (x:UInt8):(W.setCell ⟨g,q,none⟩ (.int .u8 (x.toNat:Int))).heap[g]?=some (.cells (dE (L.set q x)).toArray 5 (0,0)):=by
 rw [Go.Gl.aK h q _];simp [dE,List.map_set]
theorem ahp (hB:B≤g) (h:W.heap[g]?=some (.cells (dE L).toArray 5 (0,0))) (hl:L.length≤1000000000):aI B W (.slice (some ⟨g,0,none⟩) L.length L.length) L:=by
 refine .inr ⟨g,L.length,_,by rw [jF],hB,h,?_,?_,?_,?_⟩
 ·rw [jF];exact aw _
 ·simp [dE]
 ·unfold maxLen;omega
 ·exact ij ..
theorem ayS {b r:Nat} (hb:b<256) (hr:r<8):bits .or .u8 (b:Int) ((2^r:Nat):Int)=(((UInt8.ofNat (b|||2^r)).toNat:Nat):Int):=by
 have h2:2^r<256:=cf (Nat.pow_lt_pow_right (by decide) hr) (by decide);rw [u8_or_nat b (2^r) hb h2,UInt8.toNat_ofNat_of_lt' (Nat.or_lt_two_pow (n:=8) hb h2)]
def ayT (w:World) (l:List En) (nv iv:Value) (wr:World):Prop:=∃ i:Nat,iv= .int .i64 (i:Int)∧i≤l.length∧nv= .int .i64 (sk l i:Nat)∧Grow w wr
def WT (w:World) (l:List En) (g:Nat) (iv:Value) (wr:World):Prop:=∃ i:Nat,iv= .int .i64 (i:Int)∧i≤l.length∧wr.heap[g]?=some (.cells (dE ((l.take i).foldl (fun b e=>pj (8*gV l) b e.key.data.toList 4) (List.replicate (gV l) 0))).toArray 5 (0,0))∧Below w.heap.size w wr
def ahq (w:World) (m:Nat) (L k:List UInt8) (g:Nat) (iv:Value) (wr:World):Prop:=∃ j:Nat,iv= .int .i64 (j:Int)∧j≤4∧wr.heap[g]?=some (.cells (dE (pj m L k j)).toArray 5 (0,0))∧Below w.heap.size w wr
theorem ahr {ys:List Ev} (h:Es N w v ys) (hlen:ys.length≤1000000) (hk:∀ y∈ys,y.e.key.size≤100000000):
  Calls Tryz.prog 149 #[v] w fun e w'=>∃ v',e= .returned v'∧aI w.heap.size w' v' (dV (ys.map Ev.e))∧Grow w w':=by
 have H:=ae h;have HK:=ae hk;obtain ⟨va,vc,rfl⟩:=h.slice;clear h hk;go_enter Tryz.func149,Tryz.ntmps149
 go_wp2_with fail
 go_loopw [3,12] (fun nv iv wr=>ayT w (ys.map Ev.e) nv iv wr) (fun _ iv _=>ys.length-(intOf iv).toNat)
 case atStart=>exact ⟨0,rfl,aY _,rfl,aV _⟩
 case round=>
  obtain ⟨i,rfl,hi,rfl,hg⟩:=hrel;rw [bF] at hi;have ko:=GK (ys.map Ev.e) i;by_cases hlt:i<ys.length
  ·obtain ⟨x,b,o,c,xa,xc,hx,hv,hb,cN,mP,c0,c1,c2,c3⟩:=H.out.read hg hlt
   cases hv;have eB:(i:Int)<(ys.length:Int):=by omega
   have bO:(0:Int)≤(i:Int):=by omega
   have fE:IntKind.i64.wrap ((i:Int)+1)=((i+1:Nat):Int):=by rw [aS _ (by omega)];omega
   have Lh:IntKind.i64.wrap ((sk (ys.map Ev.e) i:Int)+1)=((sk (ys.map Ev.e) i+1:Nat):Int):=by rw [aS _ (by omega)];omega
   have rJ:=ayP (ys.map Ev.e) i;have Hg:=ae hg;clear cN mP c1 c2 c3;by_cases h0:i=0
   ·subst h0
    have vr:DW (ys.map Ev.e) 0=true:=by simp [DW]
    rw [vr,if_pos rfl] at rJ;have Ql:=ae rJ;generalize sk (ys.map Ev.e) 0=k0 at*;have Hi:=ae hi;clear hg rJ hx vr c0
    go_upto_region 5 with fail
    refine dz (fun V=>Below wr.heap.size wr V) [] (by kernel_rfl) (bK fun _ _ _ _ _ h=>h) (by ((repeat (first|exact bS _ _|assumption|refine cz ?_|refine cA ?_|refine cj ?_ ?_ _|refine cy ?_ ?_ _))<;>try (first|omega|(simp<;>omega)))) ?_;simp only [cF]
    repeat ((first|(refine aA (v:= ?_) (by rfl) ?_ ?_;rotate_left;rintro W hW;go_simp;with_reducible rfl)|refine aB (by rfl) ?_);simp only [ai,List.set])
    refine bj ?_;go_wp2;go_roundw
    case rel=>exact ⟨1,rfl,by rw [bF];omega,by rw [Ql.out];simp,Hg.out.trans (az _)⟩
    case measure=>simp [intOf];omega
   ·obtain ⟨p,hp⟩:∃ p,i=p+1:=⟨i-1,by omega⟩
    obtain ⟨y,b',o',c',ya,yc,hy,hv',hb',fH,rh,e0,_,_,_⟩:=H.out.read hg (show p<ys.length by omega);cases hv';have vr:DW (ys.map Ev.e) i= !(x.e.key.toList==y.e.key.toList):=by
     unfold DW;rw [show i-1=p by omega,gZ,gZ,hx,hy];show (decide (i=0)||decide (x.e.key≠y.e.key))=_;rw [jd,jd,decide_eq_false h0];by_cases uu:x.e.key=y.e.key
     ·simp [uu]
     ·have:¬ x.e.key.data.toList=y.e.key.data.toList:=fun e=>uu (Bh e)
      simp only [ne_eq,uu,not_false_eq_true,decide_true,Bool.or_true];rw [beq_eq_false_iff_ne.2 this];rfl
    rw [vr] at rJ;have hz:((i:Int)==0)=false:=by simp;omega
    have hwp:IntKind.i64.wrap ((i:Int)-1)=(p:Int):=by rw [aS _ (by omega)];omega
    have yw:(0:Int)≤(p:Int):=by omega
    have sr:(p:Int)<(ys.length:Int):=by omega
    obtain ⟨bb,dX⟩:∃ bb,(x.e.key.toList==y.e.key.toList)=bb:=⟨_,rfl⟩
    rw [dX] at rJ;have Ql:=ae rJ;have aQ:=Grow.cells (w:=wr);generalize sk (ys.map Ev.e) i=k0 at*;clear hg rJ hx hy vr fH rh h0 hp
    go_upto_region 5 with fail
    refine dz (fun V=>Below wr.heap.size wr V) [] (by kernel_rfl) (bK fun _ _ _ _ _ h=>h) (by ((repeat (first|exact bS _ _|assumption|refine cz ?_|refine cA ?_|refine cj ?_ ?_ _|refine cy ?_ ?_ _))<;>try (first|omega|(simp<;>omega)))) ?_;simp only [cF]
    repeat ((first|(refine aA (v:= ?_) (by rfl) ?_ ?_;rotate_left;rintro W hW;go_simp;with_reducible rfl)|refine aB (by rfl) ?_);simp only [ai,List.set])
    refine bj ?_;clear aQ c0 e0;cases bb with
    |false=>
     go_wp2;go_roundw
     case rel=>exact ⟨i+1,rfl,by rw [bF];omega,by rw [Ql.out];simp,Hg.out.trans (az _)⟩
     case measure=>simp [intOf];omega
    |true=>
     go_wp2;go_roundw
     case rel=>exact ⟨i+1,rfl,by rw [bF];omega,by rw [Ql.out];simp,Hg.out.trans (az _)⟩
     case measure=>simp [intOf];omega
  ·obtain rfl:i=ys.length:=by omega
   have hN:gV (ys.map Ev.e)=max 8 ((10*sk (ys.map Ev.e) ys.length+7) / 8):=by unfold gV;rw [bF]
   generalize sk (ys.map Ev.e) ys.length=n at*;have hNb:gV (ys.map Ev.e)≤10000000∧8≤gV (ys.map Ev.e):=by rw [hN];omega
   have hmx:max (8:Int) ((10*(n:Int)+7) / 8)=((gV (ys.map Ev.e):Nat):Int):=by rw [hN];omega
   obtain ⟨w2,GL,hb2,hg2⟩:=aho (gV (ys.map Ev.e)) hNb.1 wr;have hFB:WT w (ys.map Ev.e) wr.heap.size (.int .i64 ((0:Nat):Int)) w2:=⟨0,rfl,aY _,by simpa using hb2,hg.trans hg2⟩
   have HFB:=ae hFB;have tQ:=hg.size;generalize wr.heap.size=g at*;clear hb2 hg2 hg hFB hN
   go_wp2_with fail
   obtain ⟨FN,Qm⟩:∃ FN,FN=gV (ys.map Ev.e):=⟨_,rfl⟩
   rw [←Qm] at hNb;rw [←Qm];have WU:=ae Qm;obtain ⟨aJR,aht⟩:=hNb;clear GL Qm hmx
   go_loopw [42] (fun iv wr=>WT w (ys.map Ev.e) g iv wr) (fun iv _=>ys.length-(intOf iv).toNat)
   case atStart=>exact HFB.out
   case round=>
    obtain ⟨i,rfl,hi,iU,fL⟩:=hrel;rw [bF] at hi;by_cases hlt:i<ys.length
    ·obtain ⟨x,b,o,c,xa,xc,hx,hv,hb,cN,mP,c0,c1,c2,c3⟩:=H.out.read fL hlt
     cases hv;have eB:(i:Int)<(ys.length:Int):=by omega
     have bO:(0:Int)≤(i:Int):=by omega
     have fE:IntKind.i64.wrap ((i:Int)+1)=((i+1:Nat):Int):=by rw [aS _ (by omega)];omega
     have uv:=HK.out x (dB hx);have ahu:((ys.map Ev.e).take (i+1)).foldl (fun b e=>pj (8*gV (ys.map Ev.e)) b e.key.data.toList 4) (List.replicate (gV (ys.map Ev.e)) 0)=pj (8*FN) (((ys.map Ev.e).take i).foldl (fun b e=>pj (8*gV (ys.map Ev.e)) b e.key.data.toList 4) (List.replicate (gV (ys.map Ev.e)) 0)) x.e.key.data.toList 4:=by
      rw [List.take_add_one,gZ,hx,List.foldl_append,WU.out];rfl
     have ed:(((ys.map Ev.e).take i).foldl (fun b e=>pj (8*gV (ys.map Ev.e)) b e.key.data.toList 4) (List.replicate (gV (ys.map Ev.e)) 0)).length=FN:=by rw [WS,List.length_replicate,WU.out]
     generalize ((ys.map Ev.e).take i).foldl (fun b e=>pj (8*gV (ys.map Ev.e)) b e.key.data.toList 4) (List.replicate (gV (ys.map Ev.e)) 0)=L at*;have ayV:=ae ahu;have qC:=ae ed;have ah:=ar wr (.cells #[.string x.e.key,.int .u64 x.e.seq,.bool x.e.gone,.slice xa x.e.val.length xc] 60);have Li:=ae (ah.heap iU);have tF:=ae (fL.trans (ah.mono fL.size));have tI:IntKind.i64.wrap (8*(FN:Int))=((8*FN:Nat):Int):=by rw [aS _ (by omega)];omega
     have hu8:IntKind.u64.wrap ((8*FN:Nat):Int)=((8*FN:Nat):Int):=vo (by omega);have DX:=ae (fun W=>ayB x.e.key uv (m:=8*FN) (by omega) (by omega) W);clear ahu ed ah iU fL hx cN mP hi;generalize ahv:8*FN=m8 at*;have Hm8:=ae ahv;clear ahv
     go_wp2_with fail
     (with_reducible refine (DX.out _).mono ?_);rintro e w3 ⟨rfl,hg3⟩;have pH:∀ j:Nat,j<4→∀ V:World,(Instr.index 310 (.agg #[.int .u64 (nI x.e.key.data.toList m8 0:Nat),.int .u64 (nI x.e.key.data.toList m8 1:Nat),.int .u64 (nI x.e.key.data.toList m8 2:Nat),.int .u64 (nI x.e.key.data.toList m8 3:Nat)]) (.int .i64 (j:Int))).run Tryz.prog V= .ok (.int .u64 (nI x.e.key.data.toList m8 j:Nat)) V:=fun j hj V=>by
      match j,hj with
      |0,_=>simp [Instr.index,run_underlying Tryz.underlying310,go_sem]
      |1,_=>simp [Instr.index,run_underlying Tryz.underlying310,go_sem]
      |2,_=>simp [Instr.index,run_underlying Tryz.underlying310,go_sem]
      |3,_=>simp [Instr.index,run_underlying Tryz.underlying310,go_sem]
     have Bu:=ae pH;have hC:ahq w m8 L x.e.key.data.toList g (.int .i64 ((0:Nat):Int)) w3:=⟨0,rfl,by decide,hg3.heap Li.out,tF.out.trans (hg3.mono tF.out.size)⟩
     have HC:=ae hC;clear hC pH hg3 DX Li tF c0 c1 c2 c3 hb tI hu8;obtain ⟨p0,yw⟩:∃ p,p=nI x.e.key.data.toList m8 0:=⟨_,rfl⟩
     obtain ⟨p1,sr⟩:∃ p,p=nI x.e.key.data.toList m8 1:=⟨_,rfl⟩
     obtain ⟨p2,hp2⟩:∃ p,p=nI x.e.key.data.toList m8 2:=⟨_,rfl⟩
     obtain ⟨p3,hp3⟩:∃ p,p=nI x.e.key.data.toList m8 3:=⟨_,rfl⟩
     rw [←yw,←sr,←hp2,←hp3] at Bu ⊢;clear yw sr hp2 hp3
     go_wp2_with fail
     go_loopw [53] (fun jv wr=>ahq w m8 L x.e.key.data.toList g jv wr) (fun jv _=>4-(intOf jv).toNat)
     case atStart=>exact HC.out
     case round=>
      obtain ⟨j,rfl,hj,DY,Qn⟩:=hrel;by_cases hj4:j<4
      ·have aJS:=Bu.out j hj4
       have aJT:=ayQ (k:=x.e.key.data.toList) (m:=m8) (j:=j) (by have:=Hm8.out;omega);have hstep:pj m8 L x.e.key.data.toList (j+1)=Lf (pj m8 L x.e.key.data.toList j) (nI x.e.key.data.toList m8 j):=rfl;have oM:=WR m8 L x.e.key.data.toList j;rw [qC.out] at oM;generalize nI x.e.key.data.toList m8 j=p at*;generalize pj m8 L x.e.key.data.toList j=LJ at*;have hq:(p:Int) / 8=((p / 8:Nat):Int):=by omega
       have hr:(p:Int)%8=((p%8:Nat):Int):=by omega
       have WV:p / 8<FN:=by have:=Hm8.out;omega
       have uV:p%8<8:=by omega
       unfold Lf at hstep;generalize p / 8=q at*;generalize p%8=r at*;obtain ⟨bt,eV⟩:∃ bt,LJ[q]?=some bt:=⟨_,dZ (by omega)⟩
       have hgd:LJ.getD q 0=bt:=by rw [List.getD_eq_getElem?_getD,eV];rfl
       rw [hgd] at hstep;have cq:wr.cell? ⟨g,q,none⟩=some (.int .u8 (bt.toNat:Int)):=by
        have:(dE LJ).toArray[q]?=some (.int .u8 (bt.toNat:Int)):=by simp [dE,eV]
        simp only [World.cell?,DY];simpa using this
       have fq:wr.frozen? ⟨g,q,none⟩=false:=by simp [World.frozen?,DY]
       have lg:=af DY;have wB:=ayS bt.toNat_lt uV;have cM:=ayR (q:=q) DY (UInt8.ofNat (bt.toNat|||2^r));rw [←hstep,←wB] at cM;rw [show ((2^r:Nat):Int)=(2:Int)^r by simp] at cM;have h2r:2^r<256:=cf (Nat.pow_lt_pow_right (by decide) uV) (by decide);have tA:IntKind.u8.wrap (2^r)=((2^r:Nat):Int):=by
        have e:((2:Int)^r)=((2^r:Nat):Int):=by simp
        rw [e];generalize 2^r=z at*;simp [IntKind.wrap,IntKind.bits,IntKind.signed];omega
       have FX:(j:Int)<4:=by omega
       have Al:(0:Int)≤(j:Int):=by omega
       have hwj:IntKind.i64.wrap ((j:Int)+1)=((j+1:Nat):Int):=by rw [aS _ (by omega)];omega
       have jX:(q:Int)<(FN:Int):=by omega
       have hq0:(0:Int)≤(q:Int):=by omega
       have Lj:=ae cM;have ayY:=ae Qn;clear cM DY Qn hstep eV hgd oM h2r wB;have hle:w.heap.size≤g:=tQ;go_wp2;go_roundw
       case rel=>exact ⟨j+1,rfl,hj4,Lj.out,ayY.out.setCell (p:=⟨g,q,none⟩) hle _⟩
       case measure=>simp [intOf];omega
      ·obtain rfl:j=4:=by omega
       have hrel:WT w (ys.map Ev.e) g (.int .i64 ((i+1:Nat):Int)) wr:=⟨i+1,rfl,by rw [bF];omega,by rw [ayV.out];exact DY,Qn⟩
       have aX:=ae hrel;have FX:decide (((4:Nat):Int)<4)=false:=rfl;clear DY Qn hrel;go_wp2;go_roundw
       case rel=>exact aX.out
       case measure=>simp [intOf];omega
    ·obtain rfl:i=ys.length:=by omega
     have hres:aI w.heap.size wr (.slice (some ⟨g,0,none⟩) FN FN) (dV (ys.map Ev.e)):=by
      have e:((ys.map Ev.e).take ys.length).foldl (fun b e=>pj (8*gV (ys.map Ev.e)) b e.key.data.toList 4) (List.replicate (gV (ys.map Ev.e)) 0)=dV (ys.map Ev.e):=by
       rw [List.take_of_length_le (by rw [bF];exact aw _)];rfl
      rw [e] at iU;have hl:=Lg (ys.map Ev.e);rw [←WU.out] at hl;have:=ahp tQ iU (by omega);rw [hl] at this;exact this
     have dC:=ae hres;have tF:=ae fL;clear hres iU fL;go_wp2;go_ret;exact ⟨_,rfl,dC.out,tF.out⟩
section
variable {N:Nat→Prop} {w w8 wr wy:World} {tb ha:Nat} {ns HI:List Nd} {aU:Nat} {dv:Value} {ds:List Int} {x:Ev} {nw:Nd}
theorem Sep.WW (F:Nat→Prop) (w:World) (h:F lb) (j:Nat) (v:Value):Sep F w (w.setCell ⟨lb,j,none⟩ v) F:=
 ⟨rfl,rfl,rfl,by simp,fun b _ hn=>aP _ _ _ _ (fun e=>hn (by have e':b=lb:=e;rw [e'];exact h)),fun b hb=> .inl hb⟩
theorem ahA {x:En} {ns:List Nd} {n:Nd} (tb ha:Nat) (h:n∈bM tb ha::cd x ns):n∈bM tb ha::ns:=by
 rcases bE.1 h with h1|h1
 ·exact h1 ▸ dR ..
 ·exact fk _ (by rw [←jO x ns];exact jw _ h1)
theorem dQ.WX (h:dQ N w tb ha ns aU dv ds) {n:Nd} (hn:n∈bM tb ha::ns):FM tb ha ns n.arr∧n.arr<w.heap.size∧n.arr≠tb:=by
 obtain ⟨p1,p2,e3⟩:=sN hn;have h1:=h.skip.iZ.at e3;refine ⟨?_,af h1,fun e=> ?_⟩
 ·rcases bE.1 hn with rfl|hn
  ·exact .inr (.inl rfl)
  ·exact .inr (.inr ⟨n,hn,.inr rfl⟩)
 ·rw [e,h.self] at h1
  exact absurd (cE (bk h1)).2.1 (by decide)
theorem ayZ (h:dQ N w tb ha ns aU dv ds) (hN:∀ b,N b→b<w.heap.size∧¬ FM tb ha ns b) (hx:kJ N w x) (dp:x.e.seq<18446744073709551616) (hg:Grow w w8) (nH:gz x.e ns=HI)
  (hput:kn x.e (ns.map (fun n=>n.x.e))=gD x.e (ns.map (fun n=>n.x.e))++x.e::HI.map (fun n=>n.x.e)) (ie:nw.x=x) (hh:1≤nw.h∧nw.h≤12) (rH:w.heap.size≤nw.blk) (bq:w.heap.size≤nw.arr)
  (fw:Ps w8 (bM tb ha::cd x.e ns) HI nw nw.h wr) (GC:wr.heap[nw.blk]?=some (.cells (KZ nw) 176 (0,0))) (jJ:∀ n∈ns,wr.heap[n.blk]?=w.heap[n.blk]?) {eI:Nat} (aza:eI≤12)
  (eW:wy.heap[tb]?=some (.cells (Qd ha eI (ns.length+1) dv (costs (ns.map (fun n=>n.x.e)))) 181 (0,0))) (nS:Sep (fun b=>b=tb) wr wy (fun b=>b=tb)):
  pZ N w tb ha ns dv x (cd x.e ns++nw::HI) eI wy∧(cd x.e ns++nw::HI).length=ns.length+1∧costs ((cd x.e ns++nw::HI).map (fun n=>n.x.e))=costs (ns.map (fun n=>n.x.e))+jq x.e:=by
 have pn:cd x.e ns++HI=ns:=by rw [←nH];exact jO x.e ns
 have hmap:(cd x.e ns++nw::HI).map (fun n=>n.x.e)=kn x.e (ns.map (fun n=>n.x.e)):=by
  rw [hput,dD,cg,WB,ie]
 have hlen:(cd x.e ns++nw::HI).length=ns.length+1:=by
  rw [←pn];simp [aJ];rw [pn];omega
 have azb:∀ n∈ns,n.blk≠tb:=fun n hn e=>by
  have h1:=h.skip.node n hn;rw [e,h.self] at h1;exact absurd (cE (bk h1)).2.1 (by decide)
 have hall:∀ b,b<w.heap.size→b≠tb→(∀ n∈bM tb ha::cd x.e ns,b≠n.arr)→wy.heap[b]?=w.heap[b]?:=fun b hb h1 h2=>by
  have s1:=hg.size;have s2:=fw.sep.size;rw [nS.out b (by omega) h1,fw.sep.out b (by omega) (fun hf=> ?_),hg.block b hb];rcases hf with hf|⟨n,hn,hf⟩
  ·omega
  ·exact h2 n hn hf
 have DZ:Sep (FM tb ha ns) w wy (FM tb ha (cd x.e ns++nw::HI)):=by
  have s0:=Sep.bT (F:=FM tb ha ns) hg;refine ⟨nS.os.trans (fw.sep.os.trans s0.os),nS.tape.trans (fw.sep.tape.trans s0.tape),nS.output.trans (fw.sep.output.trans s0.output),aM hg.size (aM fw.sep.size nS.size),fun b hb hn=> ?_,fun b hb=> ?_⟩
  ·refine hall b hb (fun e=>hn (.inl e)) (fun n mE e=>hn ?_)
   rw [e];exact (h.WX (ahA tb ha mE)).1
  ·rcases hb with rfl|rfl|⟨n,hn,hb⟩
   ·exact .inl (.inl rfl)
   ·exact .inl (.inr (.inl rfl))
   ·rcases cU.1 hn with h1|h1
    ·exact .inl (.inr (.inr ⟨n,by rw [←pn];exact jw _ h1,hb⟩))
    ·rcases bE.1 h1 with rfl|h1
     ·right
      rcases hb with rfl|rfl
      ·exact rH
      ·exact bq
     ·exact .inl (.inr (.inr ⟨n,by rw [←pn];exact mX _ h1,hb⟩))
 have Ll:Kp N w wy:=⟨DZ.size,fun b hb hl=>DZ.out b hl (hN b hb).2⟩
 have rU:=h.skip.DK;rw [←pn,←gG,dD] at rU;have azc:=List.nodup_append.1 rU;refine ⟨⟨hmap,by rw [hlen];exact eW,aza,?_,DZ⟩,hlen,?_⟩
 ·refine kq.ins (w:=w) (by rw [pn];exact h.skip) ?_ ?_ ?_ (fun m hm=> ?_) (fun m hm=> ?_) rH bq Ll ⟨by rw [ie];exact hx.kp Ll,by rw [ie];exact dp⟩ hh (by rw [hmap];exact Wp h.skip.ord)
  ·rw [nS.out nw.blk (af GC) (fun e=>by have:=af h.self;omega)]
   exact GC
  ·refine (axX fw.iZ).keep (fun n hn=> ?_)
   have h1:=h.WX (ahA tb ha hn);have s1:=hg.size;have s2:=fw.sep.size;exact nS.out _ (by omega) h1.2.2
  ·rw [nS.out nw.arr (af fw.nt) (fun e=>by have:=af h.self;omega),fw.nt]
   congr 3;exact iJ fun k hk=>by rw [if_pos (List.mem_range.1 hk)]
  ·rw [pn] at hm
   have h1:=af (h.skip.node m hm);have s1:=hg.size;have s2:=fw.sep.size;rw [nS.out m.blk (by omega) (azb m hm)];exact jJ m hm
  ·have kA:m∈bM tb ha::ns:=fk _ (by rw [←pn];exact mX _ hm)
   have h1:=h.WX kA;exact hall _ h1.2.1 h1.2.2 (fun n hn e=>azc.2.2 _ (aZ.2 ⟨n,hn,rfl⟩) _ (aZ.2 ⟨m,hm,rfl⟩) e.symm)
 ·have e1:costs (ns.map (fun n=>n.x.e))=costs ((cd x.e ns++HI).map (fun n=>n.x.e)):=by rw [pn]
  rw [e1];simp only [costs,dD,cg,List.sum_append,List.sum_cons,ie];omega
theorem azd {n:Nd} {r:List Nd} (h:dQ N w tb ha ns aU dv ds) (hN:∀ b,N b→b<w.heap.size∧¬ FM tb ha ns b) (hx:kJ N w x) (dp:x.e.seq<18446744073709551616) (nH:gz x.e ns=n::r) (hc:dU n.x.e x.e=0)
  (GC:wy.heap[n.blk]?=some (.cells (KZ ⟨n.blk,n.arr,n.h,x⟩) 176 (0,0))) (nS:Sep (fun b=>b=n.blk) w wy (fun b=>b=n.blk)):
  pZ N w tb ha ns dv x (cd x.e ns++⟨n.blk,n.arr,n.h,x⟩::r) aU wy∧(cd x.e ns++⟨n.blk,n.arr,n.h,x⟩::r).length=ns.length∧costs ((cd x.e ns++⟨n.blk,n.arr,n.h,x⟩::r).map (fun n=>n.x.e))+jq n.x.e=costs (ns.map (fun n=>n.x.e))+jq x.e:=by
 have pn:cd x.e ns++n::r=ns:=by rw [←nH];exact jO x.e ns
 have cK:n∈ns:=by rw [←pn];simp
 have hlen:(cd x.e ns++(⟨n.blk,n.arr,n.h,x⟩:Nd)::r).length=ns.length:=by
  conv=>rhs;rw [←pn]
  simp
 have hF:FM tb ha ns n.blk:= .inr (.inr ⟨n,cK,.inl rfl⟩);have aze:∀ b,FM tb ha (cd x.e ns++(⟨n.blk,n.arr,n.h,x⟩:Nd)::r) b→FM tb ha ns b:=fun b hb=>by
  rcases hb with hb|hb|⟨k,hk,hb⟩
  ·exact .inl hb
  ·exact .inr (.inl hb)
  ·rcases cU.1 hk with h1|h1
   ·exact .inr (.inr ⟨k,by rw [←pn];exact jw _ h1,hb⟩)
   ·rcases bE.1 h1 with rfl|h1
    ·exact .inr (.inr ⟨n,cK,hb⟩)
    ·exact .inr (.inr ⟨k,by rw [←pn];exact mX _ (fk _ h1),hb⟩)
 have DZ:Sep (FM tb ha ns) w wy (FM tb ha (cd x.e ns++⟨n.blk,n.arr,n.h,x⟩::r)):=(nS.mono (fun b hb=>by rw [hb];exact hF)).tgt (fun b hb=> .inl (aze b hb));have Ll:Kp N w wy:=⟨DZ.size,fun b hb hl=>DZ.out b hl (hN b hb).2⟩
 have hne:tb≠n.blk:=fun e=>by
  have h1:=h.skip.node n cK;rw [←e,h.self] at h1;exact absurd (cE (bk h1)).2.1 (by decide)
 refine ⟨⟨?_,?_,h.aU,?_,DZ⟩,hlen,?_⟩
 ·unfold kn
  rw [←DL,nH,dD,cg,WB,cg];simp only;rw [if_pos hc]
 ·rw [hlen,nS.out tb (af h.self) hne]
  exact h.self
 ·have h2:kq N w tb ha (cd x.e ns++n::r):=by rw [pn];exact h.skip
  exact kq.rep (w:=w) h2 rfl rfl rfl GC (fun b hb hl=>nS.out b hl hb) Ll ⟨hx.kp Ll,dp⟩ ((Bi _ _).1 hc)
 ·have e1:costs (ns.map (fun n=>n.x.e))=costs ((cd x.e ns++n::r).map (fun n=>n.x.e)):=by rw [pn]
  rw [e1];simp only [costs,dD,cg,List.sum_append,List.sum_cons];omega
def azf (N:Nat→Prop) (w:World) (tb ha:Nat) (ns:List Nd) (dv:Value) (x:Ev) (e:Ending) (w':World):Prop:=
 ∃ bN eI,pZ N w tb ha ns dv x bN eI w'∧
  ((∃ y:Ev,(∃ va vc,y.v= .slice va y.e.val.length vc)∧e= .returned (.tuple #[.agg (bW y),.bool true])∧bN.length=ns.length∧costs (bN.map (fun n=>n.x.e))+jq y.e=costs (ns.map (fun n=>n.x.e))+jq x.e)∨
   (e= .returned (.tuple #[.agg #[.string ⟨#[]⟩,.int .u64 0,.bool false,.slice none 0 0],.bool false])∧bN.length=ns.length+1∧costs (bN.map (fun n=>n.x.e))=costs (ns.map (fun n=>n.x.e))+jq x.e))
theorem azg {x:En} {ns:List Nd} (h:gz x ns= []):kn x (ns.map (fun n=>n.x.e))=gD x (ns.map (fun n=>n.x.e))++x::([]:List Nd).map (fun n=>n.x.e):=by
 unfold kn;rw [←DL,h];rfl
theorem azh {x:En} {ns r:List Nd} {n:Nd} (h:gz x ns=n::r) (hc:dU n.x.e x≠0):kn x (ns.map (fun n=>n.x.e))=gD x (ns.map (fun n=>n.x.e))++x::(n::r).map (fun n=>n.x.e):=by
 unfold kn;rw [←DL,h,cg];simp only;rw [if_neg hc]
end
theorem azi {ns:List Nd} (h:dQ N w tb ha ns aU dv ds) (hN:∀ b,N b→b<w.heap.size∧¬ FM tb ha ns b) (hlen:ns.length≤1000000000) (x:Ev) (hx:kJ N w x) (dp:x.e.seq<18446744073709551616):
  Calls Tryz.prog 128 #[au tb,.agg (bW x),.func (.func 129) #[au tb] #[]] w (azf N w tb ha ns dv x):=by
 obtain ⟨⟨xk,xs,xg,xd⟩,xv⟩:=x;obtain ⟨xa,xc,cN⟩:=hx.slice;simp only at cN;subst cN;obtain ⟨xl,ia⟩:∃ xl,xl=xd.length:=⟨_,rfl⟩
 rw [←ia] at hx ⊢;obtain ⟨w2,hw2⟩:∃ w2,(w.alloc (.cells (bW ⟨⟨xk,xs,xg,xd⟩,.slice xa xl xc⟩) 60)).alloc (.cells #[.string ⟨#[]⟩,.int .u64 0,.bool false,.slice none 0 0] 60)=w2:=⟨_,rfl⟩
 have hg2:Grow w w2:=by rw [←hw2];exact (ar _ _).trans (ar _ _)
 have hb2:w2.heap[w.heap.size]?=some (.cells (bW ⟨⟨xk,xs,xg,xd⟩,.slice xa xl xc⟩) 60 (0,0)):=by rw [←hw2];exact (heap_alloc_old _ _ (by simp)).trans (ax _ _)
 have hr2:w2.heap[w.heap.size+1]?=some (.cells #[.string ⟨#[]⟩,.int .u64 0,.bool false,.slice none 0 0] 60 (0,0)):=by
  rw [←hw2];have:=ax (w.alloc (.cells (bW ⟨⟨xk,xs,xg,xd⟩,.slice xa xl xc⟩) 60)) (.cells #[.string ⟨#[]⟩,.int .u64 0,.bool false,.slice none 0 0] 60);simpa using this
 have Ea:=agK (h.grow hg2) ⟨⟨xk,xs,xg,xd⟩,.slice xa xl xc⟩ (xa:=xa) (xl:=xl) (xc:=xc) rfl;obtain ⟨bf,kZ,Lm⟩:=levels ⟨xk,xs,xg,xd⟩ ns tb ha;rw [Lm] at Ea;obtain ⟨c0,c1,c2,c3⟩:=cS hb2;have l0:=af hb2;have Qo:=ae Ea;have H:=ae h;have H2:=ae (ag hg2 (ag hb2 hr2));have Qp:=ae kZ;have HX:=ae (ag hx (ag dp (ag hN hlen)));have Hxl:=ae ia;clear h hg2 hb2 hr2 Ea Lm kZ hx dp hN hlen ia;go_enter Tryz.func128,Tryz.ntmps128
 go_wp2_with fail
 (with_reducible refine Qo.out.mono ?_);rintro e w3 ⟨rfl,hg3⟩;clear c0 c1 c2 c3 l0 Qo hw2
 go_upto_region 2 with fail
 refine ayu (fun W=>Pb w ⟨⟨xk,xs,xg,xd⟩,.slice xa xl xc⟩ bf w3.heap.size W) (ayv bf H2.out.1 H2.out.2.1 H2.out.2.2 hg3) ?_;intro w5 tR;generalize hg:w3.heap.size=g at*;have h5:=H.out.grow tR.grow;obtain ⟨pre,m,eL,uM⟩:=last_zero (L:=bM tb ha::cd ⟨xk,xs,xg,xd⟩ ns) (by simp) (fun n hn=>by
  rcases bE.1 hn with rfl|hn
  ·show 1≤12;omega
  ·exact (H.out.skip.hs n (by rw [←jO ⟨xk,xs,xg,xd⟩ ns];exact jw _ hn)).1)
 have vt:m=bf 0:=by have:=Qp.out 0 (by decide);rw [uM] at this;exact bk this
 have e2:bM tb ha::ns=pre++m::gz ⟨xk,xs,xg,xd⟩ ns:=by
  have h1:bM tb ha::ns=(bM tb ha::cd ⟨xk,xs,xg,xd⟩ ns)++gz ⟨xk,xs,xg,xd⟩ ns:=by rw [gG,jO]
  rw [h1,eL];simp
 have cK:m∈bM tb ha::ns:=by rw [e2];simp
 have gC:0<m.h:=by
  rcases bE.1 cK with rfl|hn
  ·show 0<12;omega
  ·exact (H.out.skip.hs m hn).1
 obtain ⟨t4,lm⟩:=h5.tail cK;obtain ⟨tl,la⟩:=h5.link e2 gC;obtain ⟨ca,lg⟩:w5.cell? ⟨g,0,none⟩=some (au m.blk)∧g<w5.heap.size:=by
  have:=tR.arr;rw [vt];exact ⟨by simp [World.cell?,this],af this⟩
 have aJW:(0:Int)<(m.h:Int):=by omega
 have ze:=ae tR;have H5:=ae h5;clear tR hg3 h5 eL uM vt e2 cK hg;obtain ⟨HI,nH⟩:∃ HI,gz ⟨xk,xs,xg,xd⟩ ns=HI:=⟨_,rfl⟩
 obtain ⟨pv,oD⟩:∃ pv,ct 0 HI=pv:=⟨_,rfl⟩
 rw [nH,oD] at tl
 go_upto_region 3 with fail
 have aQ:=Grow.cells (w:=w5)
 go_cut [36] from 22 to 36 (fun bv wx=>∃ bb:Bool,bv= .bool bb∧Pb w ⟨⟨xk,xs,xg,xd⟩,.slice xa xl xc⟩ bf g wx∧(bb=false→kn ⟨xk,xs,xg,xd⟩ (ns.map (fun n=>n.x.e))=gD ⟨xk,xs,xg,xd⟩ (ns.map (fun n=>n.x.e))++⟨xk,xs,xg,xd⟩::HI.map (fun n=>n.x.e))∧(bb=true→∃ n hr,HI=n::hr∧dU n.x.e ⟨xk,xs,xg,xd⟩=0))
 case first=>
  cases HI with
  |nil=>
   obtain rfl:pv= .pointer none:=by rw [←oD];rfl
   refine dz (fun V=>Below w5.heap.size w5 V) [12] (by kernel_rfl) (bK fun _ _ _ _ _ h=>h) (by ((repeat (first|exact bS _ _|assumption|refine cz ?_|refine cA ?_|refine cj ?_ ?_ _|refine cy ?_ ?_ _))<;>try (first|omega|(simp<;>omega)))) ?_;simp only [cF]
   repeat ((first|(refine aA (v:= ?_) (by rfl) ?_ ?_;rotate_left;rintro W hW;go_simp;with_reducible rfl)|refine aB (by rfl) ?_);simp only [ai,List.set])
   refine Fw (by rfl) (by ((repeat (first|exact bS _ _|assumption|refine cz ?_|refine cA ?_|refine cj ?_ ?_ _|refine cy ?_ ?_ _))<;>try (first|omega|(simp<;>omega)))) ?_
   try simp only [ai,List.set,aC]
   repeat ((first|(refine aA (v:= ?_) (by rfl) ?_ ?_;rotate_left;rintro W hW;go_simp;with_reducible rfl)|refine aB (by rfl) ?_);simp only [ai,List.set])
   refine bj ?_
   go_wp2_with fail
   go_meet;exact ⟨false,rfl,ze.out.step (az w5),fun _=>azg nH,fun h=>by cases h⟩
  |cons n hr=>
   have jy:n∈ns:=by rw [←jO ⟨xk,xs,xg,xd⟩ ns,nH];simp
   obtain rfl:pv=au n.blk:=by rw [←oD,ct,if_pos (show 0<n.h from (H.out.skip.hs n jy).1)]
   obtain ⟨d0,d1,d2,d3⟩:=H5.out.ay jy;obtain ⟨va,vc,hv⟩:=(H5.out.skip.vals n jy).1.slice;have ln:=af (H5.out.skip.node n jy);rw [hv] at d3;obtain ⟨t5,lt⟩:w5.cell? ⟨tb,5,none⟩=some (.func (.func 93) #[] #[])∧tb<w5.heap.size:=⟨by have:=H5.out.self;simp [World.cell?,this],af H5.out.self⟩
   obtain ⟨b0,b1,b2,b3⟩:=cS ze.out.box;have lb:=af ze.out.box;have Hv:=ae hv;have Bn:df (ke n.x.e.key xk) (jk xs n.x.e.seq)=dU n.x.e ⟨xk,xs,xg,xd⟩:=rfl;have fS:=agH n.x.e.key n.x.e.seq n.x.e.gone (.slice va n.x.e.val.length vc) xk xs xg (.slice xa xl xc);rw [Bn] at fS;have kh:=ae fS;clear Bn fS hv;obtain ⟨c,Qf⟩:∃ c,dU n.x.e ⟨xk,xs,xg,xd⟩=c:=⟨_,rfl⟩
   rw [Qf] at kh;have HcE:=ae Qf;clear Qf;obtain ⟨bb,dX⟩:∃ bb,(c==0)=bb:=⟨_,rfl⟩
   refine dz (fun V=>Below w5.heap.size w5 V) [12] (by kernel_rfl) (bK fun _ _ _ _ _ h=>h) (by ((repeat (first|exact bS _ _|assumption|refine cz ?_|refine cA ?_|refine cj ?_ ?_ _|refine cy ?_ ?_ _))<;>try (first|omega|(simp<;>omega)))) ?_;simp only [cF]
   repeat ((first|(refine aA (v:= ?_) (by rfl) ?_ ?_;rotate_left;rintro W hW;go_simp;with_reducible rfl)|refine aB (by rfl) ?_);simp only [ai,List.set])
   refine bp (by rfl) (by go_simp) (kh.out w5.drew) ?_;rintro e' w6 ⟨rfl,cx⟩;refine ⟨_,rfl,(az w5).trans cx,?_⟩
   try simp only [ai,List.set,aC]
   repeat ((first|(refine aA (v:= ?_) (by rfl) ?_ ?_;rotate_left;rintro W hW;go_simp;with_reducible rfl)|refine aB (by rfl) ?_);simp only [ai,List.set])
   refine bj ?_;have og:=(ze.out.step (az w5)).step cx
   go_wp2_with fail
   go_meet;exact ⟨bb,rfl,og,fun h=>azh nH (by rw [HcE.out];simpa [h] using dX),fun h=>⟨n,hr,rfl,by rw [HcE.out];simpa [h] using dX⟩⟩
 case rest=>
 obtain ⟨bb,rfl,og,kZ,eV⟩:=hcut;generalize wc=w6 at*;clear aQ t4 lm tl la ca lg;cases bb with
 |false=>
  have hput:=kZ rfl;clear kZ eV;have h6:=H.out.grow og.grow;obtain ⟨b0,b1,b2,b3⟩:=cS og.box;have lb:=af og.box
  go_upto_region 6 with fail
  have aQ:=Grow.cells (w:=w6);refine dz (fun V=>Below w6.heap.size w6 V) [2,0,1] (by kernel_rfl) (bK fun _ _ _ _ _ h=>h) (by ((repeat (first|exact bS _ _|assumption|refine cz ?_|refine cA ?_|refine cj ?_ ?_ _|refine cy ?_ ?_ _))<;>try (first|omega|(simp<;>omega)))) ?_;simp only [cF]
  repeat ((first|(refine aA (v:= ?_) (by rfl) ?_ ?_;rotate_left;rintro W hW;go_simp;with_reducible rfl)|refine aB (by rfl) ?_);simp only [ai,List.set])
  refine bp (by rfl) (by go_simp) (ayt (h6.grow (az w6))) ?_;rintro e' w7 ⟨⟨k,mY,hk2,rfl⟩,cG⟩;have qX:=(az w6).trans cG;refine ⟨_,rfl,qX,?_⟩
  try simp only [ai,List.set,aC]
  have ah:=ar w7 (.cells ((List.range k).map (fun _=>(.pointer none:Value))).toArray 287);refine sR (by rfl) (v:= .slice (some ⟨w7.heap.size,0,none⟩) k k) (w':=w7.alloc (.cells ((List.range k).map (fun _=>(.pointer none:Value))).toArray 287)) (by unfold execOp;simp only [Act.eval];simp [agT hk2]) (qX.trans ah) ?_
  try simp only [ai,List.set,aC]
  repeat ((first|(refine aA (v:= ?_) (by rfl) ?_ ?_;rotate_left;rintro W hW;go_simp;with_reducible rfl)|refine aB (by rfl) ?_);simp only [ai,List.set])
  have hgb:=ar (w7.alloc (.cells ((List.range k).map (fun _=>(.pointer none:Value))).toArray 287)) (.cells #[.string xk,.int .u64 xs,.bool xg,.slice xa xl xc,.slice (some ⟨w7.heap.size,0,none⟩) k k] 176);refine fO (by rfl) (fun K hK=> ?_);go_simp;refine hK _ _ ⟨(qX.trans ah).trans hgb,?_⟩;clear hK K
  try simp only [ai,List.set,aC]
  repeat ((first|(refine aA (v:= ?_) (by rfl) ?_ ?_;rotate_left;rintro W hW;go_simp;with_reducible rfl)|refine aB (by rfl) ?_);simp only [ai,List.set])
  refine bj ?_;have kK:=ax (w7.alloc (.cells ((List.range k).map (fun _=>(.pointer none:Value))).toArray 287)) (.cells #[.string xk,.int .u64 xs,.bool xg,.slice xa xl xc,.slice (some ⟨w7.heap.size,0,none⟩) k k] 176);rw [World.size_alloc] at kK;have Bz:=hgb.heap (ax w7 (.cells ((List.range k).map (fun _=>(.pointer none:Value))).toArray 287));have WY:=(og.step qX).step (ah.trans hgb);have h8:=H.out.grow WY.grow;have s7:=og.grow.size;have s67:=qX.size;generalize (w7.alloc (.cells ((List.range k).map (fun _=>(.pointer none:Value))).toArray 287)).alloc (.cells #[.string xk,.int .u64 xs,.bool xg,.slice xa xl xc,.slice (some ⟨w7.heap.size,0,none⟩) k k] 176)=w8 at*;obtain ⟨na,xj⟩:∃ na,na=w7.heap.size:=⟨_,rfl⟩
  rw [←xj] at kK Bz ⊢;have azk:w.heap.size≤na:=by omega
  clear aQ ah hgb qX cG b0 b1 b2 b3 lb h6 og s7 s67 xj;have fw:Ps w8 (bM tb ha::cd ⟨xk,xs,xg,xd⟩ ns) HI ⟨na+1,na,k,⟨⟨xk,xs,xg,xd⟩,.slice xa xl xc⟩⟩ 0 w8:=by
   refine ⟨axW (fh.split (lo:=bM tb ha::cd ⟨xk,xs,xg,xd⟩ ns) (hi:=HI) (by have:=h8.skip.iZ;rwa [←jO ⟨xk,xs,xg,xd⟩ ns,nH] at this)).1,?_,Sep.refl _ _⟩;show w8.heap[na]?=_;rw [Bz];simp
  have DM:((bM tb ha::cd ⟨xk,xs,xg,xd⟩ ns).map Nd.arr).Nodup:=by
   have h1:=H.out.skip.DK;rw [←jO ⟨xk,xs,xg,xd⟩ ns,←gG,dD] at h1;exact (List.nodup_append.1 h1).1
  have ahC:∀ n∈bM tb ha::cd ⟨xk,xs,xg,xd⟩ ns,n.arr≠na:=fun n hn e=>by
   have h1:n∈bM tb ha::ns:=by
    rcases bE.1 hn with rfl|hn
    ·exact dR ..
    ·exact fk _ (by rw [←jO ⟨xk,xs,xg,xd⟩ ns];exact jw _ hn)
   obtain ⟨p1,p2,e3⟩:=sN h1;have:=af (H.out.skip.iZ.at e3);omega
  have bJ:=ae (ag WY (ag h8 (ag kK (ag DM ahC))));have yM:=ae fw;obtain ⟨n4,ln⟩:w8.cell? ⟨na+1,4,none⟩=some (.slice (some ⟨na,0,none⟩) k k)∧na+1<w8.heap.size:=⟨by simp [World.cell?,kK],af kK⟩
  clear WY h8 kK Bz DM ahC fw
  go_wp2_with fail
  go_loopw [57] (fun kv wr=>∃ K:Nat,kv= .int .i64 (K:Int)∧K≤k∧Ps w8 (bM tb ha::cd ⟨xk,xs,xg,xd⟩ ns) HI ⟨na+1,na,k,⟨⟨xk,xs,xg,xd⟩,.slice xa xl xc⟩⟩ K wr) (fun kv _=>k-(intOf kv).toNat)
  case atStart=>exact ⟨0,rfl,aY _,yM.out⟩
  case round=>
  obtain ⟨K,rfl,hKk,hP⟩:=hrel;have BA:∀ (b:Nat) (arr:Array Value) (ty:TypeId) (fz:Nat×Nat),w8.heap[b]?=some (.cells arr ty fz)→ty≠287→wr.heap[b]?=some (.cells arr ty fz):=fun b arr ty fz hb ri=>by
   rw [hP.sep.out b (af hb) (fun hf=> ?_)]
   ·exact hb
   ·have hLt:∀ n∈bM tb ha::cd ⟨xk,xs,xg,xd⟩ ns,n.arr≠b:=fun n hn e=>by
     have h1:n∈bM tb ha::ns:=by
      rcases bE.1 hn with rfl|hn
      ·exact dR ..
      ·exact fk _ (by rw [←jO ⟨xk,xs,xg,xd⟩ ns];exact jw _ hn)
     obtain ⟨p1,p2,e3⟩:=sN h1;have h2:=bJ.out.2.1.skip.iZ.at e3;rw [e,hb] at h2;exact ri (cE (bk h2)).2.1
    rcases hf with hf|⟨n,hn,hf⟩
    ·have h2:=yM.out.nt
     rw [←show b=na from hf,hb] at h2;exact ri (cE (bk h2)).2.1
    ·exact hLt n hn hf.symm
  have Ln:=BA _ _ _ _ bJ.out.2.2.1 (by decide);obtain ⟨n4',ln'⟩:wr.cell? ⟨na+1,4,none⟩=some (.slice (some ⟨na,0,none⟩) k k)∧na+1<wr.heap.size:=⟨by simp [World.cell?,Ln],af Ln⟩
  by_cases hlt:K<k
  ·have ahD:K<12:=by omega
   have WZ:=Qp.out K ahD;obtain ⟨Qq,hmh⟩:=PY WZ;have ahE:bf K∈bM tb ha::ns:=by
    rcases bE.1 Qq with h1|h1
    ·rw [h1];exact dR ..
    ·exact fk _ (by rw [←jO ⟨xk,xs,xg,xd⟩ ns];exact jw _ h1)
   obtain ⟨hc1,hc2,uI⟩:=hP.step (show K<k from hlt) bJ.out.2.2.2.1 bJ.out.2.2.2.2 WZ;obtain ⟨q,hq⟩:=agS K HI;rw [hq] at hc1 uI;have GM:=BA _ _ _ _ bJ.out.1.arr (by decide);obtain ⟨ga,gl⟩:wr.cell? ⟨g,K,none⟩=some (au (bf K).blk)∧g<wr.heap.size:=by
    have e12:(#[au (bf 0).blk,au (bf 1).blk,au (bf 2).blk,au (bf 3).blk,au (bf 4).blk,au (bf 5).blk,au (bf 6).blk,au (bf 7).blk,au (bf 8).blk,au (bf 9).blk,au (bf 10).blk,au (bf 11).blk]:Array Value)=((List.range 12).map (fun i=>au (bf i).blk)).toArray:=rfl;rw [e12] at GM;exact ⟨PZ GM ahD,af GM⟩
   obtain ⟨m4,lm4⟩:wr.cell? ⟨(bf K).blk,4,none⟩=some (.slice (some ⟨(bf K).arr,0,none⟩) (bf K).h (bf K).h)∧(bf K).blk<wr.heap.size:=by
    have hb:∃ arr ty,w8.heap[(bf K).blk]?=some (.cells arr ty (0,0))∧ty≠287∧arr[4]?=some (.slice (some ⟨(bf K).arr,0,none⟩) (bf K).h (bf K).h):=by
     rcases bE.1 ahE with h1|h1
     ·rw [h1];exact ⟨_,_,bJ.out.2.1.self,by decide,rfl⟩
     ·exact ⟨_,_,bJ.out.2.1.skip.node _ h1,by decide,rfl⟩
    obtain ⟨arr,ty,h1,h2,h3⟩:=hb;have h4:=BA _ _ _ _ h1 h2;exact ⟨by simp only [World.cell?,h4];exact h3,af h4⟩
   have fr1:wr.frozen? ⟨na,K,none⟩=false:=by have:=hP.nt;simp only at this;simp [World.frozen?,this]
   have lna:=af hP.nt;obtain ⟨fr2,bF⟩:wr.frozen? ⟨(bf K).arr,K,none⟩=false∧(bf K).arr<wr.heap.size:=by
    obtain ⟨p1,p2,e3⟩:=sN Qq;have h1:=hP.iZ.at e3;exact ⟨by simp [World.frozen?,h1],af h1⟩
   have ahF:(bf K).arr≠na:=bJ.out.2.2.2.2 _ Qq;have azu:na≠(bf K).arr:=fun e=>ahF e.symm
   have k0:(0:Int)≤(K:Int):=by omega
   have k1:(K:Int)<(k:Int):=by omega
   have k2:(K:Int)<((bf K).h:Int):=by omega
   have k3:(K:Int)<12:=by omega
   have fE:IntKind.i64.wrap ((K:Int)+1)=((K+1:Nat):Int):=by rw [aS _ (by omega)];omega
   have Ju:=ae uI;have Qr:wr.cell? ⟨na,K,none⟩=some (.pointer none):=hc2;have aJY:=Qp;generalize (bf K).arr=mA at*;generalize (bf K).h=mH at*;generalize (bf K).blk=mB at*;clear BA Ln Qq ahE uI GM hc2 WZ hP hq hmh
   go_upto_region 10 with fail
   go_region;have iB:=Ju.out.drew;generalize ((wr.setCell ⟨na,K,none⟩ (.pointer q)).setCell ⟨mA,K,none⟩ (au (na+1))).drew=wq at*;have Hnd:=ae iB;clear iB Ju n4' ln' ga gl m4 lm4 fr1 lna fr2 bF ahF azu k0 k2 k3 hc1 Qr
   go_wp2_with fail
   go_roundw
   case rel=>exact ⟨K+1,rfl,hlt,Hnd.out⟩
   case measure=>simp [intOf];omega
  ·obtain rfl:K=k:=by omega
   have htw:=hP.iZ;have GD:=hP.nt;have eW:=BA _ _ _ _ bJ.out.2.1.self (by decide);have hres:=BA _ _ _ _ bJ.out.1.res (by decide);have ahG:∀ n∈ns,wr.heap[n.blk]?=w.heap[n.blk]?:=fun n hn=>(BA _ _ _ _ (bJ.out.2.1.skip.node n hn) (by decide)).trans (H.out.skip.node n hn).symm
   obtain ⟨c6,lt⟩:wr.cell? ⟨tb,6,none⟩=some (.int .i64 (aU:Int))∧tb<wr.heap.size:=⟨by simp [World.cell?,eW],af eW⟩
   have ft:=bG eW;obtain ⟨hm,hmx,ahH⟩:∃ hm:Nat,max (aU:Int) (K:Int)=(hm:Int)∧hm≤12:=⟨max aU K,by omega,Nat.max_le.2 ⟨H.out.aU,hk2⟩⟩
   have ft6:=ft 6;have Hw:=ae (ag hP (ag Ln (ag eW (ag hres ahG))));have z0:=Go.Gl.aK eW 6 (.int .i64 (hm:Int));simp only [Qd,mf,List.set_cons_zero,kz] at z0;have zs:=(Sep.WW (fun b=>b=tb) wr (lb:=tb) rfl 6 (.int .i64 (hm:Int))).trans (Sep.bT (az _));have zr:(wr.setCell ⟨tb,6,none⟩ (.int .i64 (hm:Int))).drew.heap[w.heap.size+1]?=some (.cells #[.string ⟨#[]⟩,.int .u64 0,.bool false,.slice none 0 0] 60 (0,0)):=(aP _ _ _ _ (fun e=>by have e':w.heap.size+1=tb:=e;have:=af H.out.self;omega)).trans hres;replace z0:(wr.setCell ⟨tb,6,none⟩ (.int .i64 (hm:Int))).drew.heap[tb]?=_:=z0;have Hz:=ae (ag z0 (ag zs zr));clear ft BA hP htw GD eW Ln hres ahG z0 zs zr
   go_upto_region 12 with fail
   go_region;have z0:=Hz.out.1;have zs:=Hz.out.2.1;have zr:=Hz.out.2.2;clear Hz c6 ft6;generalize (wr.setCell ⟨tb,6,none⟩ (.int .i64 (hm:Int))).drew=wz at*;have hwc:IntKind.i64.wrap ((ns.length:Int)+1)=((ns.length+1:Nat):Int):=by have:=HX.out.2.2.2;rw [aS _ (by omega)];omega
   obtain ⟨c7,ltz⟩:wz.cell? ⟨tb,7,none⟩=some (.int .i64 (ns.length:Int))∧tb<wz.heap.size:=⟨by simp [World.cell?,z0],af z0⟩
   have f7:wz.frozen? ⟨tb,7,none⟩=false:=by simp [World.frozen?,z0]
   have y0:=Go.Gl.aK z0 7 (.int .i64 ((ns.length+1:Nat):Int));simp only [mf,List.set_cons_zero,kz] at y0;have ys:=zs.trans (Sep.WW (fun b=>b=tb) wz (lb:=tb) rfl 7 (.int .i64 ((ns.length+1:Nat):Int)));have yr:(wz.setCell ⟨tb,7,none⟩ (.int .i64 ((ns.length+1:Nat):Int))).heap[w.heap.size+1]?=some (.cells #[.string ⟨#[]⟩,.int .u64 0,.bool false,.slice none 0 0] 60 (0,0)):=(aP _ _ _ _ (fun e=>by have e':w.heap.size+1=tb:=e;have:=af H.out.self;omega)).trans zr;obtain ⟨Qs,xm⟩:∃ l,l=ns.length+1:=⟨_,rfl⟩
   rw [←xm] at hwc y0 ys yr;have azz:=ae xm;clear xm;have Hy:=ae (ag y0 (ag ys yr));clear z0 zs zr y0 ys yr
   go_upto_region 14 with fail
   have y0:=Hy.out.1;have ys:=Hy.out.2.1;have yr:=Hy.out.2.2;clear Hy c7 f7 ltz hwc;generalize wz.setCell ⟨tb,7,none⟩ (.int .i64 (Qs:Int))=wy at*;rw [azz.out] at y0;have cJ:=ae (ayZ (nw:=⟨na+1,na,K,⟨⟨xk,xs,xg,xd⟩,.slice xa xl xc⟩⟩) (x:=⟨⟨xk,xs,xg,xd⟩,.slice xa xl xc⟩) H.out HX.out.2.2.1 HX.out.1 HX.out.2.1 bJ.out.1.grow nH hput rfl ⟨mY,hk2⟩ (by show w.heap.size≤na+1;omega) azk Hw.out.1 Hw.out.2.1 Hw.out.2.2.2.2 ahH y0 ys);obtain ⟨r0,r1,r2,r3⟩:=cS yr;have lr:=af yr;have fr:=bG yr;have s0:=eO (v:= .string ⟨#[]⟩) (i:=0) yr rfl;have s1:=eO (v:= .int .u64 0) (i:=1) yr rfl;have s2:=eO (v:= .bool false) (i:=2) yr rfl;have s3:=eO (v:= .slice none 0 0) (i:=3) yr rfl;clear yr y0 ys bJ yM Hw ze H5;go_wp2;exact bodyPost_ret (v:= .tuple #[.agg #[.string ⟨#[]⟩,.int .u64 0,.bool false,.slice none 0 0],.bool false]) (by simp [results,Tryz.results128,go_sem,r0,r1,r2,r3]) rfl ⟨_,_,cJ.out.1,.inr ⟨rfl,cJ.out.2.1,cJ.out.2.2⟩⟩
 |true=>
  obtain ⟨n,hr,rfl,hcz⟩:=eV rfl;clear kZ eV;have jy:n∈ns:=by rw [←jO ⟨xk,xs,xg,xd⟩ ns,nH];simp
  obtain ⟨va,vc,hv⟩:=(H5.out.skip.vals n jy).1.slice;have Hv:=ae hv;clear hv;obtain rfl:pv=au n.blk:=by rw [←oD,ct,if_pos (show 0<n.h from (H.out.skip.hs n jy).1)]
  have h6:=H.out.grow og.grow;obtain ⟨b0,b1,b2,b3⟩:=cS og.box;have lb:=af og.box;obtain ⟨d0,d1,d2,d3⟩:=h6.ay jy;have iB:=h6.skip.node n jy;have ln:=af iB;rw [Hv.out] at d3;have fn:=bG iB;obtain ⟨r0,r1,r2,r3⟩:=cS og.res;have lr:=af og.res;have hres:=og.res;have fr:=bG hres;have lnw:=af (H.out.skip.node n jy);have hne:n.blk≠w.heap.size+1:=by omega
  have PK:w.heap.size+1≠n.blk:=by omega
  have q0:=Bo (v0:= .string n.x.e.key) (v1:= .int .u64 n.x.e.seq) (v2:= .bool n.x.e.gone) (v3:= .slice va n.x.e.val.length vc) og.res;have q1:=(si (w:=w6) hne (.string n.x.e.key) (.int .u64 n.x.e.seq) (.bool n.x.e.gone) (.slice va n.x.e.val.length vc)).trans iB;have q2:=ayw (v0:= .string xk) (v1:= .int .u64 xs) (v2:= .bool xg) (v3:= .slice xa xl xc) q1;have q3:=(si PK (.string xk) (.int .u64 xs) (.bool xg) (.slice xa xl xc)).trans q0;have qs:Sep (fun b=>b=n.blk) w (jC (jC w6 (w.heap.size+1) (.string n.x.e.key) (.int .u64 n.x.e.seq) (.bool n.x.e.gone) (.slice va n.x.e.val.length vc)) n.blk (.string xk) (.int .u64 xs) (.bool xg) (.slice xa xl xc)).drew (fun b=>b=n.blk):=by
   have s1:Sep (fun b=>b=n.blk) w w6 (fun b=>b=n.blk):=Sep.bT og.grow;have s2:=s1.agR (b:=w.heap.size+1) (by omega) (.string n.x.e.key) (.int .u64 n.x.e.seq) (.bool n.x.e.gone) (.slice va n.x.e.val.length vc);exact (s2.ayy (b:=n.blk) rfl (.string xk) (.int .u64 xs) (.bool xg) (.slice xa xl xc)).drew
  have Hq:=ae (ag (heap_drew q2) (ag (heap_drew q3) qs));clear iB hres q0 q1 q2 q3 qs h6
  go_upto_region 4 with fail
  go_region;have q2:=Hq.out.1;have q3:=Hq.out.2.1;have qs:=Hq.out.2.2;clear Hq b0 b1 b2 b3 lb d0 d1 d2 d3 ln fn r0 r1 r2 r3 lr fr hne PK;generalize (jC (jC w6 (w.heap.size+1) (.string n.x.e.key) (.int .u64 n.x.e.seq) (.bool n.x.e.gone) (.slice va n.x.e.val.length vc)) n.blk (.string xk) (.int .u64 xs) (.bool xg) (.slice xa xl xc)).drew=wy at*;have cJ:=ae (azd (x:=⟨⟨xk,xs,xg,xd⟩,.slice xa xl xc⟩) H.out HX.out.2.2.1 HX.out.1 HX.out.2.1 nH hcz q2 qs);obtain ⟨r0,r1,r2,r3⟩:=cS q3;have lr:=af q3;have fr:=bG q3;have s0:=eO (v:= .string n.x.e.key) (i:=0) q3 rfl;have s1:=eO (v:= .int .u64 n.x.e.seq) (i:=1) q3 rfl;have s2:=eO (v:= .bool n.x.e.gone) (i:=2) q3 rfl;have s3:=eO (v:= .slice va n.x.e.val.length vc) (i:=3) q3 rfl;clear q2 q3 qs hcz ze H5 og;go_wp2;exact bodyPost_ret (v:= .tuple #[.agg #[.string n.x.e.key,.int .u64 n.x.e.seq,.bool n.x.e.gone,.slice va n.x.e.val.length vc],.bool true]) (by simp [results,Tryz.results128,go_sem,r0,r1,r2,r3]) rfl ⟨_,_,cJ.out.1,.inl ⟨⟨n.x.e,.slice va n.x.e.val.length vc⟩,⟨va,vc,rfl⟩,rfl,cJ.out.2.1,cJ.out.2.2⟩⟩
end Go.Proofs.YtoolkdapflaeeaaGreatDoor
namespace Go.Gl
open Go Go.RowKit
section azA
variable {P:Program} {Q:Exit→Act→World→Prop} {S:World→Prop}
def Lp (P:Program) (l:List Oper) (S:World→Prop) (πa πb:List (Nat×Bool)) (Q:Exit→Act→World→Prop):Exit→Act→World→Prop
 | .normal,a,w=>dF P l.toArray Q S (cm l πa) a w∧dF P l.toArray Q S (cm l πb) a w
 |e,a,w=>Q e a w
def Eb (ops:Array Oper) (i j:Nat) (ra rb:List (Nat×Bool)):List (Nat×Bool)→Array Bool→Bool
 | [],seen=>decide (Region.ready .any ops seen= [i,j])&&ot ops ra (seen.setIfInBounds i true)&&ot ops rb (seen.setIfInBounds j true)
 |(k,false)::π,seen=>(Region.ready .any ops seen).contains k&&Region.free .any ops seen k&&Eb ops i j ra rb π (seen.setIfInBounds k true)
 |(k,true)::π,seen=>decide (Region.ready .any ops seen= [k])&&Eb ops i j ra rb π (seen.setIfInBounds k true)
theorem azB {l:List Oper} {πa πb:List (Nat×Bool)} {p:Oper} {a:Act} {K:Act→World→Prop} (h:p.wp P a w K (Lp P l S πa πb Q)):p.wp P a w K Q:=by
 unfold Oper.wp at*;generalize (execOp a.eval p).run P w=r at*;cases r with
 |ok n v=>cases n<;>first|exact h|exact Calls.mono h (fun e u he=>by cases e<;>exact he)
 |halt x v=>cases x<;>exact h
theorem ahJ {l:List Oper} {r:List (Nat×Bool)} (hs:Region.noSelect l.toArray=true) (hQ:∀ c a d v w,Q (.panic c) (Act.put a d v) w→Q (.panic c) a w) {seen:Array Bool} {a:Act} {w:World} (hk:k<l.toArray.size)
  (hc:ot l.toArray r (seen.setIfInBounds k true)=true) (h:dF P l.toArray Q S (cm l ((k,true)::r)) a w):
  wpOp P l.toArray Q k (fun b v=>S v∧wpAnyH P .any l.toArray Q S r.length (seen.setIfInBounds k true) b v) a w:=by
 have hi:l.toArray[k]?=some (nth l k):=by simpa using uw (l:=l) (by simpa using hk)
 simp only [cm] at h;unfold dF at h;unfold wpOp;simp only [hi];split
 ·rename_i hw
  rw [if_pos hw] at h;exact .inl (Oper.wp_mono (fun b v hb=>⟨hb.1,Fv hs hQ r _ _ _ hc hb.1 hb.2⟩) h)
 ·rename_i hw
  rw [if_neg hw] at h;exact ⟨h.1,Fv hs hQ r _ _ _ hc h.1 h.2⟩
theorem Qt {l:List Oper} {i j:Nat} {ra rb:List (Nat×Bool)} (hlen:ra.length=rb.length) (hs:Region.noSelect l.toArray=true) (hQ:∀ c a d v w,Q (.panic c) (Act.put a d v) w→Q (.panic c) a w):
  ∀ (π:List (Nat×Bool)) (seen:Array Bool) (a:Act) (w:World),Eb l.toArray i j ra rb π seen=true→S w→dF P l.toArray (Lp P l S ((i,true)::ra) ((j,true)::rb) Q) S (cm l π) a w→
   wpAnyH P .any l.toArray Q S (π.length+(ra.length+1)) seen a w
 | [],seen,a,w,hc,_,h=>by
  simp only [Eb,Bool.and_eq_true,decide_eq_true_eq] at hc;have h':dF P l.toArray Q S (cm l ((i,true)::ra)) a w∧dF P l.toArray Q S (cm l ((j,true)::rb)) a w:=by unfold dF at h;exact h
  have hi:=ux (ops:=l.toArray) (listed:=seen) (i:=i) (by rw [hc.1.1];simp);have hj:=ux (ops:=l.toArray) (listed:=seen) (i:=j) (by rw [hc.1.1];simp);rw [iK,Nat.zero_add];refine wpAnyH_all hc.1.1 (by simp) fun k hk=> ?_
  simp only [bE,List.not_mem_nil,or_false] at hk;rcases hk with hk|hk
  ·subst hk
   exact ahJ hs hQ hi hc.1.2 h'.1
  ·subst hk
   rw [hlen];exact ahJ hs hQ hj hc.2 h'.2
 |(k,false)::π,seen,a,w,hc,hS,h=>by
  simp only [Eb,Bool.and_eq_true] at hc;have h':∃ v,YieldsIf P l.toArray S (nth l k) v a∧dF P l.toArray (Lp P l S ((i,true)::ra) ((j,true)::rb) Q) S (cm l π) (a.put (nth l k).dst v) w:=by
   simp only [cm] at h;unfold dF at h;exact h
  obtain ⟨v,hy,hr⟩:=h';have hk:=ux (by simpa using hc.1.1);rw [dH,Nat.add_right_comm];exact wpAnyH_take (by simpa using uw (l:=l) (by simpa using hk)) hs hc.1.2 hc.1.1 (fun c a w=>hQ c a _ _ w) hy hS (Qt hlen hs hQ π _ _ _ hc.2 hS hr)
 |(k,true)::π,seen,a,w,hc,hS,h=>by
  simp only [Eb,Bool.and_eq_true,decide_eq_true_eq] at hc;rw [dH,Nat.add_right_comm];refine wpAnyH_all hc.1 (by simp) fun m hm=> ?_
  have e:m=k:=by simpa using hm
  subst e;have hi:l.toArray[m]?=some (nth l m):=by
   have:=ux (ops:=l.toArray) (listed:=seen) (i:=m) (by rw [hc.1];simp);simpa using uw (l:=l) (by simpa using this)
  simp only [cm] at h;unfold dF at h;unfold wpOp;simp only [hi];split
  ·rename_i hw
   rw [if_pos hw] at h;exact .inl (Oper.wp_mono (fun b v hb=>⟨hb.1,Qt hlen hs hQ π _ _ _ hc.2 hb.1 hb.2⟩) (azB h))
  ·rename_i hw
   rw [if_neg hw] at h;exact ⟨h.1,Qt hlen hs hQ π _ _ _ hc.2 h.1 h.2⟩
theorem Xa {a:Act} {w:World} {l:List Oper} (S:World→Prop) (π:List (Nat×Bool)) (i j:Nat) (ra rb:List (Nat×Bool)) (hm:P.follows .mixedOrders=true)
  (hB:(Region.noSelect l.toArray&&Eb l.toArray i j ra rb π (Array.replicate l.toArray.size false)&&decide (ra.length=rb.length)&&decide (π.length+(ra.length+1)=l.toArray.size))=true)
  (hQ:∀ c a d v w,Q (.panic c) (Act.put a d v) w→Q (.panic c) a w) (hS:S w.drew) (h:dF P l.toArray (Lp P l S ((i,true)::ra) ((j,true)::rb) Q) S (cm l π) a w.drew):(Code.region id l.toArray true).wp P Q a w:=by
 simp only [Bool.and_eq_true,decide_eq_true_eq] at hB;refine wp_region_held (S:=S) hm ?_;rw [←hB.2];exact Qt hB.1.2 hB.1.1.1 hQ π _ _ _ (by rw [hB.2];exact hB.1.1.2) hS h
theorem Xb {l:List Oper} {πa πb:List (Nat×Bool)} {a:Act} (ha:dF P l.toArray Q S (cm l πa) a w) (hb:dF P l.toArray Q S (cm l πb) a w):Lp P l S πa πb Q .normal a w:=⟨ha,hb⟩
theorem Qu {l:List Oper} (hs:Region.noSelect l.toArray=true) (hQ:∀ c a o v w,o∈l→Q (.panic c) (Act.put a o.dst v) w→Q (.panic c) a w):∀ (π:List (Nat×Bool)) (listed:Array Bool) (a:Act) (w:World),
  ot l.toArray π listed=true→S w→dF P l.toArray Q S (cm l π) a w→wpAnyH P .any l.toArray Q S π.length listed a w
 | [],listed,a,w,hc,hS,h=>wpAnyH_done (by simpa [ot] using hc) (by simpa only [cm,dF] using h) _
 |(i,false)::rest,listed,a,w,hc,hS,h=>by
  simp only [ot,Bool.and_eq_true] at hc;simp only [cm,dF] at h;obtain ⟨v,hy,hr⟩:=h;have hi:=ux (by simpa using hc.1.1);have hn:=uw (l:=l) (by simpa using hi);exact wpAnyH_take (by simpa using hn) hs hc.1.2 hc.1.1 (fun c a w=>hQ c a _ _ w (dB hn)) hy hS (Qu hs hQ rest _ _ _ hc.2 hS hr)
 |(i,true)::rest,listed,a,w,hc,hS,h=>by
  simp only [ot,Bool.and_eq_true,decide_eq_true_eq] at hc;refine wpAnyH_all hc.1 (by simp) fun j hj=> ?_
  have iu:j=i:=by simpa using hj
  subst iu;have hi:l.toArray[j]?=some (nth l j):=by
   have:=ux (ops:=l.toArray) (listed:=listed) (i:=j) (by rw [hc.1];simp);simpa using uw (l:=l) (by simpa using this)
  simp only [cm,dF] at h;unfold wpOp;simp only [hi];split
  ·rename_i hw
   rw [if_pos hw] at h;exact .inl (Oper.wp_mono (fun a' w' h'=>⟨h'.1,Qu hs hQ rest _ _ _ hc.2 h'.1 h'.2⟩) h)
  ·rename_i hw
   rw [if_neg hw] at h;exact ⟨h.1,Qu hs hQ rest _ _ _ hc.2 h.1 h.2⟩
theorem azC {a:Act} {w:World} {l:List Oper} (S:World→Prop) (π:List (Nat×Bool)) (hm:P.follows .mixedOrders=true)
  (hB:(Region.noSelect l.toArray&&ot l.toArray π (Array.replicate l.toArray.size false)&&decide (π.length=l.toArray.size))=true)
  (hQ:∀ c a o v w,o∈l→Q (.panic c) (Act.put a o.dst v) w→Q (.panic c) a w) (hS:S w.drew) (h:dF P l.toArray Q S (cm l π) a w.drew):(Code.region id l.toArray true).wp P Q a w:=by
 simp only [Bool.and_eq_true,decide_eq_true_eq] at hB;refine wp_region_held (S:=S) hm ?_;rw [←hB.2];exact Qu hB.1.1 hQ π _ _ _ (by rw [hB.2];exact hB.1.2) hS h
end azA
end Go.Gl
