/- Helpers. -/
import Derived.Test.YtoolkdapflaeeaaGreatDoorW00
import Derived.Test.YtoolkdapflaeeaaGreatDoorRows
import Derived.Deep.QuietTactic
import Derived.BigQuiet
import Derived.Lib.Hide
import Derived.Laws.Cover1
import Derived.Laws.BitsAllLaws
import Derived.Laws.ShiftsVarLaws
import Derived.Deep.CutRange
import Derived.Deep.DeepCutAuto
set_option maxRecDepth 100000
set_option maxHeartbeats 16000000
namespace Go.Gl
open Go Go.RowKit
def Row1 (e:TypeId) (B:Nat) (w:World) (v:Value) (xs:List Value):Prop:=
 (v= .slice none 0 0∧xs= [])∨∃ (g cap:Nat) (cur:Array Value),v= .slice (some ⟨g,0,none⟩) xs.length cap∧B≤g∧w.heap[g]?=some (.cells cur e (0,0))∧xs.length≤cap∧cap≤cur.size∧cap≤maxLen∧cur.toList.take xs.length=xs
theorem mi (e:TypeId) (B:Nat) (w:World):Row1 e B w (.slice none 0 0) []:= .inl ⟨rfl,rfl⟩
theorem Row1.slice {e:TypeId} {B:Nat} {w:World} {v:Value} {xs:List Value} (h:Row1 e B w v xs):∃ a c,v= .slice a xs.length c:=by
 rcases h with ⟨rfl,rfl⟩|⟨g,cap,cur,rfl,_⟩
 ·exact ⟨_,_,rfl⟩
 ·exact ⟨_,_,rfl⟩
theorem Row1.keep {e:TypeId} {B:Nat} {w w':World} {v:Value} {xs:List Value} (h:Row1 e B w v xs) (hk:∀ g,v.ownBlock=some g→w'.heap[g]?=w.heap[g]?):Row1 e B w' v xs:=by
 rcases h with h|⟨g,cap,cur,rfl,hB,hg,hr⟩
 ·exact .inl h
 ·exact .inr ⟨g,cap,cur,rfl,hB,by rw [hk g rfl];exact hg,hr⟩
theorem Row1.lt {e:TypeId} {B:Nat} {w:World} {v:Value} {xs:List Value} (h:Row1 e B w v xs) {g:Nat} (hg:v.ownBlock=some g):B≤g∧g<w.heap.size:=by
 rcases h with ⟨rfl,_⟩|⟨g',cap,cur,rfl,hB,hb,_⟩
 ·cases hg
 ·cases hg;exact ⟨hB,af hb⟩
theorem Row1.grow {e:TypeId} {B:Nat} {w w':World} {v:Value} {xs:List Value} (h:Row1 e B w v xs) (hg:Grow w w'):Row1 e B w' v xs:=
 h.keep fun g hgg=>hg.block g (h.lt hgg).2
theorem Row1.mono {e:TypeId} {B B':Nat} {w:World} {v:Value} {xs:List Value} (h:Row1 e B w v xs) (hB:B'≤B):Row1 e B' w v xs:=by
 rcases h with h|⟨g,cap,cur,hv,hb,hr⟩
 ·exact .inl h
 ·exact .inr ⟨g,cap,cur,hv,by omega,hr⟩
theorem Row1.block {e:TypeId} {B:Nat} {w:World} {v:Value} {xs:List Value} (h:Row1 e B w v xs) {g:Nat} (hg:v.ownBlock=some g):∃ cur,w.heap[g]?=some (.cells cur e (0,0)):=by
 rcases h with ⟨rfl,_⟩|⟨g',cap,cur,rfl,hB,hb,_⟩
 ·cases hg
 ·cases hg;exact ⟨cur,hb⟩
theorem Row1.apart {e t:TypeId} {B:Nat} {w:World} {v:Value} {xs:List Value} (h:Row1 e B w v xs) {b:Nat} {arr:Array Value} {f:Nat×Nat} (hb:w.heap[b]?=some (.cells arr t f)) (ht:t≠e):v.ownBlock≠some b:=by
 intro hc;obtain ⟨cur,hg⟩:=h.block hc;rw [hg] at hb;cases hb;exact ht rfl
theorem Row1.cells {e:TypeId} {B:Nat} {w:World} {v:Value} {xs:List Value} (h:Row1 e B w v xs) {g:Nat} (hg:v.ownBlock=some g) {j:Nat} {u:Value} (hj:xs[j]?=some u):w.cell? ⟨g,j,none⟩=some u:=by
 rcases h with ⟨rfl,_⟩|⟨g',cap,cur,rfl,hB,hb,_,_,_,ht⟩
 ·cases hg
 ·cases hg
  rw [←ht,List.getElem?_take] at hj
  split at hj
  ·have h2:cur[j]?=some u:=by simpa using hj
   simp [World.cell?,hb,h2]
  ·cases hj
theorem aI {w:World} {b:Nat} {cur:Array Value} {t:TypeId} {f:Nat×Nat} (h:w.heap[b]?=some (.cells cur t f)) (o:Nat) (v:Value):(w.setCell ⟨b,o,none⟩ v).heap[b]?=some (.cells (cur.setIfInBounds o v) t f):=by
 simp only [World.setCell];rw [Array.getElem?_modify,h];simp
theorem iJ (w:World) (b o:Nat) (v:Value):w.grownBy (w.setCell ⟨b,o,none⟩ v) (some b):=⟨rfl,rfl,rfl,by simp,fun k _ hk=>aK _ _ _ _ (fun e=>hk (by rw [e]))⟩
theorem uH {w1 w2 w3:World} {r:Option Nat} (h:w1.grownBy w2 r) (k:w2.grownBy w3 r):w1.grownBy w3 r:=
 ⟨k.os.trans h.os,k.tape.trans h.tape,k.output.trans h.output,aN h.size k.size,fun b hb hne=>by rw [k.block b (cj hb h.size) hne,h.block b hb hne]⟩
theorem ZK {b:Nat}:∀ (cs:List Value) (o:Nat) (w:World) (cur:Array Value) (t:TypeId) (f:Nat×Nat),w.heap[b]?=some (.cells cur t f)→o+cs.length≤cur.size→
  ∃ cur',(w.setCells b o cs).heap[b]?=some (.cells cur' t f)∧cur'.size=cur.size∧cur'.toList.take (o+cs.length)=cur.toList.take o++cs∧w.grownBy (w.setCells b o cs) (some b)
 | [],o,w,cur,t,f,h,_=>⟨cur,h,rfl,by simp,⟨rfl,rfl,rfl,ay _,fun _ _ _=>rfl⟩⟩
 |v::cs,o,w,cur,t,f,h,hs=>by
  have h1:=aI h o v;simp only [List.length_cons] at hs;obtain ⟨cur',e1,e2,e3,e4⟩:=ZK cs (o+1) _ _ t f h1 (by rw [Array.size_setIfInBounds];omega);refine ⟨cur',e1,by simpa using e2,?_,uH (iJ w b o v) e4⟩;rw [List.length_cons,show o+(cs.length+1)=o+1+cs.length by omega,e3];have:(cur.setIfInBounds o v).toList.take (o+1)=cur.toList.take o++ [v]:=by
   rw [Array.toList_setIfInBounds,List.take_succ_eq_append_getElem (by simp;omega),List.take_set_of_le (ay _)];simp
  rw [this];simp
section append
variable {P:Program} {w:World}
theorem Bd {t tx ty e:TypeId} {z:Value} {bytes B:Nat} (ht:P.underlying t=some (.slice e)) (hi:(P.info? e).map (fun i=>(i.zero,i.size,i.bytes))=some (some z,1,bytes)) (hz1:z.cells.size=1)
  {v:Value} {xs:List Value} (h:Row1 e B w v xs) {x:Value} {n:Nat} {news:List Value} (hs:Src P 1 tx x n news w) (hB:B≤w.heap.size) (h63:xs.length+n≤maxLen) (hby:(xs.length+n)*bytes≤140737488355328):
  ∃ v' w',(Builtin.append_ #[t,tx] ty #[v,x]).run P w= .ok v' w'∧Row1 e B w' v' (xs++news)∧w.grownBy w' v.ownBlock∧(v'.ownBlock=v.ownBlock∨v'.ownBlock=some w.heap.size):=by
 obtain ⟨i,bK,hzz,hsz,cZ⟩:=info_parts hi;have hn:news.length=n:=by have:=hs.newsLen;omega
 have hs':Src P i.size tx x n news w:=by rw [hsz];exact hs
 have anL:xs.length+n≤9223372036854775807:=by unfold maxLen at h63;omega
 have grown:∀ (old:Nat),old<xs.length+n→
   Row1 e B (w.drew.alloc (.cells ((xs++news).toArray++Builtin.zeroCells z.cells (grownCap w (xs.length+n) old e-(xs.length+n))) e)) (.slice (some ⟨w.heap.size,0,none⟩) (xs.length+n) (grownCap w (xs.length+n) old e)) (xs++news):=by
  intro old _;have iK:=grownCap_ge w (xs.length+n) old e;have hcm:grownCap w (xs.length+n) old e≤maxLen:=grownCap_le_maxLen w (xs.length+n) old e h63;refine .inr ⟨w.heap.size,_,_,by rw [List.length_append,hn],hB,aw w.drew _,by rw [List.length_append,hn];exact iK,?_,hcm,?_⟩
  ·simp only [Array.size_append,List.size_toArray,size_zeroCells,hz1,List.length_append,hn];omega
  ·simp only [Array.toList_append]
   exact List.take_left
 have ZL:∀ (o:Obj) (row:Option Nat),w.grownBy (w.drew.alloc o) row:=fun o row=>⟨rfl,rfl,rfl,by simp,fun k hk _=>heap_alloc_old w.drew _ hk⟩
 rcases h with ⟨rfl,rfl⟩|⟨g,cap,cur,rfl,RI,hg,hlc,hcc,hcm,cC⟩
 ·by_cases gD:n=0
  ·subst gD
   have:news= []:=jb hn;subst this;refine ⟨.slice none 0 0,w,?_,.inl ⟨rfl,rfl⟩,⟨rfl,rfl,rfl,ay _,fun _ _ _=>rfl⟩,.inl rfl⟩;have hc:=hs'.cells;have hl:=hs'.len;rcases hs.kind with ⟨e',hk⟩|hk<;>simp [Builtin.append_,run_underlying ht,run_underlying hk,sizeOf,typeInfo,bK,hl,hc]
  ·have hold:(Builtin.firstCells i.size 0 (.slice none 0 0)).run P w.drew= .ok ([]:List Value).toArray w.drew:=by simp [Builtin.firstCells]
   have hr:=run_append_grow_src w t tx ty e i z ht bK hzz none 0 0 [] hold x n news hs' (by omega) (by simp at anL ⊢;omega) (by rw [cZ];exact growslice_fits (by omega) (by simpa using hby));have hg:=grown 0 (by simp;omega);simp only [List.length_nil,Nat.zero_add,List.nil_append] at hr hg ⊢;exact ⟨_,_,hr,hg,ZL _ _,.inr rfl⟩
 ·by_cases hroom:xs.length+n≤cap
  ·have hr:=run_append_room_src w t tx ty e i ht bK g 0 xs.length cap x n news hs' hroom
    (fun j hj=>by rw [hsz,Nat.zero_add,Nat.mul_one];simp only [World.cell?,hg];simp;omega)
    (fun j hj=>by simp [World.frozen?,hg])
   rw [hsz,Nat.zero_add,Nat.mul_one] at hr;obtain ⟨cur',c1,c2,c3,c4⟩:=ZK news xs.length w cur e (0,0) hg (by omega);refine ⟨_,_,hr,.inr ⟨g,cap,cur',by rw [List.length_append,hn],RI,c1,by rw [List.length_append,hn];exact hroom,by omega,hcm,?_⟩,c4,.inl rfl⟩;rw [List.length_append,c3,cC]
  ·have hold:(Builtin.firstCells i.size xs.length (.slice (some ⟨g,0,none⟩) xs.length cap)).run P w.drew= .ok xs.toArray w.drew:=by
    refine run_firstCells_some w.drew i.size xs.length ⟨g,0,none⟩ xs.length cap xs (by rw [hsz,Nat.mul_one]) (fun j u hu=> ?_);have hrow:Row1 e B w (.slice (some ⟨g,0,none⟩) xs.length cap) xs:= .inr ⟨g,cap,cur,rfl,RI,hg,hlc,hcc,hcm,cC⟩;have:=hrow.cells (g:=g) rfl hu;rw [Addr.add_lit,Nat.zero_add];exact this
   have hr:=run_append_grow_src w t tx ty e i z ht bK hzz (some ⟨g,0,none⟩) xs.length cap xs hold x n news hs' (by omega) (by omega) (by rw [cZ];exact growslice_fits (by omega) hby);exact ⟨_,_,hr,grown cap (by omega),ZL _ _,.inr rfl⟩
theorem below_grown {B:Nat} {w0 w1 w':World} {v:Value} {e:TypeId} {xs:List Value} (hb:Below B w0 w1) (hB:B≤w1.heap.size) (h:Row1 e B w1 v xs) (hg:w1.grownBy w' v.ownBlock):Below B w0 w':=
 hb.grown hg hB (fun _ hk=>(h.lt hk).1)
end append
end Go.Gl
namespace Go.Proofs.YtoolkdapflaeeaaGreatDoor
open Go.RowKit Go.Gl Go.aH
def Bv (w:World) (v:Value) (l:List UInt8):Prop:=
 ∃ a c,v= .slice a l.length c∧l.length≤c∧c≤maxLen∧(a=none→c=0)∧(l= []∨∃ b o,a=some ⟨b,o,none⟩∧b<w.heap.size∧∀ (j:Nat) (k:UInt8),l[j]?=some k→w.cell? ⟨b,o+j,none⟩=some (.int .u8 k.toNat))
theorem Bv.grow {w w':World} {v:Value} {l:List UInt8} (h:Bv w v l) (hg:Grow w w'):Bv w' v l:=by
 obtain ⟨a,c,hv,hl,hm,hn,h⟩:=h;refine ⟨a,c,hv,hl,hm,hn,?_⟩;rcases h with h|⟨b,o,ha,hb,hc⟩
 ·exact .inl h
 ·refine .inr ⟨b,o,ha,cj hb hg.size,fun j k hk=> ?_⟩
  rw [Grow.cells _ _ _ hg hb];exact hc j k hk
theorem Tryz.Mt:(Tryz.prog.info? 5).map (fun i=>(i.zero,i.size,i.bytes))=some (some (.int .u8 0),1,1):=by kernel_rfl
theorem Tryz.wE:(Tryz.prog.info? 49).map (fun i=>(i.zero,i.size,i.bytes))=some (some (.slice none 0 0),1,24):=by kernel_rfl
theorem Tryz.Mu:(Tryz.prog.info? 3).map (fun i=>(i.zero,i.size,i.bytes))=some (some (.int .i64 0),1,8):=by kernel_rfl
theorem Tryz.Mv:(Tryz.prog.info? 9).map (fun i=>(i.zero,i.size,i.bytes))=some (some (.string ByteArray.empty),1,16):=by kernel_rfl
abbrev aG (B:Nat) (w:World) (v:Value) (l:List UInt8):Prop:=Row1 5 B w v (cR l)
theorem iL (l:List UInt8):(cR l).length=l.length:=by simp [cR]
theorem ZM (a b:List UInt8):cR (a++b)=cR a++cR b:=by simp [cR]
theorem anM (l:List UInt8):∀ u∈cR l,u.oneCell'=true:=fun u hu=>by
 obtain ⟨x,_,rfl⟩:=List.mem_map.1 hu;rfl
theorem cy {B:Nat} {w:World} {v:Value} {l:List UInt8} (h:aG B w v l):Bv w v l:=by
 rcases h with ⟨rfl,h0⟩|⟨g,cap,cur,rfl,hB,hg,hn,hc,hm,ht⟩
 ·have:l= []:=jb (by rw [←iL,h0];rfl)
  subst this;exact ⟨none,0,rfl,ay _,bk _,fun _=>rfl,.inl rfl⟩
 ·have hrow:aG B w (.slice (some ⟨g,0,none⟩) (cR l).length cap) l:= .inr ⟨g,cap,cur,rfl,hB,hg,hn,hc,hm,ht⟩
  rw [iL] at hn;refine ⟨some ⟨g,0,none⟩,cap,by rw [iL],hn,hm,(fun h=>by cases h),.inr ⟨g,0,rfl,af hg,fun j k hk=> ?_⟩⟩;rw [Nat.zero_add];exact hrow.cells rfl (by simp [cR,hk])
theorem Bv.src {w:World} {v:Value} {l:List UInt8} (h:Bv w v l):Src Tryz.prog 1 49 v l.length (cR l) w:=by
 obtain ⟨a,c,rfl,hl,hm,hn,h⟩:=h;cases a with
 |none=>
  have hc:=hn rfl;have:l= []:=jb (by omega);subst this;exact Src.ofNil w Tryz.underlying49 c
 |some a=>
  refine Src.ofSlice w Tryz.underlying49 a l.length c (cR l) (by simp [cR]) (fun j u hu=> ?_) (anM l);simp only [cR,List.getElem?_map,Option.map_eq_some_iff] at hu;obtain ⟨x,hx,rfl⟩:=hu;rcases h with rfl|⟨b,o,ha,hb,hc⟩
  ·simp at hx
  ·cases ha
   rw [Addr.add_lit];exact hc j x hx
theorem qh {B:Nat} {w:World} {v pv:Value} {l p:List UInt8} (h:aG B w v l) (hp:Bv w pv p) (hB:B≤w.heap.size) (hlen:l.length+p.length≤140737488355328):
  ∃ v' w',(Builtin.append_ #[49,49] 49 #[v,pv]).run Tryz.prog w= .ok v' w'∧aG B w' v' (l++p)∧w.grownBy w' v.ownBlock∧(v'.ownBlock=v.ownBlock∨v'.ownBlock=some w.heap.size):=by
 obtain ⟨v',w',h1,h2,h3,h4⟩:=Bd (ty:=49) Tryz.underlying49 Tryz.Mt rfl h hp.src hB (by rw [iL];unfold maxLen;omega) (by rw [iL];omega);exact ⟨v',w',h1,by rw [aG,ZM];exact h2,h3,h4⟩
theorem GR {B:Nat} {w:World} {v:Value} {l:List UInt8} (h:aG B w v l) (x:UInt8) {n:Int} (hx:n=(x.toNat:Int)) (hB:B≤w.heap.size) (hlen:l.length+1≤140737488355328):
  ∃ v' w',(Builtin.append_ #[49,49] 49 #[v,.slice (some ⟨w.heap.size,0,none⟩) 1 1]).run Tryz.prog (w.alloc (.cells #[.int .u8 n] 5))= .ok v' w'∧aG B w' v' (l++ [x])∧Below B w w':=by
 subst hx;have hb:Bv (w.alloc (.cells #[.int .u8 x.toNat] 5)) (.slice (some ⟨w.heap.size,0,none⟩) 1 1) [x]:=by
  refine ⟨some ⟨w.heap.size,0,none⟩,1,rfl,ay _,by decide,(fun h=>by cases h),.inr ⟨w.heap.size,0,rfl,by simp,fun j k hk=> ?_⟩⟩
  match j,hk with
  |0,hk=>
   cases hk;simp only [World.cell?,aw];rfl
  |j+1,hk=>simp at hk
 have ai:Grow w (w.alloc (.cells #[.int .u8 x.toNat] 5)):=Grow.alloc _ _;obtain ⟨v',w',h1,h2,h3,_⟩:=qh (h.grow ai) hb (by simp;omega) (by simpa using hlen);exact ⟨v',w',h1,h2,below_grown (ai.mono hB) (by simp;omega) (h.grow ai) h3⟩
def Mw:Array Value:=#[.int .u32 0,.int .u32 274646895,.int .u32 549293790,.int .u32 820201905,.int .u32 1098587580,.int .u32 1361435347,.int .u32 1640403810,.int .u32 1905808397,.int .u32 2197175160,.int .u32 2460548119,.int .u32 2722870694,.int .u32 2987750089,.int .u32 3280807620,.int .u32 3553878443,.int .u32 3811616794,.int .u32 4084100981]
theorem ZN (w:World):Calls Tryz.prog 198 #[] w fun e w'=>e= .returned (.agg Mw)∧Grow w w':=by
 go_enter Tryz.func198,Tryz.ntmps198
 go_wp2_with fail
 refine wp_loop_rounds 17 ?_
 iterate 16 (rw [rounds_succ];go_wp2_with fail;refine wp_loop_rounds 5 ?_;iterate 5 (rw [rounds_succ];go_wp2_with fail))
 rw [rounds_succ];go_wp2;refine bodyPost_ret (v:= .agg Mw) ?_ rfl ⟨rfl,by (repeat (first|exact Below.refl _ _|assumption|refine Below.drew ?_|refine cp ?_|refine Below.setCell ?_ (by first|omega|(simp<;>omega)) _|refine Below.alloc ?_ (by first|omega|(simp<;>omega)) _))⟩;simp [results,Tryz.results198,go_sem];kernel_rfl
theorem Mx {c:Nat} (h:c<4294967296):rz aq c<4294967296:=by
 unfold rz;refine Nat.xor_lt_two_pow (n:=32) (by omega) ?_;have DZ:c&&& 15<16:=Nat.lt_of_le_of_lt Nat.and_le_right (by decide);generalize c&&& 15=d at*;have:∀ d,d<16→aq.getD d 0<2^32:=by decide
 exact this d DZ
theorem anN {c:Nat} (h:c<4294967296) (b:UInt8):yG aq c b<4294967296:=by
 unfold yG;exact Mx (Mx (Nat.xor_lt_two_pow (n:=32) h (by have:=b.toNat_lt;omega)))
theorem GS (l:List UInt8):lI aq l<4294967296:=by
 unfold lI;have:∀ (l:List UInt8) (c:Nat),c<4294967296→l.foldl (yG aq) c<4294967296:=by
  intro l
  induction l with
  |nil=>intro c h;exact h
  |cons x l ih=>intro c h;exact ih _ (anN h x)
 exact this l _ (by decide)
theorem anO {l:List UInt8} {i:Nat} {k:UInt8} (h:l[i]?=some k):lI aq (l.take (i+1))=yG aq (lI aq (l.take i)) k:=by
 unfold lI;obtain ⟨hi,rfl⟩:=dQ.1 h;rw [List.take_succ_eq_append_getElem hi,List.foldl_append];rfl
def anP (w:World) (l:List UInt8) (cv iv:Value) (wr:World):Prop:=∃ i:Nat,iv= .int .i64 i∧i≤l.length∧cv= .int .u32 ((lI aq (l.take i):Nat):Int)∧wr=w
theorem My {w:World} {b:Nat} {pv:Value} {l:List UInt8} (hb:w.heap[b]?=some (.cells #[pv] 49 (0,0))) (h:Bv w pv l):
  Calls Tryz.prog 145 #[.slice (some ⟨b,0,none⟩) 1 1] w fun e w'=>e= .returned (.int .u32 ((dB aq l:Nat):Int))∧Grow w w':=by
 go_enter Tryz.func145,Tryz.ntmps145
 go_wp2_with fail
 (with_reducible refine (ZN _).mono ?_);rintro e w1 ⟨rfl,hg1⟩;have hb1:=hg1.heap hb;have h1:=h.grow hg1;unfold Mw
 go_wp2_with fail
 have ai:Grow w1 (w1.alloc (.cells #[.int .u32 0,.int .u32 274646895,.int .u32 549293790,.int .u32 820201905,.int .u32 1098587580,.int .u32 1361435347,.int .u32 1640403810,.int .u32 1905808397,.int .u32 2197175160,.int .u32 2460548119,.int .u32 2722870694,.int .u32 2987750089,.int .u32 3280807620,.int .u32 3553878443,.int .u32 3811616794,.int .u32 4084100981] 304)):=Grow.alloc _ _;have gO:(w1.alloc (.cells #[.int .u32 0,.int .u32 274646895,.int .u32 549293790,.int .u32 820201905,.int .u32 1098587580,.int .u32 1361435347,.int .u32 1640403810,.int .u32 1905808397,.int .u32 2197175160,.int .u32 2460548119,.int .u32 2722870694,.int .u32 2987750089,.int .u32 3280807620,.int .u32 3553878443,.int .u32 3811616794,.int .u32 4084100981] 304)).heap[w1.heap.size]?=some (.cells #[.int .u32 0,.int .u32 274646895,.int .u32 549293790,.int .u32 820201905,.int .u32 1098587580,.int .u32 1361435347,.int .u32 1640403810,.int .u32 1905808397,.int .u32 2197175160,.int .u32 2460548119,.int .u32 2722870694,.int .u32 2987750089,.int .u32 3280807620,.int .u32 3553878443,.int .u32 3811616794,.int .u32 4084100981] 304 (0,0)):=aw _ _;have hT:∀ d,d<16→(w1.alloc (.cells #[.int .u32 0,.int .u32 274646895,.int .u32 549293790,.int .u32 820201905,.int .u32 1098587580,.int .u32 1361435347,.int .u32 1640403810,.int .u32 1905808397,.int .u32 2197175160,.int .u32 2460548119,.int .u32 2722870694,.int .u32 2987750089,.int .u32 3280807620,.int .u32 3553878443,.int .u32 3811616794,.int .u32 4084100981] 304)).cell? ⟨w1.heap.size,d,none⟩=some (.int .u32 ((aq.getD d 0:Nat):Int)):=fun d hd=>by
  simp only [World.cell?,gO]
  match d,hd with
  |0,_=>rfl
  |1,_=>rfl
  |2,_=>rfl
  |3,_=>rfl
  |4,_=>rfl
  |5,_=>rfl
  |6,_=>rfl
  |7,_=>rfl
  |8,_=>rfl
  |9,_=>rfl
  |10,_=>rfl
  |11,_=>rfl
  |12,_=>rfl
  |13,_=>rfl
  |14,_=>rfl
  |15,_=>rfl
  |d+16,h=>exact absurd h (by omega)
 have hb2:=ai.heap hb1;have h2:=h1.grow ai;have eD:=ae (hg1.trans ai);have Ea:=af gO;generalize w1.alloc (.cells #[.int .u32 0,.int .u32 274646895,.int .u32 549293790,.int .u32 820201905,.int .u32 1098587580,.int .u32 1361435347,.int .u32 1640403810,.int .u32 1905808397,.int .u32 2197175160,.int .u32 2460548119,.int .u32 2722870694,.int .u32 2987750089,.int .u32 3280807620,.int .u32 3553878443,.int .u32 3811616794,.int .u32 4084100981] 304)=w2 at*;generalize w1.heap.size=tb at*;have hb0:w2.cell? ⟨b,0,none⟩=some pv:=by simp [World.cell?,hb2]
 have lb:=af hb2;obtain ⟨pa,pc,rfl,hl,hm,hn,hp⟩:=h2;have Hp:=ae hp;have HT:=ae hT;clear hb hp h hb1 h1 gO hT ai hg1 hb2;refine wp_loop_rounds 2 ?_;rw [rounds_succ]
 go_wp2_with fail
 go_loopw [4,18] (fun cv iv wr=>anP w2 l cv iv wr) (fun _ iv _=>l.length-(intOf iv).toNat)
 case atStart=>exact ⟨0,rfl,bk _,rfl,rfl⟩
 case round=>
  obtain ⟨i,rfl,hi,rfl,hwr⟩:=hrel;have sZ:=hwr.symm;subst sZ;clear hwr;by_cases hlt:i<l.length
  ·obtain ⟨k,hk⟩:∃ k,l[i]?=some k:=⟨l[i],by simp [hlt]⟩
   obtain ⟨p,o,rfl,lp,hc⟩:∃ b o,pa=some ⟨b,o,none⟩∧b<w2.heap.size∧∀ (j:Nat) (k:UInt8),l[j]?=some k→w2.cell? ⟨b,o+j,none⟩=some (.int .u8 k.toNat):=by
    rcases Hp.out with h1|h1
    ·rw [h1] at hlt;simp at hlt
    ·exact h1
   have ck:=hc i k hk;have hstep:=anO hk;have GU:=GS (l.take i);have anQ:=k.toNat_lt;generalize lI aq (l.take i)=c at*;have dJ:(i:Int)<(l.length:Int):=by omega
   have bK:(0:Int)≤(i:Int):=by omega
   have eE:IntKind.i64.wrap ((i:Int)+1)=(i:Int)+1:=aR _ (by unfold maxLen at hm;omega);have x1:bits .xor .u32 (c:Int) (k.toNat:Int)=((c^^^k.toNat:Nat):Int):=u32_xor_nat c k.toNat GU (by omega);have hc1:c^^^k.toNat<4294967296:=Nat.xor_lt_two_pow (n:=32) GU (by omega);unfold yG at hstep;generalize c^^^k.toNat=c1 at*;have x2:bits .and .u32 (c1:Int) 15=((c1&&& 15:Nat):Int):=u32_and_nat c1 15 hc1 (by decide);have fR:c1&&& 15<16:=Nat.lt_of_le_of_lt Nat.and_le_right (by decide);have ct1:=HT.out _ fR;have mP:aq.getD (c1&&& 15) 0<4294967296:=by
    have:∀ d,d<16→aq.getD d 0<2^32:=by decide
    exact this _ fR
   have x3:bits .xor .u32 ((c1:Int) / 16) ((aq.getD (c1&&& 15) 0:Nat):Int)=((rz aq c1:Nat):Int):=by
    have:=u32_xor_nat (c1 / 16) (aq.getD (c1&&& 15) 0) (by omega) mP;rw [show ((c1 / 16:Nat):Int)=(c1:Int) / 16 by simp] at this;exact this
   have hc2:=Mx hc1;generalize rz aq c1=c2 at*;generalize RJ:c1&&& 15=d1 at*;have x4:bits .and .u32 (c2:Int) 15=((c2&&& 15:Nat):Int):=u32_and_nat c2 15 hc2 (by decide);have cn:c2&&& 15<16:=Nat.lt_of_le_of_lt Nat.and_le_right (by decide);have ct2:=HT.out _ cn;have uI:aq.getD (c2&&& 15) 0<4294967296:=by
    have:∀ d,d<16→aq.getD d 0<2^32:=by decide
    exact this _ cn
   have x5:bits .xor .u32 ((c2:Int) / 16) ((aq.getD (c2&&& 15) 0:Nat):Int)=((rz aq c2:Nat):Int):=by
    have:=u32_xor_nat (c2 / 16) (aq.getD (c2&&& 15) 0) (by omega) uI;rw [show ((c2 / 16:Nat):Int)=(c2:Int) / 16 by simp] at this;exact this
   generalize rz aq c2=c3 at*;generalize RM:c2&&& 15=d2 at*;generalize aq.getD d1 0=T1 at*;generalize aq.getD d2 0=T2 at*;have d1a:(d1:Int)<16:=by omega
   have d2a:(d2:Int)<16:=by omega
   have d1b:(0:Int)≤(d1:Int):=by omega
   have d2b:(0:Int)≤(d2:Int):=by omega
   have iM:=ae hstep;clear hstep hc hk RJ RM mP uI;go_wp2;go_roundw
   case rel=>exact ⟨i+1,rfl,hlt,by rw [iM.out],rfl⟩
   case measure=>simp [intOf];omega
  ·obtain rfl:i=l.length:=by omega
   go_wp2_with fail
   rw [rounds_succ];have GV:=GS l;go_wp2;go_ret;have x:bits .xor .u32 4294967295 ((lI aq l:Nat):Int)=((dB aq l:Nat):Int):=u32_xor_nat 4294967295 (lI aq l) (by decide) GV;refine ⟨?_,eD.out⟩;rw [←x];rfl
theorem yH (l:List UInt8):dB aq l<4294967296:=Nat.xor_lt_two_pow (n:=32) (by decide) (GS l)
theorem ZO (m:Nat):bits .or .u8 ((m:Int)%256) 128=(((UInt8.ofNat (m%128+128)).toNat:Nat):Int):=by
 have h1:((m:Int)%256)=((m%256:Nat):Int):=by omega
 have h2:bits .or .u8 ((m%256:Nat):Int) 128=((m%256|||128:Nat):Int):=u8_or_nat (m%256) 128 (by omega) (by decide);rw [h1,h2,UInt8.toNat_ofNat_of_lt' (by simp [UInt8.size];omega)];congr 1;have:∀ x:Nat,x<256→x|||128=x%128+128:=by decide+kernel
 rw [this _ (by omega)];omega
theorem anX (w:World):Calls Tryz.prog 126 #[.slice none 0 0] w fun e w'=>e= .returned (.slice none 0 0)∧w'=w:=by
 go_enter Tryz.func126,Tryz.ntmps126;go_wp2;go_ret;exact ⟨rfl,rfl⟩
def ZP (w:World) (n:Nat) (bv vv:Value) (wr:World):Prop:=
 ∃ (pre:List UInt8) (m k:Nat),vv= .int .u64 m∧aG w.heap.size wr bv pre∧m<128^(k+1)∧pre.length+(k+1)=10∧aA n=pre++gB (k+1) m∧m<18446744073709551616∧Grow w wr
theorem anY (w:World) (n:Nat) (hn:n<18446744073709551616):
  Calls Tryz.prog 81 #[.slice none 0 0,.int .u64 n] w fun e w'=>∃ v,e= .returned v∧aG w.heap.size w' v (aA n)∧Grow w w':=by
 go_enter Tryz.func81,Tryz.ntmps81
 go_wp2_with fail
 (with_reducible refine (anX _).mono ?_);rintro e w1 ⟨rfl,bS⟩;have hw2:=bS.symm;subst hw2;clear bS
 go_wp2_with fail
 go_loopw [0,1] (fun bv vv wr=>ZP w n bv vv wr) (fun _ vv _=>(intOf vv).toNat)
 case atStart=>exact ⟨[],n,9,rfl,mi _ _ _,by omega,rfl,rfl,hn,Grow.refl _⟩
 case round=>
  obtain ⟨pre,m,k,rfl,hown,hm,hk,ie,ZQ,hg⟩:=hrel;obtain ⟨ba,bc,rfl⟩:=hown.slice;by_cases hlt:128≤m
  ·have iK:decide ((128:Int)≤(m:Int))=true:=by simp;omega
   have kR:0<k:=by
    rcases Nat.eq_zero_or_pos k with rfl|h1
    ·simp at hm;omega
    ·exact h1
   obtain ⟨k',rfl⟩:∃ k',k=k'+1:=⟨k-1,by omega⟩
   obtain ⟨v',w',h1,h2,h3⟩:=GR hown (UInt8.ofNat (m%128+128)) (ZO m) hg.size (by omega);have dC:=ae h1;have hrel:ZP w n v' (.int .u64 ((m:Int) / 128)) w':=by
    refine ⟨pre++ [UInt8.ofNat (m%128+128)],m / 128,k',by simp,h2,?_,by simp;omega,?_,by omega,Below.trans hg h3⟩
    ·rw [Nat.pow_succ] at hm;exact Nat.div_lt_of_lt_mul (by rw [Nat.mul_comm];exact hm)
    ·rw [ie,gB,if_neg (by omega)];simp
   have bq:=ae hrel;clear h1 h2 h3 hrel hown ie hm hk hg
   go_wp2_with (at_builtin;refine fC rfl rfl rfl rfl dC.out ?_)
   go_roundw
   case rel=>exact bq.out
   case measure=>simp [intOf];omega
  ·have iK:decide ((128:Int)≤(m:Int))=false:=by simp;omega
   have hx:(m:Int)=(((UInt8.ofNat m).toNat:Nat):Int):=by rw [UInt8.toNat_ofNat_of_lt' (by simp [UInt8.size];omega)]
   obtain ⟨v',w',h1,h2,h3⟩:=GR hown (UInt8.ofNat m) hx hg.size (by omega);have dC:=ae h1;have jd:aG w.heap.size w' v' (aA n):=by
    rw [ie,gB,if_pos (by omega)];exact h2
   have fK:=ae jd;have Hg:=ae (Below.trans hg h3);clear h1 h2 h3 hown ie hm hk hg jd hx
   go_wp2_with (at_builtin;refine fC rfl rfl rfl rfl dC.out ?_)
   go_ret;exact ⟨_,rfl,fK.out,Hg.out⟩
def RN (w:World) (B:Nat) (l:List UInt8) (v0:Nat) (bv vv iv:Value) (wr:World):Prop:=
 ∃ (i v:Nat),iv= .int .i64 i∧i≤4∧vv= .int .u64 v∧v<4294967296∧(∃ pre,aG B wr bv (l++pre)∧pre.length=i∧cm 4 v0=pre++cm (4-i) v)∧Below B w wr∧B≤wr.heap.size
theorem ZR {w:World} {B:Nat} {bv:Value} {l:List UInt8} (h:aG B w bv l) (hB:B≤w.heap.size) (hl:l.length≤1000000000000) (v0:Nat) (hv:v0<4294967296):
  Calls Tryz.prog 162 #[bv,.int .u64 v0,.int .i64 4] w fun e w'=>∃ v,e= .returned v∧aG B w' v (l++cm 4 v0)∧Below B w w':=by
 have hst:RN w B l v0 bv (.int .u64 v0) (.int .i64 0) w:=⟨0,v0,rfl,by omega,rfl,hv,⟨[],by simpa using h,rfl,rfl⟩,Below.refl _ _,hB⟩
 have bI:=ae hst;clear hst h;go_enter Tryz.func162,Tryz.ntmps162
 go_wp2_with fail
 go_loopw [0,1,8] (fun bv vv iv wr=>RN w B l v0 bv vv iv wr) (fun _ _ iv _=>4-(intOf iv).toNat)
 case atStart=>exact bI.out
 case round=>
  obtain ⟨i,v,rfl,hi,rfl,anZ,⟨pre,hown,hpl,kU⟩,hg,Be⟩:=hrel;by_cases hlt:i<4
  ·have dJ:decide ((i:Int)<4)=true:=by simp;omega
   have eE:IntKind.i64.wrap ((i:Int)+1)=(i:Int)+1:=aR _ (by omega);have hx:((v:Int)%256)=(((UInt8.ofNat (v%256)).toNat:Nat):Int):=by rw [UInt8.toNat_ofNat_of_lt' (by simp [UInt8.size];omega)];omega
   obtain ⟨v',w',h1,h2,h3⟩:=GR hown (UInt8.ofNat (v%256)) hx Be (by simp;omega);have dC:=ae h1;have hrel:RN w B l v0 v' (.int .u64 ((v:Int) / 256)) (.int .i64 ((i:Int)+1)) w':=by
    refine ⟨i+1,v / 256,by simp,hlt,by simp,by omega,⟨pre++ [UInt8.ofNat (v%256)],by rw [←List.append_assoc];exact h2,by simp;omega,?_⟩,Below.trans hg h3,aN Be h3.size⟩;rw [kU,show 4-i=(4-(i+1))+1 by omega,cm];simp
   have bq:=ae hrel;obtain ⟨ba,bc,rfl⟩:=hown.slice;clear h1 h2 h3 hrel hown kU hpl hg hx
   go_wp2_with (at_builtin;refine fC rfl rfl rfl rfl dC.out ?_)
   go_roundw
   case rel=>exact bq.out
   case measure=>simp [intOf];omega
  ·obtain rfl:i=4:=by omega
   have gP:cm 4 v0=pre:=by rw [kU];simp [cm]
   have jd:=hown;rw [←gP] at jd;have fK:=ae jd;obtain ⟨ba,bc,rfl⟩:=hown.slice;clear jd hown kU gP;go_wp2;go_ret;exact ⟨_,rfl,fK.out,hg⟩
theorem Bv.slice {w:World} {v:Value} {l:List UInt8} (h:Bv w v l):∃ a c,v= .slice a l.length c:=by
 obtain ⟨a,c,h,_⟩:=h;exact ⟨a,c,h⟩
theorem Bf {w:World} {pv:Value} {p:List UInt8} (h:Bv w pv p) (hp:p.length≤67108864):
  Calls Tryz.prog 111 #[pv] w fun e w'=>∃ v,e= .returned v∧aG w.heap.size w' v (bw aq p)∧Grow w w':=by
 have ie:=anY w p.length (by omega);obtain ⟨pa,pc,rfl⟩:=h.slice;have H:=ae h;have lJ:=ae ie;clear h ie;go_enter Tryz.func111,Tryz.ntmps111
 go_wp2_with fail
 (with_reducible refine lJ.out.mono ?_);rintro e w1 ⟨nv,rfl,gQ,hg1⟩;have ai:Grow w1 (w1.alloc (.cells #[.slice pa p.length pc] 49)):=Grow.alloc _ _;have Bg:=My (aw w1 (.cells #[.slice pa p.length pc] 49)) ((H.out.grow hg1).grow ai);have Bh:=ae Bg;obtain ⟨na,nc,rfl⟩:=gQ.slice;clear Bg
 go_wp2_with fail
 (with_reducible refine Bh.out.mono ?_);rintro e w2 ⟨rfl,hg2⟩;have kU:=ZR ((gQ.grow ai).grow hg2) (by have:=hg1.size;have:=ai.size;have:=hg2.size;omega) (by have:=GP 10 p.length;unfold aA;omega) (dB aq p) (yH p);have aoa:=ae kU;have hwr:IntKind.u64.wrap ((dB aq p:Nat):Int)=((dB aq p:Nat):Int):=by have:=yH p;simp [IntKind.wrap,IntKind.bits,IntKind.signed];omega
 have Hg:=ae ((hg1.trans ai).trans hg2);clear kU ai hg2 Bh gQ hg1 lJ
 go_wp2_with fail
 (with_reducible refine aoa.out.mono ?_);rintro e w3 ⟨lv,rfl,kX,hb3⟩;have hg3:Grow w w3:=Below.trans Hg.out hb3;obtain ⟨v',w',h1,h2,h3,_⟩:=qh kX (H.out.grow hg3) hg3.size (by have:=GP 10 p.length;simp [kQ];unfold aA;omega);have dC:=ae h1;have jd:aG w.heap.size w' v' (bw aq p):=by unfold bw;rw [←List.append_assoc];exact h2
 have fK:=ae jd;have dU:=ae (below_grown hg3 hg3.size kX h3);obtain ⟨la,lc,rfl⟩:=kX.slice;clear h1 h2 h3 jd kX hb3 hg3
 go_wp2_with (at_builtin;refine fC rfl rfl rfl rfl dC.out ?_)
 go_ret;exact ⟨_,rfl,fK.out,dU.out⟩
def Rv (w:World) (v:Value) (ps:List (List UInt8)):Prop:=
 ∃ a c,v= .slice a ps.length c∧(ps= []∨∃ b o,a=some ⟨b,o,none⟩∧b<w.heap.size∧∀ (j:Nat) (p:List UInt8),ps[j]?=some p→∃ pv,w.cell? ⟨b,o+j,none⟩=some pv∧Bv w pv p)
theorem Rv.grow {w w':World} {v:Value} {ps:List (List UInt8)} (h:Rv w v ps) (hg:Grow w w'):Rv w' v ps:=by
 obtain ⟨a,c,hv,h⟩:=h;refine ⟨a,c,hv,?_⟩;rcases h with h|⟨b,o,ha,hb,hc⟩
 ·exact .inl h
 ·refine .inr ⟨b,o,ha,cj hb hg.size,fun j p hp=> ?_⟩
  obtain ⟨pv,h1,h2⟩:=hc j p hp;exact ⟨pv,by rw [Grow.cells _ _ _ hg hb];exact h1,h2.grow hg⟩
theorem aob {ps:List (List UInt8)} {i:Nat} {p:List UInt8} (h:ps[i]?=some p):bP aq (ps.take (i+1))=bP aq (ps.take i)++bw aq p:=by
 obtain ⟨hi,rfl⟩:=dQ.1 h;unfold bP;rw [List.take_succ_eq_append_getElem hi,List.flatMap_append,List.flatMap_singleton]
def ZT (w:World) (ps:List (List UInt8)) (bv iv:Value) (wr:World):Prop:=
 ∃ i:Nat,iv= .int .i64 i∧i≤ps.length∧aG w.heap.size wr bv (bP aq (ps.take i))∧Grow w wr
theorem aoc {w:World} {v:Value} {ps:List (List UInt8)} (h:Rv w v ps) (eh:∀ p∈ps,p.length≤67108864) (mQ:(bP aq ps).length≤1000000000000) (hpl:ps.length≤1000000000000):
  Calls Tryz.prog 80 #[v] w fun e w'=>∃ v,e= .returned v∧aG w.heap.size w' v (bP aq ps)∧Grow w w':=by
 obtain ⟨va,vc,rfl,h⟩:=h;have H:=ae h;clear h;go_enter Tryz.func80,Tryz.ntmps80
 go_wp2_with fail
 go_loopw [3,8] (fun bv iv wr=>ZT w ps bv iv wr) (fun _ iv _=>ps.length-(intOf iv).toNat)
 case atStart=>exact ⟨0,rfl,bk _,mi _ _ _,Grow.refl _⟩
 case round=>
  obtain ⟨i,rfl,hi,hown,hg⟩:=hrel;by_cases hlt:i<ps.length
  ·obtain ⟨p,hp⟩:∃ p,ps[i]?=some p:=⟨ps[i],by simp [hlt]⟩
   obtain ⟨b,o,rfl,lb,hc⟩:∃ b o,va=some ⟨b,o,none⟩∧b<w.heap.size∧∀ (j:Nat) (p:List UInt8),ps[j]?=some p→∃ pv,w.cell? ⟨b,o+j,none⟩=some pv∧Bv w pv p:=by
    rcases H.out with h1|h1
    ·rw [h1] at hlt;simp at hlt
    ·exact h1
   obtain ⟨pv,c1,bg⟩:=hc i p hp;rw [←Grow.cells _ _ _ hg lb] at c1;have lb':b<wr.heap.size:=cj lb hg.size;have eu:=Bf (bg.grow hg) (eh p (dY hp));have df:=aob hp;have hle:(bP aq (ps.take (i+1))).length≤(bP aq ps).length:=by
    have:bP aq ps=bP aq (ps.take (i+1))++bP aq (ps.drop (i+1)):=by unfold bP;rw [←List.flatMap_append,List.take_append_drop]
    rw [this,List.length_append];omega
   have dJ:(i:Int)<(ps.length:Int):=by omega
   have bK:(0:Int)≤(i:Int):=by omega
   have eE:IntKind.i64.wrap ((i:Int)+1)=(i:Int)+1:=aR _ (by omega);obtain ⟨pa,pc,rfl⟩:=bg.slice;obtain ⟨ba,bc,rfl⟩:=hown.slice;have oX:=ae eu;have eT:=ae hown;have Hg:=ae hg;clear eu hown hg hc hp bg
   go_wp2_with fail
   (with_reducible refine oX.out.mono ?_);rintro e w2 ⟨fv,rfl,hf2,hg2⟩;have eU:=eT.out.grow hg2;obtain ⟨v',w',h1,h2,h3,_⟩:=qh eU (cy hf2) (aN Hg.out.size hg2.size) (by rw [df,List.length_append] at hle;omega);have dC:=ae h1;have hrel:ZT w ps v' (.int .i64 ((i:Int)+1)) w':=⟨i+1,by simp,hlt,by rw [df];exact h2,below_grown (Hg.out.trans hg2) (aN Hg.out.size hg2.size) eU h3⟩
   have bq:=ae hrel;obtain ⟨fa,fc,rfl⟩:=hf2.slice;clear h1 h2 h3 hrel eU hf2 df hle hg2
   go_wp2_with (at_builtin;refine fC rfl rfl rfl rfl dC.out ?_)
   go_roundw
   case rel=>exact bq.out
   case measure=>simp [intOf];omega
  ·obtain rfl:i=ps.length:=by omega
   have jd:=hown;rw [List.take_length] at jd;have fK:=ae jd;obtain ⟨ba,bc,rfl⟩:=hown.slice;clear jd hown;go_wp2;go_ret;exact ⟨_,rfl,fK.out,hg⟩
def aoe (w:World) (l:List UInt8) (vv iv:Value) (wr:World):Prop:=
 ∃ i v:Nat,iv= .int .i64 i∧i≤l.length∧vv= .int .u64 v∧v<128^i∧i≤9∧ed l=kP i v (l.drop i)∧wr=w
theorem aof {l:List UInt8} {i v:Nat} {c:UInt8} (h:l[i]?=some c):kP i v (l.drop i)=
  if i=9∧1<c.toNat then (0,0,12) else
  if c.toNat<128 then (if c.toNat=0∧0<i then (0,0,12) else (v+c.toNat*128^i,i+1,0)) else
  kP (i+1) (v+(c.toNat-128)*128^i) (l.drop (i+1)):=by
 obtain ⟨hi,rfl⟩:=dQ.1 h;rw [List.drop_eq_getElem_cons hi,kP]
theorem RO (i:Nat):128^i=2^(7*i):=by
 rw [Nat.pow_mul]
theorem aog {v x i:Nat} (hi:i≤9) (hv:v<128^i) (td:x*128^i<18446744073709551616):bits .or .u64 (v:Int) ((x*128^i:Nat):Int)=((v+x*128^i:Nat):Int):=by
 have hle:128^i≤128^9:=Nat.pow_le_pow_right (by decide) hi;rw [u64_or_nat v (x*128^i) (by omega) td];congr 1;rw [Nat.or_comm,Nat.add_comm v,RO];rw [RO] at hv;exact nat_join (7*i) (x*2^(7*i)) v (Nat.mul_mod_left _ _) hv
theorem aoh {v k i:Nat} (hi:i≤9) (hv:v<128^i) (td:k%128*128^i<18446744073709551616):bits .or .u64 (v:Int) (IntKind.u64.wrap ((k:Int)%128*2^(7*i)))=((v+k%128*128^i:Nat):Int):=by
 have e:(k:Int)%128*2^(7*i)=((k%128*128^i:Nat):Int):=by rw [RO];simp
 have hw:IntKind.u64.wrap ((k%128*128^i:Nat):Int)=((k%128*128^i:Nat):Int):=by
  generalize k%128*128^i=z at*;simp [IntKind.wrap,IntKind.bits,IntKind.signed];omega
 rw [e,hw];exact aog hi hv td
theorem GW {w:World} {bv:Value} {l:List UInt8} (h:Bv w bv l):
  Calls Tryz.prog 101 #[bv] w fun e w'=>e= .returned (.tuple #[.int .u64 ((ed l).1:Nat),.int .i64 ((ed l).2.1:Nat),.int .i64 ((ed l).2.2:Nat)])∧w'=w:=by
 obtain ⟨ba,bc,rfl,hlc,hm,hn,h⟩:=h;have H:=ae h;clear h;go_enter Tryz.func101,Tryz.ntmps101
 go_wp2_with fail
 go_loopw [5,10] (fun vv iv wr=>aoe w l vv iv wr) (fun _ iv _=>l.length-(intOf iv).toNat)
 case atStart=>exact ⟨0,0,rfl,bk _,rfl,by decide,by decide,rfl,rfl⟩
 case round=>
  obtain ⟨i,v,rfl,hi,rfl,hv,hi9,eR,hwr⟩:=hrel;have sZ:=hwr.symm;subst sZ;clear hwr;by_cases hlt:i<l.length
  ·obtain ⟨c,hc⟩:∃ c,l[i]?=some c:=⟨l[i],by simp [hlt]⟩
   obtain ⟨b,o,rfl,lb,hcs⟩:∃ b o,ba=some ⟨b,o,none⟩∧b<w.heap.size∧∀ (j:Nat) (k:UInt8),l[j]?=some k→w.cell? ⟨b,o+j,none⟩=some (.int .u8 k.toNat):=by
    rcases H.out with h1|h1
    ·rw [h1] at hlt;simp at hlt
    ·exact h1
   have ck:=hcs i c hc;rw [aof hc] at eR;have ZU:=c.toNat_lt;have dJ:(i:Int)<(l.length:Int):=by omega
   have bK:(0:Int)≤(i:Int):=by omega
   have eE:IntKind.i64.wrap ((i:Int)+1)=(i:Int)+1:=aR _ (by omega);have hw7:IntKind.i64.wrap (7*(i:Int))=7*(i:Int):=aR _ (by omega);generalize c.toNat=k at*;have x1:bits .and .u8 (k:Int) 127=((k%128:Nat):Int):=by
    have:=u8_and_nat k 127 (by omega) (by decide);rw [show (k&&& 127)=k%128 from Nat.and_two_pow_sub_one_eq_mod k 7] at this;exact this
   have gF:=ae eR;clear eR hc hcs;by_cases h9:i=9∧1<k
   ·have e9:((i:Int)==9)=true:=by simp;omega
    have e1:decide ((1:Int)<(k:Int))=true:=by simp;omega
    have ct:Hid (ed l=(0,0,12)):=ae (by rw [gF.out,if_pos h9]);clear h9;go_wp2;go_ret3;rw [ct.out];exact ⟨rfl,rfl⟩
   ·have e9:((i:Int)==9)=true→decide ((1:Int)<(k:Int))=false:=by simp;omega
    have hx:k%128*128^i<18446744073709551616:=by
     by_cases ZV:i≤8
     ·have h1:128^i≤128^8:=Nat.pow_le_pow_right (by decide) ZV
      have h2:k%128*128^i≤127*128^8:=Nat.mul_le_mul (by omega) h1;omega
     ·obtain rfl:i=9:=by omega
      have:k%128≤1:=by omega
      have h2:k%128*128^9≤1*128^9:=Nat.mul_le_mul_right _ this;omega
    have x2:=aoh hi9 hv hx;have X2:=ae x2;clear x2;rw [if_neg h9] at gF;by_cases RP:k<128
    ·rw [if_pos RP] at gF
     have DV:k%128=k:=Nat.mod_eq_of_lt RP;rw [DV] at X2;have aoj:decide ((k:Int)<128)=true:=by simp;omega
     by_cases hz:k=0∧0<i
     ·have ct:Hid (ed l=(0,0,12)):=ae (by rw [gF.out,if_pos hz])
      have ez:((k:Int)==0)=true:=by simp;omega
      have ei:decide (0<i)=true:=by simp;omega
      have ei2:0<i:=hz.2;clear hz DV;cases Eb:((i:Int)==9) with
      |true=>
       have e1:=e9 Eb;go_wp2;go_ret3;rw [ct.out];exact ⟨rfl,rfl⟩
      |false=>
       go_wp2;go_ret3;rw [ct.out];exact ⟨rfl,rfl⟩
     ·have ct:Hid (ed l=(v+k*128^i,i+1,0)):=ae (by rw [gF.out,if_neg hz])
      clear DV;by_cases jA:k=0
      ·have ei:decide (0<i)=false:=by simp;omega
       have ei2:¬ 0<i:=by omega
       have ez:((k:Int)==0)=true:=by simp;omega
       clear jA;cases Eb:((i:Int)==9) with
       |true=>
        have e1:=e9 Eb;go_wp2;refine bodyPost_ret (v:= .tuple #[.int .u64 ((ed l).1:Nat),.int .i64 ((ed l).2.1:Nat),.int .i64 ((ed l).2.2:Nat)]) ?_ rfl ⟨rfl,rfl⟩;rw [ct.out];simp only [←X2.out];simp [results,Tryz.results101,go_sem]
       |false=>
        go_wp2;refine bodyPost_ret (v:= .tuple #[.int .u64 ((ed l).1:Nat),.int .i64 ((ed l).2.1:Nat),.int .i64 ((ed l).2.2:Nat)]) ?_ rfl ⟨rfl,rfl⟩;rw [ct.out];simp only [←X2.out];simp [results,Tryz.results101,go_sem]
      ·skip
       have ez:((k:Int)==0)=false:=by simp;omega
       cases Eb:((i:Int)==9) with
       |true=>
        have e1:=e9 Eb;go_wp2;refine bodyPost_ret (v:= .tuple #[.int .u64 ((ed l).1:Nat),.int .i64 ((ed l).2.1:Nat),.int .i64 ((ed l).2.2:Nat)]) ?_ rfl ⟨rfl,rfl⟩;rw [ct.out];simp only [←X2.out];simp [results,Tryz.results101,go_sem]
       |false=>
        go_wp2;refine bodyPost_ret (v:= .tuple #[.int .u64 ((ed l).1:Nat),.int .i64 ((ed l).2.1:Nat),.int .i64 ((ed l).2.2:Nat)]) ?_ rfl ⟨rfl,rfl⟩;rw [ct.out];simp only [←X2.out];simp [results,Tryz.results101,go_sem]
    ·have ZV:i≤8:=by omega
     have Eb:((i:Int)==9)=false:=by simp;omega
     have aoj:decide ((k:Int)<128)=false:=by simp;omega
     have aol:Hid (k%128=k-128):=ae (by omega);rw [if_neg RP] at gF;go_wp2;go_roundw
     case rel=>
      rw [X2.out];refine ⟨i+1,_,by simp,hlt,rfl,?_,by omega,by rw [gF.out,aol.out],rfl⟩;have h1:k%128*128^i≤127*128^i:=Nat.mul_le_mul_right _ (by omega);rw [Nat.pow_succ];omega
     case measure=>simp [intOf];omega
  ·obtain rfl:i=l.length:=by omega
   have ct:Hid (ed l=(0,0,11)):=ae (by rw [eR,List.drop_length];rfl);clear eR;go_wp2;go_ret3;rw [ct.out];exact ⟨rfl,rfl⟩
def ZW (w:World) (l1 l2:List UInt8) (iv:Value) (wr:World):Prop:=∃ i:Nat,iv= .int .i64 i∧i≤l1.length∧l1.take i=l2.take i∧Grow w wr
theorem RQ {w:World} {v1 v2:Value} {l1 l2:List UInt8} (h1:Bv w v1 l1) (h2:Bv w v2 l2):
  Calls Tryz.prog 150 #[v1,v2] w fun e w'=>e= .returned (.bool (decide (l1=l2)))∧Grow w w':=by
 obtain ⟨a1,c1,rfl,yI,fY,gQ,h1⟩:=h1;obtain ⟨a2,c2,rfl,hl2,iy,km,h2⟩:=h2;have H1:=ae h1;have H2:=ae h2;have aQ:=Grow.cells (w:=w);clear h1 h2 gQ km;by_cases hlen:l1.length=l2.length
 ·have hne:((l1.length:Int) != (l2.length:Int))=false:=by simp;omega
  go_enter Tryz.func150,Tryz.ntmps150;go_wp2
  go_loopw [13] (fun iv wr=>ZW w l1 l2 iv wr) (fun iv _=>l1.length-(intOf iv).toNat)
  case atStart=>exact ⟨0,rfl,bk _,rfl,Grow.refl _⟩
  case round=>
   obtain ⟨i,rfl,hi,heq,hg⟩:=hrel;by_cases hlt:i<l1.length
   ·obtain ⟨x,hx⟩:∃ x,l1[i]?=some x:=⟨l1[i],by simp [hlt]⟩
    obtain ⟨y,hy⟩:∃ y,l2[i]?=some y:=⟨l2[i]'(by omega),by simp [show i<l2.length by omega]⟩
    obtain ⟨b1,o1,rfl,lb1,hc1⟩:∃ b o,a1=some ⟨b,o,none⟩∧b<w.heap.size∧∀ (j:Nat) (k:UInt8),l1[j]?=some k→w.cell? ⟨b,o+j,none⟩=some (.int .u8 k.toNat):=by
     rcases H1.out with h1|h1
     ·rw [h1] at hlt;simp at hlt
     ·exact h1
    obtain ⟨b2,o2,rfl,RS,hc2⟩:∃ b o,a2=some ⟨b,o,none⟩∧b<w.heap.size∧∀ (j:Nat) (k:UInt8),l2[j]?=some k→w.cell? ⟨b,o+j,none⟩=some (.int .u8 k.toNat):=by
     rcases H2.out with h1|h1
     ·rw [hlen,h1] at hlt;simp at hlt
     ·exact h1
    have p1:=hc1 i x hx;have p2:=hc2 i y hy;have dJ:(i:Int)<(l1.length:Int):=by omega
    have Mz:(i:Int)<(l2.length:Int):=by omega
    have bK:(0:Int)≤(i:Int):=by omega
    have eE:IntKind.i64.wrap ((i:Int)+1)=(i:Int)+1:=aR _ (by unfold maxLen at fY;omega);have Hg:=ae hg;by_cases gA:x=y
    ·have hrel:ZW w l1 l2 (.int .i64 ((i:Int)+1)) wr.drew:=by
      refine ⟨i+1,by simp,hlt,?_,hg.trans (Grow.drew _)⟩;obtain ⟨q1,q2⟩:=dQ.1 hx;obtain ⟨q3,q4⟩:=dQ.1 hy;rw [List.take_succ_eq_append_getElem q1,List.take_succ_eq_append_getElem q3,heq,q2,q4,gA]
     have bq:=ae hrel;have e1:((x.toNat:Int) != (y.toNat:Int))=false:=by rw [gA];simp
     clear hrel hc1 hc2 hx hy heq hg gA
     go_wp2_with fail
     refine bX (fun W=>Below w.heap.size w W) [(0,false),(1,false),(2,false),(3,false),(4,false),(5,false),(6,false),(7,false),(8,false)] (by kernel_rfl) (by kernel_rfl) (fun c a d v w h=>by cases d<;>exact h) (Hg.out.trans (Grow.drew _)) ?_;simp only [aP,nth]
     repeat (first|(refine aB (v:= ?_) (by rfl) ?_ ?_;rotate_left;(rintro W hW;go_simp;with_reducible rfl);simp only [ag,List.set])|(refine aC (by rfl) ?_;simp only [ag,List.set]))
     refine bm ?_;go_wp2;go_roundw
     case rel=>exact bq.out
     case measure=>simp [intOf];omega
    ·have e1:((x.toNat:Int) != (y.toNat:Int))=true:=by
      simp only [bne_iff_ne,ne_eq];intro hc;exact gA (UInt8.toNat_inj.1 (by omega))
     have ct:Hid (decide (l1=l2)=false):=ae (by
      simp only [decide_eq_false_iff_not];intro hc;rw [hc,hy] at hx;exact gA (bB hx).symm)
     clear hc1 hc2 hx hy heq hg gA
     go_wp2_with fail
     refine bX (fun W=>Below w.heap.size w W) [(0,false),(1,false),(2,false),(3,false),(4,false),(5,false),(6,false),(7,false),(8,false)] (by kernel_rfl) (by kernel_rfl) (fun c a d v w h=>by cases d<;>exact h) (Hg.out.trans (Grow.drew _)) ?_;simp only [aP,nth]
     repeat (first|(refine aB (v:= ?_) (by rfl) ?_ ?_;rotate_left;(rintro W hW;go_simp;with_reducible rfl);simp only [ag,List.set])|(refine aC (by rfl) ?_;simp only [ag,List.set]))
     refine bm ?_;go_wp2;go_ret;rw [ct.out];exact ⟨rfl,Hg.out.trans (Grow.drew _)⟩
   ·obtain rfl:i=l1.length:=by omega
    have ct:Hid (decide (l1=l2)=true):=ae (by
     rw [List.take_length] at heq;rw [hlen,List.take_length] at heq;simp [heq])
    clear heq;go_wp2;go_ret;rw [ct.out];exact ⟨rfl,hg⟩
 ·have hne:((l1.length:Int) != (l2.length:Int))=true:=by simp;omega
  have ct:Hid (decide (l1=l2)=false):=ae (by
   simp only [decide_eq_false_iff_not];intro hc;exact hlen (by rw [hc]))
  clear hlen;go_enter Tryz.func150,Tryz.ntmps150;go_wp2;go_ret;rw [ct.out];exact ⟨rfl,Grow.refl _⟩
theorem uJ {w:World} {v:Value} {l:List UInt8} (h:Bv w v l) (kY:l.length≤140737488355328):
  Calls Tryz.prog 72 #[v] w fun e w'=>∃ v',e= .returned v'∧aG w.heap.size w' v' l∧Grow w w':=by
 have ai:Grow w (w.alloc (.cells #[] 5)):=Grow.alloc _ _;have hrow:aG w.heap.size (w.alloc (.cells #[] 5)) (.slice (some ⟨w.heap.size,0,none⟩) 0 0) []:= .inr ⟨w.heap.size,0,#[],rfl,ay _,aw _ _,ay _,ay _,bk _,rfl⟩;obtain ⟨v',w',h1,h2,h3,_⟩:=qh hrow (h.grow ai) (by simp) (by simpa using kY);have hgr:Grow w w':=below_grown ai (by simp) hrow h3;have dC:=ae h1;have fK:=ae h2;have dU:=ae hgr;obtain ⟨a,c,rfl,_,_,hn,_⟩:=h;have h0:= @Lib.run_eql_slice_nil Tryz.prog;cases a with
 |none=>
  have hc:=hn rfl;have:l= []:=by
   rename_i hlc _ _
   exact jb (by omega)
  subst this;subst hc;clear h1 h2 h3 hgr hrow ai;go_enter Tryz.func72,Tryz.ntmps72;go_wp2;go_ret;exact ⟨_,rfl,mi _ _ _,Grow.refl _⟩
 |some a=>
  clear h1 h2 h3 hgr hrow ai hn;go_enter Tryz.func72,Tryz.ntmps72
  go_wp2_with (at_builtin;refine fC rfl rfl rfl rfl dC.out ?_)
  go_ret;exact ⟨_,rfl,fK.out,dU.out⟩
theorem ZX:∀ (r:List UInt8) (i v:Nat),(kP i v r).2.1≤i+r.length
 | [],i,v=>by simp [kP]
 |c::r,i,v=>by
  unfold kP;split
  ·simp
  ·split
   ·split
    ·simp
    ·simp
   ·have:=ZX r (i+1) (v+(c.toNat-128)*128^i);simp at this ⊢;omega
theorem rA {w:World} {a:Option Addr} {c:Nat} {l:List UInt8} (h:Bv w (.slice a l.length c) l) {i j:Nat} (nW:i≤j) (hj:j≤l.length):Bv w (.slice (if c=i then a else a.map (fun x=>x.add i)) (j-i) (c-i)) ((l.drop i).take (j-i)):=by
 obtain ⟨a',c',he,hlc,hm,hn,h⟩:=h;cases he;have hlen:((l.drop i).take (j-i)).length=j-i:=by simp;omega
 refine ⟨_,c-i,by rw [hlen],by rw [hlen];omega,by omega,?_,?_⟩
 ·intro h0
  split at h0
  ·omega
  ·cases a with
   |none=>have:=hn rfl;omega
   |some x=>cases h0
 ·by_cases hz:(l.drop i).take (j-i)= []
  ·exact .inl hz
  ·right
   have hlt:i<j:=by
    rcases Nat.lt_or_ge i j with h1|h1
    ·exact h1
    ·exfalso;apply hz;rw [show j-i=0 by omega];simp
   rcases h with rfl|⟨b,o,rfl,hb,hc⟩
   ·simp at hj;omega
   ·rw [if_neg (by omega)]
    refine ⟨b,o+i,by show some (Addr.add ⟨b,o,none⟩ i)=_;rw [Addr.add_lit],hb,fun q k hk=> ?_⟩;rw [List.getElem?_take] at hk
    split at hk
    ·rw [List.getElem?_drop] at hk
     have:=hc (i+q) k hk;rw [Nat.add_assoc];exact this
    ·cases hk
def Bi (ba:Option Addr) (bc len:Nat) (at' fr tt:Nat) (A P:List UInt8) (i:Nat) (v:Value) (W:World):Prop:=
 match i with
 |0=>v= .slice ba len bc
 |1=>v= .int .i64 at'
 |2=>v= .int .i64 fr
 |3=>Bv W v A
 |4=>v= .slice ba len bc
 |5=>v= .int .i64 fr
 |6=>v= .int .i64 tt
 |7=>Bv W v P
 |8=>∃ b pv,v= .slice (some ⟨b,0,none⟩) 1 1∧W.heap[b]?=some (.cells #[pv] 49 (0,0))∧Bv W pv P
 |9=>v= .int .u32 ((dB aq P:Nat):Int)
 |10=>v= .int .u64 ((dB aq P:Nat):Int)
 |11=>Bv W v (cm 4 (dB aq P))
 |12=>v= .bool (decide (A=cm 4 (dB aq P)))
 |13=>v= .bool (!decide (A=cm 4 (dB aq P)))
 |_=>True
theorem Bi.keep {ba:Option Addr} {bc len at' fr tt:Nat} {A P:List UInt8}:∀ (j:Nat) (v:Value) (W W':World),Grow W W'→Bi ba bc len at' fr tt A P j v W→Bi ba bc len at' fr tt A P j v W':=by
 intro j v W W' hR h;unfold Bi at h
 split at h<;>first
  |exact h
  |exact Bv.grow h hR
  |(obtain ⟨b,pv,hv,hc,hp⟩:=h;exact ⟨b,pv,hv,hR.heap hc,hp.grow hR⟩)
  |(unfold Bi;split<;>first|trivial|(exfalso;simp_all))
theorem ZY {w:World} {bv:Value} {l:List UInt8} (h:Bv w bv l) (hl:l.length≤1000000000000):
  Calls Tryz.prog 152 #[bv] w fun e w'=>e= .returned (.tuple #[.int .i64 ((gC aq l).1:Nat),.int .i64 ((gC aq l).2.1:Nat),.int .i64 ((gC aq l).2.2:Nat)])∧Grow w w':=by
 have eR:=GW h;obtain ⟨ba,bc,rfl⟩:=h.slice;have H:=ae h;have gF:=ae eR;clear h eR;go_enter Tryz.func152,Tryz.ntmps152
 go_wp2_with fail
 (with_reducible refine gF.out.mono ?_);rintro e w1 ⟨rfl,bS⟩;have hw2:=bS.symm;subst hw2;clear bS gF;have mS:Hid (gC aq l=_):=ae (by unfold gC;rfl);generalize hr:ed l=r at*;have hat:=ZX l 0 0;rw [show kP 0 0 l=r from hr] at hat;obtain ⟨n,at',e⟩:=r;dsimp only at mS hat ⊢;clear hr;by_cases h1:e≠0
 ·rw [if_pos h1] at mS
  have e1:((e:Int) != 0)=true:=by simp;omega
  have e2:e≠0:=h1;clear h1;go_wp2;go_ret3;rw [mS.out];exact ⟨rfl,Grow.refl _⟩
 rw [if_neg h1] at mS;have e1:((e:Int) != 0)=false:=by simp;omega
 obtain rfl:e=0:=by omega
 clear h1;by_cases h2:67108864<n
 ·rw [if_pos h2] at mS
  have e2:decide ((67108864:Int)<(n:Int))=true:=by simp;omega
  go_wp2;go_ret3;rw [mS.out];exact ⟨rfl,Grow.refl _⟩
 rw [if_neg h2] at mS;have e2:decide ((67108864:Int)<(n:Int))=false:=by simp;omega
 by_cases h3:l.length<at'+(n+4)
 ·rw [if_pos h3] at mS
  have e3:decide ((l.length:Int)-(at':Int)<(n:Int)+4)=true:=by simp;omega
  go_wp2;go_ret3;rw [mS.out];exact ⟨rfl,Grow.refl _⟩
 rw [if_neg h3] at mS;have e3:decide ((l.length:Int)-(at':Int)<(n:Int)+4)=false:=by simp;omega
 have hbc:l.length≤bc:=by obtain ⟨_,_,he,hlc,_⟩:=H.out;cases he;exact hlc
 generalize ZZ:(l.drop (at'+4)).take n=P at*;generalize hAd:(l.drop at').take 4=A at*;have HP:=ae ZZ;have HA:=ae hAd;clear ZZ hAd
 go_upto_region 10 with fail
 obtain ⟨fr,eu⟩:∃ fr:Nat,fr=at'+4:=⟨_,rfl⟩
 obtain ⟨tt,rB⟩:∃ tt:Nat,tt=fr+n:=⟨_,rfl⟩
 rw [show ((at':Int)+4)=(fr:Int) by omega];rw [show ((fr:Int)+(n:Int))=(tt:Int) by omega];rw [←eu] at HP mS;rw [←rB] at mS;have b1:at'≤fr:=by omega
 have b2:fr≤tt:=by omega
 have b3:tt≤l.length:=by omega
 have oX:=ae eu;have Htt:=ae rB;clear eu rB h3
 go_cut [48] from 35 to 48 (fun c wx=>c= .bool (!decide (A=cm 4 (dB aq P)))∧Grow w wx)
 case first=>
  rename_i J K hJ hK
  refine uD (fun a0 ha0=> ?_);have F0:a0.tmps[0]?=some (.slice ba l.length bc):=by rw [ha0];rfl
  have F2:a0.tmps[2]?=some (.int .i64 fr):=by rw [ha0];rfl
  have F3:a0.tmps[3]?=some (.int .i64 tt):=by rw [ha0];rfl
  have F6:a0.tmps[6]?=some (.int .i64 at'):=by rw [ha0];rfl
  have hsz:a0.tmps.size=51:=by rw [ha0];rfl
  have tj:Hid (∀ a1 wx,qg [35,36,37,38,39,40,41,42,43,44,45,46,47,48] a0 a1→a1.tmps[48]?=some (.bool (!decide (A=cm 4 (dB aq P))))→Grow w wx→K a1 wx):=ae (fun a1 wx ha h48 r0=>by
   refine hK _ _ (hJ _ _ ?_);refine ⟨a1.tmps.getD 35 undef,a1.tmps.getD 36 undef,a1.tmps.getD 37 undef,a1.tmps.getD 38 undef,a1.tmps.getD 39 undef,a1.tmps.getD 40 undef,a1.tmps.getD 41 undef,a1.tmps.getD 42 undef,a1.tmps.getD 43 undef,a1.tmps.getD 44 undef,a1.tmps.getD 45 undef,a1.tmps.getD 46 undef,a1.tmps.getD 47 undef,a1.tmps.getD 48 undef,⟨by rw [fI,h48];rfl,r0⟩,ha.fill.trans ?_⟩;subst ha0;kernel_rfl)
  clear ha0 hK hJ e1 e2 e3;refine uG (Bi ba bc l.length at' fr tt A P) (fun _ _ W=>Below w.heap.size w W) Grow [35,36,37,38,39,40,41,42,43,44,45,46,47,48] (by kernel_rfl) (by kernel_rfl) (by rw [hsz];rfl) Bi.keep (Grow.drew _) ?_ (fun a1 W hf=> ?_);rotate_left
  ·obtain ⟨v48,aac,aoo⟩:=hf.slot 13 48 (by rfl) (by rfl)
   have aop:v48=_:=aoo;rw [aop] at aac;exact tj.out a1 W hf.alike aac hf.world
  clear tj;refine ⟨?_,?_,?_,?_,?_,?_,?_,?_,?_,?_,?_,?_,?_,?_,True.intro⟩
  ·intro listed a W hf ar ak
   have hs1:a.tmps.size=51:=hf.alike.size.trans hsz;have G0:a.tmps[0]'(by rw [hs1];decide)= .slice ba l.length bc:=ax ((hf.alike.same 0 (by decide)).trans F0) _;refine aX rfl (by rfl) (fun K' hK'=> ?_);go_simp;exact hK' _ _ ⟨_,rfl,(fun _ _=>rfl),Grow.refl _,hf.world⟩
  ·intro listed a W hf ar ak
   have hs1:a.tmps.size=51:=hf.alike.size.trans hsz;have G6:a.tmps[6]'(by rw [hs1];decide)= .int .i64 at':=ax ((hf.alike.same 6 (by decide)).trans F6) _;refine aX rfl (by rfl) (fun K' hK'=> ?_);go_simp;exact hK' _ _ ⟨_,rfl,(fun _ _=>rfl),Grow.refl _,hf.world⟩
  ·intro listed a W hf ar ak
   have hs1:a.tmps.size=51:=hf.alike.size.trans hsz;have G2:a.tmps[2]'(by rw [hs1];decide)= .int .i64 fr:=ax ((hf.alike.same 2 (by decide)).trans F2) _;refine aX rfl (by rfl) (fun K' hK'=> ?_);go_simp;exact hK' _ _ ⟨_,rfl,(fun _ _=>rfl),Grow.refl _,hf.world⟩
  ·intro listed a W hf ar ak
   have hs1:a.tmps.size=51:=hf.alike.size.trans hsz;have hB:Below w.heap.size w W:=hf.world;obtain ⟨v0,s0,q0⟩:=hf.slot 0 35 rfl (aJ ak 0 (by kernel_rfl));have kZ:v0=_:=q0;subst kZ;have G35:=ax s0 (by rw [hs1];decide);obtain ⟨v1,s1,q1⟩:=hf.slot 1 36 rfl (aJ ak 1 (by kernel_rfl));have kn:v1=_:=q1;subst kn;have G36:=ax s1 (by rw [hs1];decide);obtain ⟨v2,s2,q2⟩:=hf.slot 2 37 rfl (aJ ak 2 (by kernel_rfl));have od:v2=_:=q2;subst od;have G37:=ax s2 (by rw [hs1];decide);have c1:fr≤bc:=by omega
   have c2:at'≤fr:=by omega
   refine aX rfl (by rfl) (fun K' hK'=> ?_);go_simp;exact hK' _ _ ⟨_,rfl,(fun _ _=>by have:=rA (H.out.grow hB) (i:=at') (j:=fr) (by omega) (by omega);rw [show fr-at'=4 by (have:=oX.out;omega),HA.out] at this;rw [show fr-at'=4 by (have:=oX.out;omega)];exact this),Grow.refl _,hf.world⟩
  ·intro listed a W hf ar ak
   have hs1:a.tmps.size=51:=hf.alike.size.trans hsz;have G0:a.tmps[0]'(by rw [hs1];decide)= .slice ba l.length bc:=ax ((hf.alike.same 0 (by decide)).trans F0) _;refine aX rfl (by rfl) (fun K' hK'=> ?_);go_simp;exact hK' _ _ ⟨_,rfl,(fun _ _=>rfl),Grow.refl _,hf.world⟩
  ·intro listed a W hf ar ak
   have hs1:a.tmps.size=51:=hf.alike.size.trans hsz;have G2:a.tmps[2]'(by rw [hs1];decide)= .int .i64 fr:=ax ((hf.alike.same 2 (by decide)).trans F2) _;refine aX rfl (by rfl) (fun K' hK'=> ?_);go_simp;exact hK' _ _ ⟨_,rfl,(fun _ _=>rfl),Grow.refl _,hf.world⟩
  ·intro listed a W hf ar ak
   have hs1:a.tmps.size=51:=hf.alike.size.trans hsz;have G3:a.tmps[3]'(by rw [hs1];decide)= .int .i64 tt:=ax ((hf.alike.same 3 (by decide)).trans F3) _;refine aX rfl (by rfl) (fun K' hK'=> ?_);go_simp;exact hK' _ _ ⟨_,rfl,(fun _ _=>rfl),Grow.refl _,hf.world⟩
  ·intro listed a W hf ar ak
   have hs1:a.tmps.size=51:=hf.alike.size.trans hsz;have hB:Below w.heap.size w W:=hf.world;obtain ⟨v4,s4,q4⟩:=hf.slot 4 39 rfl (aJ ak 4 (by kernel_rfl));have qi:v4=_:=q4;subst qi;have G39:=ax s4 (by rw [hs1];decide);obtain ⟨v5,s5,q5⟩:=hf.slot 5 40 rfl (aJ ak 5 (by kernel_rfl));have tk:v5=_:=q5;subst tk;have G40:=ax s5 (by rw [hs1];decide);obtain ⟨v6,s6,q6⟩:=hf.slot 6 41 rfl (aJ ak 6 (by kernel_rfl));have Bj:v6=_:=q6;subst Bj;have G41:=ax s6 (by rw [hs1];decide);have c1:tt≤bc:=by omega
   have c2:fr≤tt:=by omega
   refine aX rfl (by rfl) (fun K' hK'=> ?_);go_simp;exact hK' _ _ ⟨_,rfl,(fun _ _=>by have:=rA (H.out.grow hB) (i:=fr) (j:=tt) (by omega) (by omega);rw [show tt-fr=n by (have:=Htt.out;omega),HP.out] at this;rw [show tt-fr=n by (have:=Htt.out;omega)];exact this),Grow.refl _,hf.world⟩
  ·intro listed a W hf ar ak
   have hs1:a.tmps.size=51:=hf.alike.size.trans hsz;have hB:Below w.heap.size w W:=hf.world;obtain ⟨v7,s7,q7⟩:=hf.slot 7 42 rfl (aJ ak 7 (by kernel_rfl));have G42:=ax s7 (by rw [hs1];decide);obtain ⟨xa,xc,rfl⟩:=Bv.slice q7;refine aX rfl (by rfl) (fun K' hK'=> ?_);go_simp;exact hK' _ (W.alloc (.cells #[.slice xa P.length xc] 49)) ⟨_,rfl,(fun _ _=>⟨W.heap.size,_,rfl,aw _ _,Bv.grow q7 (Grow.alloc _ _)⟩),(Grow.alloc _ _),hB.trans ((Grow.alloc _ _).mono hB.size)⟩
  ·intro listed a W hf ar ak
   have hs1:a.tmps.size=51:=hf.alike.size.trans hsz;have hB:Below w.heap.size w W:=hf.world;obtain ⟨v8,s8,q8⟩:=hf.slot 8 43 rfl (aJ ak 8 (by kernel_rfl));obtain ⟨b8,p8,q8,c8,d8⟩:=q8;have Bn:v8=_:=q8;subst Bn;have G43:=ax s8 (by rw [hs1];decide);refine jc rfl (by rfl) (by go_simp) (My c8 d8) ?_;rintro e w7 ⟨rfl,cF⟩;exact ⟨_,rfl,_,rfl,(fun _ _=>rfl),cF,hB.trans (cF.mono hB.size)⟩
  ·intro listed a W hf ar ak
   have hs1:a.tmps.size=51:=hf.alike.size.trans hsz;have hB:Below w.heap.size w W:=hf.world;obtain ⟨v9,s9,q9⟩:=hf.slot 9 44 rfl (aJ ak 9 (by kernel_rfl));have Bo:v9=_:=q9;subst Bo;have G44:=ax s9 (by rw [hs1];decide);have hwr:IntKind.u64.wrap ((dB aq P:Nat):Int)=((dB aq P:Nat):Int):=by have:=yH P;simp [IntKind.wrap,IntKind.bits,IntKind.signed];omega
   refine aX rfl (by rfl) (fun K' hK'=> ?_);go_simp;exact hK' _ _ ⟨_,rfl,(fun _ _=>rfl),Grow.refl _,hf.world⟩
  ·intro listed a W hf ar ak
   have hs1:a.tmps.size=51:=hf.alike.size.trans hsz;have hB:Below w.heap.size w W:=hf.world;obtain ⟨v10,tq,mU⟩:=hf.slot 10 45 rfl (aJ ak 10 (by kernel_rfl));have RT:v10=_:=mU;subst RT;have G45:=ax tq (by rw [hs1];decide);refine jc rfl (by rfl) (by go_simp) (ZR (B:=W.heap.size) (l:= []) (mi _ _ W) (ay _) (by simp) _ (yH P)) ?_;rintro e w7 ⟨v7,rfl,je,cF⟩;exact ⟨_,rfl,_,rfl,(fun _ _=>cy je),cF,hB.trans (cF.mono hB.size)⟩
  ·intro listed a W hf ar ak
   have hs1:a.tmps.size=51:=hf.alike.size.trans hsz;have hB:Below w.heap.size w W:=hf.world;obtain ⟨v3,s3,q3⟩:=hf.slot 3 38 rfl (aJ ak 3 (by kernel_rfl));have G38:=ax s3 (by rw [hs1];decide);obtain ⟨v11,yJ,tr⟩:=hf.slot 11 46 rfl (aJ ak 11 (by kernel_rfl));have G46:=ax yJ (by rw [hs1];decide);have q3b:Bv W v3 A:=q3;have aoy:Bv W v11 (cm 4 (dB aq P)):=tr;refine jc rfl (by rfl) (by go_simp) (RQ q3b aoy) ?_;rintro e w7 ⟨rfl,cF⟩;exact ⟨_,rfl,_,rfl,(fun _ _=>rfl),cF,hB.trans (cF.mono hB.size)⟩
  ·intro listed a W hf ar ak
   have hs1:a.tmps.size=51:=hf.alike.size.trans hsz;have hB:Below w.heap.size w W:=hf.world;obtain ⟨v12,s12,wF⟩:=hf.slot 12 47 rfl (aJ ak 12 (by kernel_rfl));have GY:v12=_:=wF;subst GY;have G47:=ax s12 (by rw [hs1];decide);refine aX rfl (by rfl) (fun K' hK'=> ?_);go_simp;exact hK' _ _ ⟨_,rfl,(fun _ _=>rfl),Grow.refl _,hf.world⟩
 case rest=>
  obtain ⟨rfl,hg⟩:=hcut;by_cases h4:A=cm 4 (dB aq P)
  ·rw [if_neg (by simpa using h4)] at mS
   have e4:decide (A=cm 4 (dB aq P))=true:=by simpa using h4
   rw [e4];clear h4 e4;go_wp2;go_ret3;rw [mS.out];exact ⟨rfl,hg⟩
  ·rw [if_pos h4] at mS
   have e4:decide (A=cm 4 (dB aq P))=false:=by simpa using h4
   rw [e4];clear h4 e4;go_wp2;go_ret3;rw [mS.out];exact ⟨rfl,hg⟩
end Go.Proofs.YtoolkdapflaeeaaGreatDoor
