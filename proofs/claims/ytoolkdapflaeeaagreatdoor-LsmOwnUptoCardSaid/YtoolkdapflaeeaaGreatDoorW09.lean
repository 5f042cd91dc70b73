/- Helpers. -/
import Derived.Test.YtoolkdapflaeeaaGreatDoorW08
import Derived.Test.YtoolkdapflaeeaaGreatDoorW05
import Derived.Test.YtoolkdapflaeeaaGreatDoorW02
import Derived.Test.YtoolkdapflaeeaaGreatDoorW04
import Derived.Test.YtoolkdapflaeeaaGreatDoorW06
import Derived.BigRegion
import Derived.Test.YtoolkdapflaeeaaGreatDoorW00
set_option maxRecDepth 100000
set_option maxHeartbeats 16000000
set_option linter.unusedSimpArgs false
open Go
variable{B K b d g ha aX i id j k lb m q s tb:Nat}{F F' G G' N:Nat→Prop}{L l val x:List UInt8}{W W' w w' w2 w3 wr:World}{bv dv pv v v0:Value}{cs:Array Value}{ds:List Int}{f:Nat × Nat}
namespace Go.Proofs.YtoolkdapflaeeaaGreatDoor
open Go.RowKit Go.Gl Go.aF Mn
theorem levels(x:En)(ns:List Nd)(tb ha:Nat):∃bf:Nat->Nd,(∀k,k<12->cA k (bP tb ha::cj x ns)=some (bf k))/\Jm x tb ha ns=#[au (bf 0).blk,au (bf 1).blk,au (bf 2).blk,au (bf 3).blk,au (bf 4).blk,au (bf 5).blk,au (bf 6).blk,au (bf 7).blk,au (bf 8).blk,au (bf 9).blk,au (bf 10).blk,au (bf 11).blk]:=by
 refine⟨λk=>(cA k (bP tb ha::cj x ns)).getD (bP tb ha),λk hk=>?_,?_⟩
 .obtain⟨m,hm⟩:=YJ hk tb ha (cj x ns);simp only[hm,Option.getD_some]
 .have h:∀k,k<12->ij (cA k (bP tb ha::cj x ns))=au ((cA k (bP tb ha::cj x ns)).getD (bP tb ha)).blk:=λk hk=>by obtain⟨m,hm⟩:=YJ hk tb ha (cj x ns);rw[hm];rfl
  have e:Jm x tb ha ns=#[ij (cA 0 (bP tb ha::cj x ns)),ij (cA 1 (bP tb ha::cj x ns)),ij (cA 2 (bP tb ha::cj x ns)),ij (cA 3 (bP tb ha::cj x ns)),ij (cA 4 (bP tb ha::cj x ns)),ij (cA 5 (bP tb ha::cj x ns)),ij (cA 6 (bP tb ha::cj x ns)),ij (cA 7 (bP tb ha::cj x ns)),ij (cA 8 (bP tb ha::cj x ns)),ij (cA 9 (bP tb ha::cj x ns)),ij (cA 10 (bP tb ha::cj x ns)),ij (cA 11 (bP tb ha::cj x ns))]:=rfl;rw[e];simp only[h 0 (by decide),h 1 (by decide),h 2 (by decide),h 3 (by decide),h 4 (by decide),h 5 (by decide),h 6 (by decide),h 7 (by decide),h 8 (by decide),h 9 (by decide),h 10 (by decide),h 11 (by decide)]
theorem last_zero:∀{L:List Nd},L≠[]->(∀n∈L,1<=n.h)->∃pre m,L=pre++[m]/\cA 0 L=some m:=λ{L} a c=>by have b:L=L.dropLast++[L.getLast a]:=(List.dropLast_concat_getLast a).symm;refine⟨L.dropLast,L.getLast a,b,?_⟩;have d:=c _ (List.getLast_mem a);have c:=YF (k:=0) (n:=L.getLast a) (r:=[]) (by omega) rfl L.dropLast;rwa[<-b]at c
structure Pb(w:World)(x:Ev)(bf:Nat->Nd)(g:Nat)(W:World):Prop where
 grow:Grow w W
 hg:w.heap.size+2<=g
 box:W.heap[w.heap.size]?=some (.cells (cd x) 60 (0,0))
 res:W.heap[w.heap.size+1]?=some (.cells #[.string ⟨#[]⟩,.int .u64 0,.bool false,.slice none 0 0] 60 (0,0))
 arr:W.heap[g]?=some (.cells #[au (bf 0).blk,au (bf 1).blk,au (bf 2).blk,au (bf 3).blk,au (bf 4).blk,au (bf 5).blk,au (bf 6).blk,au (bf 7).blk,au (bf 8).blk,au (bf 9).blk,au (bf 10).blk,au (bf 11).blk] 288 (0,0))
theorem Pb.step{x:Ev}{c:Nat->Nd}(a:Pb w x c g W)(b:Grow W W'):Pb w x c g W':=⟨a.grow.trans b,a.hg,b.heap a.box,b.heap a.res,b.heap a.arr⟩
theorem aBe{P:Program}{c:Code}{Q:Exit->Act->World->Prop}{a:Act}(R:World->Prop)(b:R w)(d:∀W,R W->c.wp P Q a W):c.wp P Q a w:=d w b
theorem aBf{x:Ev}(a:Nat->Nd)(e:Grow w w2)(f:w2.heap[w.heap.size]?=some (.cells (cd x) 60 (0,0)))(d:w2.heap[w.heap.size+1]?=some (.cells #[.string ⟨#[]⟩,.int .u64 0,.bool false,.slice none 0 0] 60 (0,0)))(b:Grow w2 w3):
  Pb w x a w3.heap.size (w3.alloc (.cells #[au (a 0).blk,au (a 1).blk,au (a 2).blk,au (a 3).blk,au (a 4).blk,au (a 5).blk,au (a 6).blk,au (a 7).blk,au (a 8).blk,au (a 9).blk,au (a 10).blk,au (a 11).blk] 288)):=by
 have c:=ar w3 (.cells #[au (a 0).blk,au (a 1).blk,au (a 2).blk,au (a 3).blk,au (a 4).blk,au (a 5).blk,au (a 6).blk,au (a 7).blk,au (a 8).blk,au (a 9).blk,au (a 10).blk,au (a 11).blk] 288);have a:=b.size;have a:=af d;exact⟨e.trans (b.trans c),by omega,c.heap (b.heap f),c.heap (b.heap d),ax w3 _⟩
section
abbrev jS(w:World)(b:Nat)(v0 v1 v2 v3:Value):World:=(((w.setCell ⟨b,0,none⟩ v0).setCell ⟨b,1,none⟩ v1).setCell ⟨b,2,none⟩ v2).setCell ⟨b,3,none⟩ v3
section
variable{w:World}{b:Nat}{a0 a1 a2 a3 a4 v0 v1 v2 v3:Value}{t:TypeId}{f:Nat×Nat}
theorem CA(a:w.heap[b]?=some (.cells #[a0,a1,a2,a3] t f)):(jS w b v0 v1 v2 v3).heap[b]?=some (.cells #[v0,v1,v2,v3] t f):=by have b:=Go.Gl.aK a 0 v0;have a:=Go.Gl.aK b 1 v1;have b:=Go.Gl.aK a 2 v2;have a:=Go.Gl.aK b 3 v3;simpa only[nZ,List.set_cons_zero,lU]using a
theorem aBg(a:w.heap[b]?=some (.cells #[a0,a1,a2,a3,a4] t f)):(jS w b v0 v1 v2 v3).heap[b]?=some (.cells #[v0,v1,v2,v3,a4] t f):=by have b:=Go.Gl.aK a 0 v0;have a:=Go.Gl.aK b 1 v1;have b:=Go.Gl.aK a 2 v2;have a:=Go.Gl.aK b 3 v3;simpa only[nZ,List.set_cons_zero,lU]using a
theorem tA(a:k≠b)(v0 v1 v2 v3:Value):(jS w b v0 v1 v2 v3).heap[k]?=w.heap[k]?:=
 (aN _ _ _ _ a).trans ((aN _ _ _ _ a).trans ((aN _ _ _ _ a).trans (aN _ _ _ _ a)))
theorem aBh(a:F b)(v0 v1 v2 v3:Value):Sep F w (jS w b v0 v1 v2 v3) F:=
 ⟨rfl,rfl,rfl,by simp,λk _ b=>tA (λc=>b (by rw[c];exact a)) _ _ _ _,λk a=>.inl a⟩
end
theorem Sep.mono{w:World}(a:Sep F w w' F')(d:∀b,F b->G b):Sep G w w' F':=
 ⟨a.os,a.tape,a.output,a.size,λb c e=>a.out b c (λf=>e (d b f)),λb c=>(a.foot b c).imp (d b) id⟩
theorem Sep.tgt{w:World}(a:Sep F w w' F')(c:∀b,G' b->F b\/w.heap.size<=b):Sep F w w' G':=
 ⟨a.os,a.tape,a.output,a.size,a.out,c⟩
theorem Sep.Af{w:World}(a:Sep F w wr F'){b:Nat}(c:w.heap.size<=b)(j:Nat)(v:Value):Sep F w (wr.setCell ⟨b,j,none⟩ v) F':=
 ⟨a.os,a.tape,a.output,by simpa using a.size,λk c d=>(aN _ _ _ _ (λe=>by have f:k=b:=e;omega)).trans (a.out k c d),a.foot⟩
theorem Sep.aji{w:World}(c:Sep F w wr F'){b:Nat}(a:w.heap.size<=b)(v0 v1 v2 v3:Value):Sep F w (jS wr b v0 v1 v2 v3) F':=(((c.Af a 0 v0).Af a 1 v1).Af a 2 v2).Af a 3 v3
theorem Sep.aBi{w:World}(a:Sep F w wr F'){b:Nat}(c:F' b)(v0 v1 v2 v3:Value):Sep F w (jS wr b v0 v1 v2 v3) F':=a.trans (aBh c v0 v1 v2 v3)
theorem Sep.drew{w:World}(a:Sep F w wr F'):Sep F w wr.drew F':=a.trans (Sep.bO (ay wr))
theorem heap_drew{b:Nat}{o:Option Obj}(a:W.heap[b]?=o):W.drew.heap[b]?=o:=a
structure qT(N:Nat->Prop)(w:World)(tb ha:Nat)(ns:List Nd)(dv:Value)(x:Ev)(bR:List Nd)(eT:Nat)(w':World):Prop where
 list:bR.map (λn=>n.x.e)=kR x.e (ns.map (λn=>n.x.e))
 self:w'.heap[tb]?=some (.cells (SC ha eT bR.length dv (costs (ns.map (λn=>n.x.e)))) 181 (0,0))
 aX:eT<=12
 skip:kU N w' tb ha bR
 sep:Sep (FM tb ha ns) w w' (FM tb ha bR)
structure Ps(w8:World)(L hi:List Nd)(nw:Nd)(K:Nat)(W:World):Prop where
 ju:fD W (rX K nw hi) L
 nt:W.heap[nw.arr]?=some (.cells ((List.range nw.h).map (λk=>if k<K then cz k hi else .pointer none)).toArray 287 (0,0))
 sep:Sep (λb=>b=nw.arr\/∃n∈L,b=n.arr) w8 W (λb=>b=nw.arr\/∃n∈L,b=n.arr)
theorem ajj(k:Nat):∀l:List Nd,∃q,cz k l=.pointer q
 | []=>⟨none,rfl⟩
 |n::r=>by
  unfold cz;split
  .exact⟨_,rfl⟩
  .exact ajj k r
theorem Ps.drew{w8:World}{L hi:List Nd}{nw:Nd}(a:Ps w8 L hi nw K W):Ps w8 L hi nw K W.drew:=⟨a.ju.keep (λ_ _=>rfl),a.nt,a.sep.trans (Sep.bO (ay W))⟩
theorem Ps.step{w8:World}{L hi:List Nd}{nw m:Nd}(a:Ps w8 L hi nw K W)(d:K<nw.h)(e:(L.map Nd.arr).Nodup)(f:∀n∈L,n.arr≠nw.arr)(c:cA K L=some m):
  W.cell? ⟨m.arr,K,none⟩=some (cz K hi)/\W.cell? ⟨nw.arr,K,none⟩=some (.pointer none)/\Ps w8 L hi nw (K+1) ((W.setCell ⟨nw.arr,K,none⟩ (cz K hi)).setCell ⟨m.arr,K,none⟩ (au nw.blk)):=by
 obtain⟨h,g⟩:=YG d e a.ju;have g:=(Sz c).1;refine⟨(h m c).1,by rw[SA a.nt d];simp,?_,?_,?_⟩
 .have h:fD (W.setCell ⟨nw.arr,K,none⟩ (cz K hi)) (rX K nw hi) L:=a.ju.keep (λn i=>aN _ _ _ _ (f n i));exact((YG d e h).1 m c).2
 .rw[aN _ _ _ _ (show nw.arr≠m.arr from λc=>f m g c.symm),Go.Gl.aK a.nt]
  congr 2;apply Array.ext_getElem?;intro k;rw[Array.getElem?_setIfInBounds];by_cases e:K=k
  .subst e;simp[d]
  .rw[if_neg e]
   by_cases e:k<nw.h
   .simp only[List.getElem?_toArray,gQ,List.getElem?_range e,Option.map_some]
    rcases Nat.lt_trichotomy k K with d|d|d
    .rw[if_pos d,if_pos (by omega)]
    .omega
    .rw[if_neg (by omega),if_neg (by omega)]
   .simp[e]
 .refine⟨a.sep.os,a.sep.tape,a.sep.output,by simpa using a.sep.size,λb d e=>?_,λb d=>.inl d⟩;rw[aN _ _ _ _ (show b≠m.arr from λc=>e (.inr ⟨m,g,c⟩)),aN _ _ _ _ (show b≠nw.arr from λc=>e (.inl c))];exact a.sep.out b d e
theorem Tryz.aBj:(Tryz.prog.info? 287).map (λi=>(i.zero,i.size,i.bytes))=some (some (.pointer none),1,8):=by kernel_rfl
theorem ajk{k:Nat}(a:k<=12)(w:World):(Instr.makeSlice 174 (.int .i64 (k:Int)) (.int .i64 (k:Int))).run Tryz.prog w=.ok (.slice (some ⟨w.heap.size,0,none⟩) k k) (w.alloc (.cells ((List.range k).map (λ_=>(.pointer none:Value))).toArray 287)):=by
 obtain⟨i,c,d,a,e⟩:=info_parts Tryz.aBj;have b:=run_makeSlice (w:=w) 174 287 i (.pointer none) Tryz.underlying174 c d .i64 .i64 (k:Int) (k:Int) (by omega) (Int.le_refl _) (by rw[a];simp;omega) (by rw[e];omega) (by omega);have c:madeCells (Value.pointer none).cells ((k:Int).toNat*i.size)=((List.range k).map (λ_=>(.pointer none:Value))).toArray:=by
  rw[a];apply Array.ext
  .simp[madeCells]
  .intro j a a;simp[madeCells,Value.cells,Nat.mod_one]
 rw[c]at b;exact b
end
theorem wK{n:Nat}(a:n<18446744073709551616):IntKind.u64.wrap (n:Int)=(n:Int):=by simp[IntKind.wrap,IntKind.bits,IntKind.signed];omega
def oD(k:List UInt8)(m j:Nat):Nat:=(eQ aq k+j*eQ aq (k++[1]))%m
theorem ajl{x:UInt8}(a:w.heap[b]?=some (.cells #[.int .u8 x.toNat] 5 f)):Bv w (.slice (some ⟨b,0,none⟩) 1 1) [x]:=by
 refine⟨_,_,rfl,aw _,by decide,(λa=>by cases a),.inr ⟨b,0,rfl,af a,λj k b=>?_⟩⟩;cases j with
 |zero=>cases b;simp[World.cell?,a]
 |succ j=>simp at b
theorem aBk{a:Value}{y:List UInt8}(c:w.heap[b]?=some (.cells #[pv,a] 49 (0,0)))(d:Bv w pv x)(e:Bv w a y):Rv w (.slice (some ⟨b,0,none⟩) 2 2) [x,y]:=by
 refine⟨_,_,rfl,.inr ⟨b,0,rfl,af c,λj b b=>?_⟩⟩
 match j with
 |0=>cases b;exact⟨pv,by simp[World.cell?,c],d⟩
 |1=>cases b;exact⟨a,by simp[World.cell?,c],e⟩
 |j+2=>simp at b
theorem SF{a b j:Nat}(ha:a<4294967296)(c:b<4294967296)(c:j<4):IntKind.u64.wrap ((j:Int)*(b:Int))=((j*b:Nat):Int)/\IntKind.u64.wrap ((a:Int)+((j*b:Nat):Int))=((a+j*b:Nat):Int):=by
 have a:j*b<=3*b:=Nat.mul_le_mul_right _ (by omega);constructor
 .rw[<-Int.natCast_mul];simp[IntKind.wrap,IntKind.bits,IntKind.signed,-Int.natCast_mul];omega
 .rw[<-Int.natCast_add];generalize j*b=a at*;simp[IntKind.wrap,IntKind.bits,IntKind.signed];omega
theorem aBl(key:ByteArray)(a:key.size<=100000000){m:Nat}(a:0<m)(a:m<18446744073709551616)(w:World):
  Calls Tryz.prog 200 #[.string key,.int .u64 m] w λe w'=>e=.returned (.agg #[.int .u64 (oD key.data.toList m 0:Nat),.int .u64 (oD key.data.toList m 1:Nat),.int .u64 (oD key.data.toList m 2:Nat),.int .u64 (oD key.data.toList m 3:Nat)])/\Grow w w':=by
 have a:=ax w (.cells #[.int .u64 0,.int .u64 0,.int .u64 0,.int .u64 0] 310);have c:=ar w (.cells #[.int .u64 0,.int .u64 0,.int .u64 0,.int .u64 0] 310);have d:key.data.toList.length=key.size:=by rw[ia];rfl
 have i:=ae (ag a c);clear a c;go_enter Tryz.func200,Tryz.ntmps200
 go_upto_region 1 with fail
 generalize w.alloc (.cells #[.int .u64 0,.int .u64 0,.int .u64 0,.int .u64 0] 310)=a at*;obtain⟨d,f,y,g,h⟩:=BG key (by omega) a;have c:=ar f (.cells #[.slice (some ⟨a.heap.size,0,none⟩) key.size d] 49);have k:=ax f (.cells #[.slice (some ⟨a.heap.size,0,none⟩) key.size d] 49);have a:=Wd (Wc k (g.grow c)) (by simp);have l:=ae a;have n:=ae (h.trans c);clear k g h c a
 go_wp2_with fail
 (with_reducible refine l.out.mono ?_);rintro e w2 ⟨rfl,h⟩;rw[show([key.data.toList]:List (List UInt8)).flatten=key.data.toList by simp];obtain⟨k,w3,z,o,q⟩:=BG key (by omega) w2;have a:=ar w3 (.cells #[.int .u8 1] 5);have r:=ax w3 (.cells #[.int .u8 1] 5);have d:=(ajl (x:=1) (by simpa using r):Bv (w3.alloc (.cells #[.int .u8 1] 5)) (.slice (some ⟨w3.heap.size,0,none⟩) 1 1) [1])
 have f:=o.grow a;obtain⟨s,g⟩:∃W,w3.alloc (.cells #[.int .u8 1] 5)=W:=⟨_,rfl⟩
 rw[g]at a d f;have c:=ar s (.cells #[.slice (some ⟨w2.heap.size,0,none⟩) key.size k,.slice (some ⟨w3.heap.size,0,none⟩) 1 1] 49);have t:=ax s (.cells #[.slice (some ⟨w2.heap.size,0,none⟩) key.size k,.slice (some ⟨w3.heap.size,0,none⟩) 1 1] 49);have k:=Wd (aBk t (f.grow c) (d.grow c)) (by simp);have s:=ae k;have u:=ae (n.out.trans (h.trans (q.trans (a.trans c))));have x:=g;clear t o h q a c k r d f
 go_wp2_with fail
 (with_reducible refine s.out.mono ?_);rintro e d ⟨rfl,a⟩;rw[show([key.data.toList,[1]]:List (List UInt8)).flatten=key.data.toList++[1]by simp];have h:=u.out.trans a;have k:=i.out.2.trans h;have c:=h.heap i.out.1;have lb:=af c;clear x y z l s n u a g;have e:=Bq key.data.toList;have f:=Bq (key.data.toList++[1]);have g:=ae (show∀j,oD key.data.toList m j=(eQ aq key.data.toList+j*eQ aq (key.data.toList++[1]))%m from λ_=>rfl);generalize eQ aq key.data.toList=a at*;generalize eQ aq (key.data.toList++[1])=b at*;have i:IntKind.u64.wrap (a:Int)=(a:Int):=wK (by omega);have i:IntKind.u64.wrap (b:Int)=(b:Int):=wK (by omega);obtain⟨i,i⟩:=SF (j:=0) e f (by decide);obtain⟨i,i⟩:=SF (j:=1) e f (by decide);obtain⟨i,i⟩:=SF (j:=2) e f (by decide);obtain⟨i,i⟩:=SF (j:=3) e f (by decide);have e:(m:Int)≠0:=by omega
 have e:=ae k;have f:d.cell? ⟨w.heap.size,0,none⟩=some (.int .u64 0):=by simp[World.cell?,c]
 have f:d.cell? ⟨w.heap.size,1,none⟩=some (.int .u64 0):=by simp[World.cell?,c]
 have f:d.cell? ⟨w.heap.size,2,none⟩=some (.int .u64 0):=by simp[World.cell?,c]
 have f:d.cell? ⟨w.heap.size,3,none⟩=some (.int .u64 0):=by simp[World.cell?,c]
 have d:=bG c;have d:=ae c;clear k h c
 go_wp2_with fail
 refine wp_loop_rounds 5 ?_;rw[rounds_succ];go_wp2;rw[rounds_succ];go_wp2;rw[rounds_succ];go_wp2;rw[rounds_succ];go_wp2;rw[rounds_succ]
 go_wp2_with fail
 have c:=CA (v0:=.int .u64 ((a:Int)%m)) (v1:=.int .u64 (((a:Int)+b)%m)) (v2:=.int .u64 (((a:Int)+2*b)%m)) (v3:=.int .u64 (((a:Int)+3*b)%m)) d.out;have d:=CA (v0:=.int .u64 ((a:Int)%m)) (v1:=.int .u64 (((a:Int)+b)%m)) (v2:=.int .u64 (((a:Int)+2*b)%m)) (v3:=.int .u64 (((a:Int)+3*b)%m)) c;obtain⟨c,f,h,i⟩:=cX d;refine bodyPost_ret (v:=.agg #[.int .u64 ((a:Int)%m),.int .u64 (((a:Int)+b)%m),.int .u64 (((a:Int)+2*b)%m),.int .u64 (((a:Int)+3*b)%m)]) (by simp[results,Tryz.results200,go_sem,c,f,h,i]) rfl ⟨?_,?_⟩
 .rw[g.out 0,g.out 1,g.out 2,g.out 3];simp
 .have a:w.heap.size<=w.heap.size:=aw _;exact(((((((e.out.setCell (p:=⟨w.heap.size,0,none⟩) a _).setCell (p:=⟨w.heap.size,1,none⟩) a _).setCell (p:=⟨w.heap.size,2,none⟩) a _).setCell (p:=⟨w.heap.size,3,none⟩) a _).setCell (p:=⟨w.heap.size,0,none⟩) a _).setCell (p:=⟨w.heap.size,1,none⟩) a _).setCell (p:=⟨w.heap.size,2,none⟩) a _).setCell (p:=⟨w.heap.size,3,none⟩) a _
structure Bk where
 first:ByteArray
 at':Nat
 size:Nat
def CB(x:Bk):List Value:=[.string x.first,.int .i64 x.at',.int .i64 x.size]
abbrev Jr(x:Bk):Array Value:=#[.string x.first,.int .i64 x.at',.int .i64 x.size]
theorem aBn(x:Bk):(CB x).length=3:=rfl
def iw(B:Nat)(w:World)(v:Value)(xs:List Bk):Prop:=w.ownsRow B 257 3 v xs.length (xs.flatMap CB)
theorem iw.grow{xs:List Bk}(a:iw B w v xs)(b:Grow w w'):iw B w' v xs:=fB a b
theorem ajn(B:Nat)(w:World):iw B w (.slice none 0 0) []:=jh _ _ _ _
theorem iw.slice{xs:List Bk}(b:iw B w v xs):∃a c,v=.slice a xs.length c:=by
 rcases b.2 with⟨a,b⟩|⟨g,c,c,a,_⟩
 .exact⟨none,0,by rw[a,b]⟩
 .exact⟨_,_,a⟩
theorem iw.lt{xs:List Bk}(c:iw B w v xs)(a:v.ownBlock=some g):B<=g/\g<w.heap.size/\∃b,w.heap[g]?=some (.cells b 257 (0,0)):=by
 rcases c.2 with⟨c,d⟩|⟨d,d,b,c,e,d,_⟩
 .rw[c]at a;cases a
 .rw[c]at a;cases a;exact⟨e,af d,b,d⟩
theorem iw.at{xs:List Bk}(e:iw B w v xs){x:Bk}(a:xs[i]?=some x):∃g b,v=.slice (some ⟨g,0,none⟩) xs.length b/\g<w.heap.size/\
  w.cell? ⟨g,i*3,none⟩=some (.string x.first)/\w.cell? ⟨g,i*3+1,none⟩=some (.int .i64 x.at')/\w.cell? ⟨g,i*3+2,none⟩=some (.int .i64 x.size):=by
 rcases id e.2 with⟨c,d⟩|⟨g,b,f,c,f,f,h,h,h⟩
 .rw[je d]at a;simp at a
 .have d:=xS aBn (c ▸ e)
  refine⟨g,b,c,af f,?_,?_,?_⟩
  .have:=d i x a 0 _ rfl;simpa using this
  .have:=d i x a 1 _ rfl;simpa using this
  .have:=d i x a 2 _ rfl;simpa using this
theorem Tryz.aBo:(Tryz.prog.info? 257).map (λi=>(i.zero,i.size,i.bytes))=some (some (.agg #[.string ByteArray.empty,.int .i64 0,.int .i64 0]),3,32):=by kernel_rfl
theorem ajo{xs:List Bk}(c:iw B w v xs)(x:Bk)(a:B<=w.heap.size)(a:xs.length<=1000000000):
  ∃g a w',(Builtin.append_ #[252,252] 252 #[v,.slice (some ⟨w.heap.size,0,none⟩) 1 1]).run Tryz.prog (w.alloc (.cells (Jr x) 257))=.ok (.slice (some ⟨g,0,none⟩) (xs.length+1) a) w'/\
   iw B w' (.slice (some ⟨g,0,none⟩) (xs.length+1) a) (xs++[x])/\w.grownBy w' v.ownBlock:=by
 obtain⟨e,f,h,i,l⟩:=info_parts Tryz.aBo;have m:(w.alloc (.cells (Jr x) 257)).heap[w.heap.size]?=some (.cells (Jr x) 257 (0,0)):=ax _ _;obtain⟨g,a,w',n,o,p,_,_⟩:=run_append_lies (P:=Tryz.prog) (w.alloc (.cells (Jr x) 257)) 252 252 B 257 e _ 3 32 Tryz.underlying252 f h i l rfl (by decide) _ _ _ (fB c (ar _ _))
  ⟨w.heap.size,0,none⟩ 1 1 (CB x) rfl (λj e c=>World.news_of_block m j e (by simpa[CB]using c)) (λe c=>by simp only[CB,bI,List.not_mem_nil,or_false]at c;rcases c with rfl|rfl|rfl<;>rfl) (by decide) (by unfold maxLen;omega) (by omega) (by simp;omega) _ rfl
 refine⟨g,a,w',n,?_,?_⟩
 .have a:(xs++[x]).flatMap CB=xs.flatMap CB++CB x:=by simp
  unfold iw;rw[aM,a];exact o
 .obtain⟨a,b,c,d,e⟩:=p;exact⟨a,b,c,aJ (by simp) d,λk a b=>by rw[e k (by simp;omega) b];exact heap_alloc_old _ _ a⟩
def pw(x:Bk):List UInt8:=bp x.first.data.toList++(aG x.at'++aG x.size)
def nk:Nat->List (List En)->List Bk
 |_,[]=>[]
 |k,g::gs=>⟨mD g,k,(gG g).length⟩::nk (k+(gG g).length) gs
theorem Fb:∀(a:List (List En)) (k:Nat),(nk k a).flatMap pw=kh k a
 | [],_=>rfl
 |g::a,k=>by simp only[nk,List.flatMap_cons,Fb a,pw,kh,jL]
theorem YP(g:List En):∀(a:List (List En)) (k:Nat),nk k (a++[g])=nk k a++[⟨mD g,k+(bZ a).length,(gG g).length⟩]
 | [],k=>by simp[nk,bZ]
 |h::a,k=>by
  rw[gP,nk,nk,YP g a];have:(bZ (h::a)).length=(gG h).length+(bZ a).length:=by simp[bZ]
  rw[this,Nat.add_assoc];rfl
theorem tB:∀(a:List (List En)) (k:Nat),(nk k a).length=a.length
 | [],_=>rfl
 |g::a,k=>by simp[nk,tB a]
def IxJ(w:World)(l:List Bk)(bv a:Value)(wr:World):Prop:=
 ∃i:Nat,a=.int .i64 i/\i<=l.length/\aI w.heap.size wr bv ((l.take i).flatMap pw)/\Grow w wr
structure ajq(x:Bk):Prop where
 key:x.first.size<=100000000
 at':x.at'<1000000000000
 size:x.size<1000000000000
theorem aBp(x:Bk):(pw x).length<=x.first.size+30:=by
 have a:=ox x.first.data.toList;have a:=cF x.at';have a:=cF x.size;have a:x.first.data.toList.length=x.first.size:=by rw[ia];rfl
 simp only[pw,aM];omega
theorem ajr{xs:List Bk}(h:iw B w v xs)(hf:∀x∈xs,ajq x)(hlen:xs.length<=1000000)(og:(xs.flatMap pw).length<=100000000000):
  Calls Tryz.prog 151 #[v] w λe w'=>∃v',e=.returned v'/\aI w.heap.size w' v' (xs.flatMap pw)/\Grow w w':=by
 have H:=ae h;have HF:=ae hf;obtain⟨va,vc,rfl⟩:=h.slice;clear h hf;go_enter Tryz.func151,Tryz.ntmps151
 go_wp2_with fail
 go_loopw [3,8] (λbv iv wr=>IxJ w xs bv iv wr) (λ_ iv _=>xs.length-(intOf iv).toNat)
 case atStart=>exact⟨0,rfl,aY _,oM _ _ _,aW _⟩
 case round=>
  obtain⟨i,rfl,hi,hown,hg⟩:=hrel;by_cases hlt:i<xs.length
  .obtain⟨x,hx⟩:∃x,xs[i]?=some x:=⟨_,ek hlt⟩
   obtain⟨gb,cap,hv,hgb,c0,c1,c2⟩:=(H.out.grow hg).at hx;cases hv;have jT:=HF.out x (dm hx);have ep:=XN pw hx;have BB:((xs.take (i+1)).flatMap pw).length<=(xs.flatMap pw).length:=by
    have e:xs.flatMap pw=(xs.take (i+1)).flatMap pw++(xs.drop (i+1)).flatMap pw:=by rw[<-List.flatMap_append,List.take_append_drop]
    rw[e,aM];omega
   have eN:(i:Int)<(xs.length:Int):=by omega
   have bU:(0:Int)<=(i:Int):=by omega
   have fT:IntKind.i64.wrap ((i:Int)+1)=(i:Int)+1:=aQ _ (by omega);obtain⟨xf,xa,xz⟩:=x;have f1:xf.size<=100000000:=jT.key;have f2:xa<1000000000000:=jT.at';have f3:xz<1000000000000:=jT.size;have eF:xf.data.toList.length=xf.size:=by rw[ia];rfl
   have wa:=wo (n:=xa) (by omega);have wz:=wo (n:=xz) (by omega);have fQ:=ax wr (.cells #[.string xf,.int .i64 xa,.int .i64 xz] 257);have ai:=ar wr (.cells #[.string xf,.int .i64 xa,.int .i64 xz] 257);have iW:=hown.grow ai;have oy:=ae ep;have Hg:=ae (hg.trans ai);have kX:=ae fQ;have hpl:((xs.take i).flatMap pw).length<=100000000000:=by rw[ep,aM]at BB;omega
   obtain⟨PL,BZ⟩:∃PL,PL=(xs.take i).flatMap pw:=⟨_,rfl⟩
   rw[<-BZ]at iW hpl;have XP:=ae BZ;have gw:=ae iW;obtain⟨ba,bc,rfl⟩:=iW.slice;clear hown iW ep BB hx jT hg ai fQ BZ og
   go_upto_region 5 with fail
   generalize wr.alloc (.cells #[.string xf,.int .i64 xa,.int .i64 xz] 257)=w3 at*;generalize wr.heap.size=tb at*;clear c0 c1 c2 hgb;have t0:w3.cell? ⟨tb,0,none⟩=some (.string xf):=by simp[World.cell?,kX.out]
   have t1:w3.cell? ⟨tb,1,none⟩=some (.int .i64 xa):=by simp[World.cell?,kX.out]
   have t2:w3.cell? ⟨tb,2,none⟩=some (.int .i64 xz):=by simp[World.cell?,kX.out]
   have Mh:=af kX.out;have aU:=Grow.cells (w:=w3);refine oK (λV=>Below w3.heap.size w3 V) [(0,false),(1,false),(2,false),(6,false),(7,false),(8,false),(10,false),(11,false),(12,false),(3,true),(4,true),(5,true),(9,true),(13,true),(14,false)] (by kernel_rfl) (by kernel_rfl) (bB λ_ _ _ _ _ h=>h) (by((repeat (first|exact bW _ _|assumption|refine cC ?_|refine cD ?_|refine cw ?_ ?_ _|refine cB ?_ ?_ _))<;>try (first|omega|(simp<;>omega)))) ?_;simp only[cm,nth]
   repeat ((first|(apply az;rfl;rintro W hW;go_simp;with_reducible rfl)|(apply aA;rfl));simp only[ah,List.set])
   clear t0 t1 t2 Mh aU;have hgd:=ay w3;obtain⟨wL,w4,BR,bD,hg4⟩:=BG xf (by omega) w3.drew;have wM:Grow w3 w4:=hgd.trans hg4;refine fK (by rfl) (λK hK=>?_);go_simp;refine hK _ _ ⟨wM,?_⟩;clear hK K BR
   try simp only[ah,List.set,aC]
   have qi:=ax w4 (.cells #[.slice (some ⟨w3.drew.heap.size,0,none⟩) xf.size wL] 49);have bm:=ar w4 (.cells #[.slice (some ⟨w3.drew.heap.size,0,none⟩) xf.size wL] 49);have zP:=wM.trans bm;refine fK (by rfl) (λK hK=>?_);go_simp;refine hK _ _ ⟨zP,?_⟩;clear hK K
   try simp only[ah,List.set,aC]
   refine bw (by rfl) (by go_simp) (Ed (cE (gw.out.grow zP)) (by omega) qi (bD.grow bm) (by omega)) ?_;rintro e w6 ⟨v6,rfl,mX,dh⟩;have EC:=zP.trans dh;refine⟨_,rfl,EC,?_⟩
   try simp only[ah,List.set,aC]
   refine bw (by rfl) (by go_simp) (pS (cE mX) (by have:=ox xf.data.toList;simp only[aM];omega) (n:=xa) (by omega)) ?_;rintro e w7 ⟨v7,rfl,kA,dF⟩;have SH:=EC.trans dF;refine⟨_,rfl,SH,?_⟩
   try simp only[ah,List.set,aC]
   refine bw (by rfl) (by go_simp) (pS (cE kA) (by have:=ox xf.data.toList;have:=cF xa;simp only[aM];omega) (n:=xz) (by omega)) ?_;rintro e w8 ⟨v8,rfl,rR,cW⟩;have YQ:=SH.trans cW;refine⟨_,rfl,YQ,?_⟩
   try simp only[ah,List.set,aC]
   have hrel:IxJ w xs v8 (.int .i64 ((i:Int)+1)) w8:=⟨i+1,by simp,hlt,by have h1:=rR.mono (aJ Hg.out.size SH.size);rw[oy.out,<-XP.out];simpa[pw,jL]using h1,Hg.out.trans YQ⟩
   have aR:=ae hrel;obtain⟨Ff,xL,Fg,rfl⟩:∃a L c,v8=.slice a L c:=by obtain⟨a,c,h⟩:=rR.slice;exact⟨_,_,_,h⟩
   clear mX kA rR EC SH YQ dh dF cW zP bm wM hg4 qi bD hrel hgd
   repeat ((first|(apply az;rfl;rintro W hW;go_simp;with_reducible rfl)|(apply aA;rfl));simp only[ah,List.set])
   refine bg ?_;go_wp2;go_roundw
   case rel=>exact aR.out
   case measure=>simp[intOf];omega
  .obtain rfl:i=xs.length:=by omega
   rw[iA]at hown;have gw:=ae hown;obtain⟨ba,bc,rfl⟩:=hown.slice;clear hown;go_wp2;go_ret;exact⟨_,rfl,gw.out,hg⟩
theorem Ng(W:World)(o:Option Nat):W.grownBy W o:=⟨rfl,rfl,rfl,aw _,λ_ _ _=>rfl⟩
theorem YR(a:Grow W W')(o:Option Nat):W.grownBy W' o:=⟨a.os,a.tape,a.output,a.size,λb c _=>a.block b c⟩
def Fh(eb:Nat)(v0:Value)(g:UInt8)(a:Value)(j:Nat)(v:Value)(W:World):Prop:=
 match j with
 |0=>v=v0
 |1=>v=.int .u8 (g.toNat:Int)
 |2=>∃q:Nat,v=.slice (some ⟨q,0,none⟩) 1 1/\W.heap[q]?=some (.cells #[.int .u8 (g.toNat:Int)] 5 (0,0))/\some q≠v0.ownBlock
 |4=>v=.pointer (some ⟨eb,3,none⟩)
 |5=>v=a
 |6=>∃q:Nat,v=.slice (some ⟨q,0,none⟩) 1 1/\W.heap[q]?=some (.cells #[a] 49 (0,0))/\some q≠v0.ownBlock
 |_=>True
theorem Fh.keep{eb:Nat}{g:UInt8}{a:Value}:∀(j:Nat)(v:Value)(W W':World),W.grownBy W' v0.ownBlock->Fh eb v0 g a j v W->Fh eb v0 g a j v W':=by
 intro j v W W' d a;unfold Fh at a
 split at a<;>first
  |exact a
  |(obtain⟨q,e,b,c⟩:=a;exact⟨q,e,(d.block q (af b) c).trans b,c⟩)
  |(unfold Fh;split<;>first|trivial|(exfalso;simp_all))
structure yD(w:World)(B eb:Nat)(cs:Array Value)(v0:Value)(L:List UInt8)(g:UInt8)(val:List UInt8)(l:Array Bool)(a:Act)(W:World):Prop where
 below:Below w.heap.size w W
 base:B<=W.heap.size
 box:W.heap[eb]?=some (.cells cs 60 (0,0))
 own:l.getD 3 false=false->aI B W v0 L
 lt:∀k,v0.ownBlock=some k->w.heap.size<=k/\k<W.heap.size
 app:l.getD 3 false=true->∃v,a.tmps[20]?=some v/\aI B W v (L++[g])
 CC:l.getD 7 false=true->∃v,a.tmps[24]?=some v/\aI B W v (L++[g]++bp val)
 res:l.getD 8 false=true->∃v,a.tmps[4]?=some v/\aI B W v (L++[g]++bp val)
theorem yD.next{eb:Nat}{g:UInt8}{l:Array Bool}{a:Act}(b:yD w B eb cs v0 L g val l a W)(hi:i≠3/\i≠7/\i≠8)(h:d≠20/\d≠24/\d≠4)(c:Grow W W'):yD w B eb cs v0 L g val (l.setIfInBounds i true) (a.put (some d) v) W':=
 ⟨b.below.trans (c.mono b.below.size),aJ b.base c.size,c.heap b.box,λa=>(b.own (by rw[getD_set_ne false hi.1]at a;exact a)).grow c,λk d=>⟨(b.lt k d).1,bF (b.lt k d).2 c.size⟩,
  λa=>by obtain⟨d,e,f⟩:=b.app (by rw[getD_set_ne false hi.1]at a;exact a);exact⟨d,jN h.1 e,f.grow c⟩,
  λa=>by obtain⟨d,e,f⟩:=b.CC (by rw[getD_set_ne false hi.2.1]at a;exact a);exact⟨d,jN h.2.1 e,f.grow c⟩,
  λa=>by obtain⟨d,e,f⟩:=b.res (by rw[getD_set_ne false hi.2.2]at a;exact a);exact⟨d,jN h.2.2 e,f.grow c⟩⟩
theorem aBq(h:Bv w bv l)(hl:l.length<=100000000000){x:Ev}(hx:lM N w x)(hk:x.e.key.size<=100000000)(hs:x.e.seq<18446744073709551616)(hv:x.e.val.length<=1000000000):
  Calls Tryz.prog 159 #[bv,.agg (cd x)] w λe w'=>∃v,e=.returned v/\aI w.heap.size w' v (l++qh x.e)/\Grow w w':=by
 obtain⟨⟨xk,xs,xg,xd⟩,xv⟩:=x;obtain⟨xa,xc,jb⟩:=hx.slice;simp only at jb hk hs hv;subst jb;have iE:Bv w (.slice xa xd.length xc) xd:=hx.1;obtain⟨ba,bc,rfl⟩:=h.slice;have eF:xk.data.toList.length=xk.size:=by rw[ia];rfl
 have dy:=ax w (.cells #[.string xk,.int .u64 xs,.bool xg,.slice xa xd.length xc] 60);have ai:=ar w (.cells #[.string xk,.int .u64 xs,.bool xg,.slice xa xd.length xc] 60);have Hb:=ae h;have wN:=ae iE;have cn:=ae ai;have qK:=ae dy;clear h hx iE ai dy;show Calls Tryz.prog 159 #[.slice ba l.length bc,.agg #[.string xk,.int .u64 xs,.bool xg,.slice xa xd.length xc]] w _;go_enter Tryz.func159,Tryz.ntmps159
 go_upto_region 1 with fail
 generalize w.alloc (.cells #[.string xk,.int .u64 xs,.bool xg,.slice xa xd.length xc] 60)=w1 at*;obtain⟨eb,oo⟩:∃eb,eb=w.heap.size:=⟨_,rfl⟩
 rw[<-oo]at qK ⊢;have Fi:=ae oo;clear oo;obtain⟨t0,t1,t2,t3⟩:=cX qK.out;have YS:=af qK.out;have aU:=Grow.cells (w:=w1);refine oK (λV=>Below w1.heap.size w1 V) [(0,false),(1,false),(2,false),(6,false),(7,false),(3,true),(4,true),(5,true),(8,true),(9,false)] (by kernel_rfl) (by kernel_rfl) (bB λ_ _ _ _ _ h=>h) (by((repeat (first|exact bW _ _|assumption|refine cC ?_|refine cD ?_|refine cw ?_ ?_ _|refine cB ?_ ?_ _))<;>try (first|omega|(simp<;>omega)))) ?_;simp only[cm,nth]
 repeat ((first|(apply az;rfl;rintro W hW;go_simp;with_reducible rfl)|(apply aA;rfl));simp only[ah,List.set])
 clear t0 t1 t2 t3 YS aU;have hgd:=ay w1;obtain⟨wL,w4,BR,bD,hg4⟩:=BG xk (by omega) w1.drew;have qU:Grow w1 w4:=hgd.trans hg4;refine fK (by rfl) (λK hK=>?_);go_simp;refine hK _ _ ⟨qU,?_⟩;clear hK K BR
 try simp only[ah,List.set,aC]
 have qi:=ax w4 (.cells #[.slice (some ⟨w1.drew.heap.size,0,none⟩) xk.size wL] 49);have bm:=ar w4 (.cells #[.slice (some ⟨w1.drew.heap.size,0,none⟩) xk.size wL] 49);have np:=qU.trans bm;refine fK (by rfl) (λK hK=>?_);go_simp;refine hK _ _ ⟨np,?_⟩;clear hK K
 try simp only[ah,List.set,aC]
 refine bw (by rfl) (by go_simp) (Ed (Hb.out.grow (cn.out.trans np)) (by omega) qi (bD.grow bm) (by omega)) ?_;rintro e w6 ⟨v6,rfl,mX,dh⟩;have uR:=np.trans dh;refine⟨_,rfl,uR,?_⟩
 try simp only[ah,List.set,aC]
 refine bw (by rfl) (by go_simp) (pS (cE mX) (by have:=ox xk.data.toList;simp only[aM];omega) (n:=xs) (by omega)) ?_;rintro e w7 ⟨v7,rfl,kA,dF⟩;have jQ:=uR.trans dF;refine⟨_,rfl,jQ,?_⟩
 try simp only[ah,List.set,aC]
 obtain⟨L,hL⟩:∃L,L=l++bp xk.data.toList++aG xs:=⟨_,rfl⟩
 rw[<-hL]at kA;have Js:L.length<=200000000000:=by rw[hL];have:=ox xk.data.toList;have:=cF xs;simp only[aM];omega
 have HL:=ae hL;have Ci:aI w.heap.size w7 v7 L:=kA.mono (aJ cn.out.size uR.size);obtain⟨va,vL,vc,rfl⟩:∃a L c,v7=.slice a L c:=by obtain⟨a,c,h⟩:=kA.slice;exact⟨_,_,_,h⟩
 have ajs:=jQ.heap qK.out;have Jt:=ae (cn.out.trans jQ);have ajt:=ae Ci;have YT:=ae ajs;clear hg4 qU qi bm np mX dh uR kA dF jQ bD hL Ci hgd ajs
 repeat ((first|(apply az;rfl;rintro W hW;go_simp;with_reducible rfl)|(apply aA;rfl));simp only[ah,List.set])
 refine bg ?_;obtain⟨gb,hgb⟩:∃gb:UInt8,gb=if xg then 1 else 0:=⟨_,rfl⟩
 obtain⟨t0,t1,t2,t3⟩:=cX YT.out;have lt7:=af YT.out;have DM:∀u:List UInt8,l++qh ⟨xk,xs,xg,xd⟩=L++[gb]++bp xd:=λ_=>by rw[HL.out,hgb];simp[qh]
 have DN:=ae (DM []);clear DM
 go_upto_if 16 with fail
 go_cut [5]from 5 to 5 (λgv wx=>gv=.int .u8 ((gb:UInt8).toNat:Int)/\wx=w7)
 case first=>
  cases xg with
  |false=>
   obtain rfl:gb=0:=by rw[hgb];rfl
   go_wp2;go_meet;exact⟨rfl,rfl⟩
  |true=>
   obtain rfl:gb=1:=by rw[hgb];rfl
   go_wp2;go_meet;exact⟨rfl,rfl⟩
 case rest=>
 obtain⟨rfl,hwc⟩:=hcut;have hwc':=hwc.symm;subst hwc';clear hwc hgb
 go_upto_region 5 with fail
 refine xA (λa0 ha0=>?_);have F0:a0.tmps[0]?=some (.slice va vL vc):=by rw[ha0];rfl
 have F3:a0.tmps[3]?=some (.pointer (some ⟨eb,0,none⟩)):=by rw[ha0];rfl
 have F5:a0.tmps[5]?=some (.int .u8 ((gb:UInt8).toNat:Int)):=by rw[ha0];rfl
 have hsz:a0.tmps.size=25:=by rw[ha0];rfl
 have pd:=ae ha0;clear ha0 t0 t1 t2 t3 lt7;refine xC (Fh eb (.slice va vL vc) gb (.slice xa xd.length xc)) (yD w w.heap.size eb #[.string xk,.int .u64 xs,.bool xg,.slice xa xd.length xc] (.slice va vL vc) L gb xd) (λW W'=>W.grownBy W' (Value.slice va vL vc).ownBlock) [4,17,18,19,20,21,22,23,24] (by kernel_rfl) (by kernel_rfl) (by rw[hsz];rfl) Fh.keep ⟨Jt.out.trans (ay w7),Jt.out.size,YT.out,λ_=>ajt.out.grow (ay w7),(λk e=>ajt.out.lt e),(λh=>by cases h),(λh=>by cases h),(λh=>by cases h)⟩ ?_ (λa1 W1 hf=>?_);rotate_left
 .obtain⟨v,hv4,hq⟩:=hf.world.res rfl
  have hG:=hf.world.below;have e:=hf.alike.fill;rw[pd.out]at e;simp only[List.foldl_cons,List.foldl_nil,Act.put,nZ,List.set_cons_zero,lU]at e;have h4:a1.tmps.getD 4 undef=v:=by rw[gZ,hv4];rfl
  obtain⟨u17,h17⟩:∃u,a1.tmps.getD 17 undef=u:=⟨_,rfl⟩
  obtain⟨u18,h18⟩:∃u,a1.tmps.getD 18 undef=u:=⟨_,rfl⟩
  obtain⟨u19,h19⟩:∃u,a1.tmps.getD 19 undef=u:=⟨_,rfl⟩
  obtain⟨u20,h20⟩:∃u,a1.tmps.getD 20 undef=u:=⟨_,rfl⟩
  obtain⟨u21,h21⟩:∃u,a1.tmps.getD 21 undef=u:=⟨_,rfl⟩
  obtain⟨u22,h22⟩:∃u,a1.tmps.getD 22 undef=u:=⟨_,rfl⟩
  obtain⟨u23,Nh⟩:∃u,a1.tmps.getD 23 undef=u:=⟨_,rfl⟩
  obtain⟨u24,yE⟩:∃u,a1.tmps.getD 24 undef=u:=⟨_,rfl⟩
  rw[h4,h17,h18,h19,h20,h21,h22,Nh,yE]at e;clear h4 hv4 hf h17 h18 h19 h20 h21 h22 Nh yE;rw[e];clear e pd F0 F3 F5 hsz;obtain⟨Ff,xL,Fg,rfl⟩:∃a L c,v=.slice a L c:=by obtain⟨a,c,h⟩:=hq.slice;exact⟨_,_,_,h⟩
  have Hq:=ae hq;clear hq;go_wp2;go_ret;exact⟨_,rfl,by rw[DN.out];exact Hq.out,hG⟩
 refine⟨?_,?_,?_,?_,?_,?_,?_,?_,?_,True.intro⟩
 .intro listed a W hf ak aj;have hs1:=hf.sz hsz;have hT:=hf.world;have G0:=hf.got (by decide) F0 (by rw[hs1];decide);refine br rfl (by rfl) (λK' hK'=>?_);go_simp;exact hK' _ _ ⟨_,rfl,(λ_ _=>rfl),Ng _ _,yD.next hT (by decide) (by decide) (aW _)⟩
 .intro listed a W hf ak aj;have hs1:=hf.sz hsz;have hT:=hf.world;have G5:=hf.got (by decide) F5 (by rw[hs1];decide);refine br rfl (by rfl) (λK' hK'=>?_);go_simp;exact hK' _ _ ⟨_,rfl,(λ_ _=>rfl),Ng _ _,yD.next hT (by decide) (by decide) (aW _)⟩
 .intro listed a W hf ak aj;have hs1:=hf.sz hsz;have hT:=hf.world;obtain⟨v1,s1,q1⟩:=hf.slot 1 18 rfl (aO aj 1 (by kernel_rfl));have CD:v1=_:=q1;subst CD;have G18:=aP s1 (by rw[hs1];decide);have hg2:Grow W (W.alloc (.cells #[.int .u8 ((gb:UInt8).toNat:Int)] 5)):=ar _ _;refine DI rfl (by rfl) (tZ (v:=.int .u8 ((gb:UInt8).toNat:Int)) rfl Tryz.underlying49 Tryz.QC rfl (by show a.tmps.getD 18 undef=_;rw[gZ,s1];rfl) rfl) ?_;exact⟨_,rfl,(λ_ _=>⟨W.heap.size,rfl,ax _ _,λe=>by have:=(hT.lt W.heap.size e.symm).2;omega⟩),YR hg2 _,yD.next hT (by decide) (by decide) hg2⟩
 .intro listed a W hf ak aj
  have hs1:=hf.sz hsz;have hT:=hf.world;obtain⟨v0,s0,q0⟩:=hf.slot 0 17 rfl (aO aj 0 (by kernel_rfl));have YU:v0=_:=q0;subst YU;have G17:=aP s0 (by rw[hs1];decide);obtain⟨v2,s2,q2⟩:=hf.slot 2 19 rfl (aO aj 2 (by kernel_rfl));obtain⟨q,rfl,hq,hne⟩:=q2;have G19:=aP s2 (by rw[hs1];decide);have qj:listed.getD 3 false=false:=by
   rw[gZ]at ak ⊢;cases hx:listed[3]? with
   |none=>rw[hx]at ak;cases ak
   |some b=>rw[hx]at ak;exact ak
  have Fj:=fF hf.closed (n:=8) (e:=7) (i:=3) (by kernel_rfl) ak;have lN:=fF hf.closed (n:=8) (e:=8) (i:=3) (by kernel_rfl) ak;have rS:Bv W (.slice (some ⟨q,0,none⟩) 1 1) [gb]:=ajl hq;obtain⟨v',W2,r1,r2,r3,r4⟩:=rB (hT.own qj) rS hT.base (by simp;omega);refine DI rfl (by rfl) (KU rfl (by show a.tmps.getD 17 undef=_;rw[gZ,s0];rfl) (by show a.tmps.getD 19 undef=_;rw[gZ,s2];rfl) r1) ?_;refine⟨_,rfl,(λ_ _=>True.intro),r3,?_⟩;have hlen:3<listed.size:=by rw[hf.size];decide
  have iW:=hT.own qj;exact⟨hT.below.grown r3 hT.below.size (λk e=>(hT.lt k e).1),aJ hT.base r3.size,(r3.block eb (af hT.box) (λe=>by obtain⟨cur,hc⟩:=iW.block e.symm;rw[hT.box]at hc;exact absurd (cp (bh hc)).2.1 (by decide))).trans hT.box,
   (λhl=>by rw[pJ hlen]at hl;cases hl),(λk e=>⟨(hT.lt k e).1,bF (hT.lt k e).2 r3.size⟩),(λ_=>⟨v',xB (by rw[hs1];decide),r2⟩),(λhl=>by rw[getD_set_ne false (by decide)]at hl;rw[Fj]at hl;cases hl),(λhl=>by rw[getD_set_ne false (by decide)]at hl;rw[lN]at hl;cases hl)⟩
 .intro listed a W hf ak aj;have hs1:=hf.sz hsz;have hT:=hf.world;have G3:=hf.got (by decide) F3 (by rw[hs1];decide);refine br rfl (by rfl) (λK' hK'=>?_);go_simp;exact hK' _ _ ⟨_,rfl,(λ_ _=>rfl),Ng _ _,yD.next hT (by decide) (by decide) (aW _)⟩
 .intro listed a W hf ak aj;have hs1:=hf.sz hsz;have hT:=hf.world;have G21:=aP (hf.sv 4 21 rfl (aO aj 4 (by kernel_rfl)) λ_ _ h=>h) (by rw[hs1];decide);obtain⟨Ey,Ez,EA,XV⟩:=cX hT.box;have lb:=af hT.box;refine br rfl (by rfl) (λK' hK'=>?_);go_simp;exact hK' _ _ ⟨_,rfl,(λ_ _=>rfl),Ng _ _,yD.next hT (by decide) (by decide) (aW _)⟩
 .intro listed a W hf ak aj;have hs1:=hf.sz hsz;have hT:=hf.world;obtain⟨v5,s5,q5⟩:=hf.slot 5 22 rfl (aO aj 5 (by kernel_rfl));have q5':v5=_:=q5;subst q5';have G22:=aP s5 (by rw[hs1];decide);have hg2:Grow W (W.alloc (.cells #[.slice xa xd.length xc] 49)):=ar _ _;refine DI rfl (by rfl) (tZ (v:=.slice xa xd.length xc) rfl Tryz.underlying131 Tryz.zy rfl (by show a.tmps.getD 22 undef=_;rw[gZ,s5];rfl) rfl) ?_;exact⟨_,rfl,(λ_ _=>⟨W.heap.size,rfl,ax _ _,λe=>by have:=(hT.lt W.heap.size e.symm).2;omega⟩),YR hg2 _,yD.next hT (by decide) (by decide) hg2⟩
 .intro listed a W hf ak aj
  have hs1:=hf.sz hsz;have hT:=hf.world;obtain⟨v6,s6,q6⟩:=hf.slot 6 23 rfl (aO aj 6 (by kernel_rfl));obtain⟨q,rfl,hq,hne⟩:=q6;have G23:=aP s6 (by rw[hs1];decide);obtain⟨v3,s3,iW⟩:=hT.app (aO aj 3 (by kernel_rfl));have G20:=aP s3 (by rw[hs1];decide);refine ky rfl (by rfl) (by go_simp) (Ed (cE iW) (by simp only[aM,dD,iJ];omega) hq (wN.out.grow hT.below) (by omega)) ?_;rintro e W2 ⟨v,rfl,ho,hg2⟩;have lN:=fF hf.closed (n:=8) (e:=8) (i:=7) (by kernel_rfl) ak;have h3l:=aO aj 3 (by kernel_rfl);exact⟨_,rfl,_,rfl,(λ_ _=>True.intro),YR hg2 _,hT.below.trans (hg2.mono hT.below.size),aJ hT.base hg2.size,hg2.heap hT.box,(λhl=>by rw[getD_set_ne false (by decide)]at hl;rw[h3l]at hl;cases hl),
   (λk e=>⟨(hT.lt k e).1,bF (hT.lt k e).2 hg2.size⟩),(λ_=>⟨v3,jN (by decide) s3,iW.grow hg2⟩),(λ_=>⟨v,xB (by rw[hs1];decide),ho.mono hT.base⟩),(λhl=>by rw[getD_set_ne false (by decide)]at hl;rw[lN]at hl;cases hl)⟩
 .intro listed a W hf ak aj
  have hs1:=hf.sz hsz;have hT:=hf.world;obtain⟨v7,s7,Ci⟩:=hT.CC (aO aj 7 (by kernel_rfl));have G24:=aP s7 (by rw[hs1];decide);have qj:=hT.own;refine br rfl (by rfl) (λK' hK'=>?_);go_simp;exact hK' _ _ ⟨_,rfl,(λ_ _=>True.intro),Ng _ _,hT.below,hT.base,hT.box,(λhl=>hT.own (by rw[getD_set_ne false (by decide)]at hl;exact hl)),hT.lt,
   (λhl=>by obtain⟨u,h1,h2⟩:=hT.app (by rw[getD_set_ne false (by decide)]at hl;exact hl);exact⟨u,jN (by decide) h1,h2⟩),(λ_=>⟨v7,jN (by decide) s7,Ci⟩),(λ_=>⟨v7,xB (by rw[hs1];decide),Ci⟩)⟩
end Go.Proofs.YtoolkdapflaeeaaGreatDoor
namespace Go.Proofs.YtoolkdapflaeeaaGreatDoor
open Go.RowKit Go.Gl Mn
structure Wr where
 key:ByteArray
 gone:Bool
 val:List UInt8
def gI(s:Nat)(w:Wr):En:=⟨w.key,s,w.gone,if w.gone then[]else w.val⟩
def fO(s:Nat)(ws:List Wr)(l:List En):List En:=ws.foldl (λl w=>kR (gI s w) l) l
def gJ(k:ByteArray)(ws:List Wr):Option Wr:=(ws.filter (λw=>decide (w.key=k))).getLast?
theorem YV(s:Nat)(l:List En):fO s [] l=l:=rfl
theorem ajA(s:Nat)(ws:List Wr)(w:Wr)(l:List En):fO s (ws++[w]) l=kR (gI s w) (fO s ws l):=by simp[fO]
theorem ajB(s:Nat)(ws:List Wr)(w:Wr)(l:List En):fO s (w::ws) l=fO s ws (kR (gI s w) l):=rfl
theorem ajC(s:Nat):∀(ws:List Wr){l:List En},cx l->cx (fO s ws l)
 | [],_,h=>h
 |_::ws,_,h=>ajC s ws (Yy h)
theorem Ni(k:ByteArray)(ws:List Wr)(w:Wr):gJ k (ws++[w])=if w.key=k then some w else gJ k ws:=by
 unfold gJ;rw[List.filter_append];by_cases a:w.key=k
 .simp[a]
 .simp[a]
theorem YW{b:Type}{P:List b->Prop}(h0:P [])(h1:∀l a,P l->P (l++[a]))(l:List b):P l:=by
 have:∀l:List b,P l.reverse:=λl=>by
  induction l with
  |nil=>exact h0
  |cons a l a=>rw[List.reverse_cons];exact h1 _ _ a
 have a:=this l.reverse;rwa[List.reverse_reverse]at a
theorem ajD{k:ByteArray}{ws:List Wr}{w:Wr}(a:gJ k ws=some w):w∈ws/\w.key=k:=by unfold gJ at a;have:=List.mem_of_getLast? a;obtain⟨a,b⟩:=List.mem_filter.1 this;exact⟨a,by simpa using b⟩
theorem YX{l:List En}(hl:cx l){e:En}(ws:List Wr):e∈fO s ws l↔(∃w,gJ e.key ws=some w/\e=gI s w)\/(e∈l/\(e.seq=s->gJ e.key ws=none)):=by
 induction ws using YW generalizing e with
 |h0=>simp[YV,gJ]
 |h1 ws w ih=>
  rw[ajA,Yx (ajC s ws hl),ih,Ni];have xI:qg e (gI s w)↔e.key=w.key/\e.seq=s:=Iff.rfl;rw[xI];by_cases hk:w.key=e.key
  .rw[if_pos hk]
   constructor
   .rintro(h|⟨h|⟨h1,h2⟩,h3⟩)
    .exact .inl ⟨w,rfl,h⟩
    .obtain⟨w',hw',he⟩:=h;exact absurd ⟨hk.symm,by rw[he];rfl⟩ h3
    .exact .inr ⟨h1,λhs=>absurd ⟨hk.symm,hs⟩ h3⟩
   .rintro(⟨w',hw',he⟩|⟨h1,h2⟩)
    .cases hw';exact .inl he
    .by_cases hs:e.seq=s
     .cases h2 hs
     .exact .inr ⟨.inr ⟨h1,λh=>absurd h hs⟩,λh=>hs h.2⟩
  .rw[if_neg hk]
   constructor
   .rintro(h|⟨h|⟨h1,h2⟩,_⟩)
    .exact absurd (by rw[h];rfl) hk
    .exact .inl h
    .exact .inr ⟨h1,h2⟩
   .rintro(h|⟨h1,h2⟩)
    .exact .inr ⟨.inl h,λh3=>hk h3.1.symm⟩
    .exact .inr ⟨.inr ⟨h1,h2⟩,λh3=>hk h3.1.symm⟩
theorem aBv{a b:En}(c:fY a b):a≠b:=λa=>Ac b (by rw[a]at c;exact c)
def SI(ls:List (List En))(a:List En):Prop:=cx a/\∀b,b∈a↔∃l∈ls,b∈l
def seen(l:List En)(key:ByteArray)(up:Nat):Option En:=match eP key up l with|none=>none|some a=>if a.gone then none else some a
end Go.Proofs.YtoolkdapflaeeaaGreatDoor
namespace Go.Proofs.YtoolkdapflaeeaaGreatDoor
open Go.RowKit Go.Gl Go.aF Mn
def Ai(l:List En):Prop:=∀a∈l,a.gone=true->a.val=[]
theorem Es.read{a:List Ev}(e:Es N w v a)(f:Grow w wr)(hi:i<a.length):
  ∃x b o c xa xc,a[i]?=some x/\v=.slice (some ⟨b,o,none⟩) a.length c/\b<wr.heap.size/\x.v=.slice xa x.e.val.length xc/\lM N wr x/\
   wr.cell? ⟨b,o+i*4,none⟩=some (.string x.e.key)/\wr.cell? ⟨b,o+i*4+1,none⟩=some (.int .u64 x.e.seq)/\wr.cell? ⟨b,o+i*4+2,none⟩=some (.bool x.e.gone)/\wr.cell? ⟨b,o+i*4+3,none⟩=some (.slice xa x.e.val.length xc):=by
 have d:=e.grow f;have a:=ek hi;obtain⟨b,o,c,g,_,h,f⟩:=d.addr a;obtain⟨i,j,k,e⟩:=Cw f a;have f:=d.get a;obtain⟨xa,xc,d⟩:=f.slice;rw[d]at e;exact⟨_,b,o,c,xa,xc,a,g,h,d,f,i,j,k,e⟩
def Fk(l:List En)(i:Nat):Bool:=decide (i=0)||match l[i]?,l[i-1]? with|some a,some b=>decide (a.key≠b.key)|_,_=>false
def tC(l:List En)(n:Nat):Nat:=((List.range n).filter (Fk l)).length
def ik(l:List En):Nat:=max 8 ((10*tC l l.length+7)/8)
def Nj(a:List UInt8)(p:Nat):List UInt8:=a.set (p/8) (UInt8.ofNat ((a.getD (p/8) 0).toNat|||2^(p%8)))
def ql(m:Nat)(a:List UInt8)(k:List UInt8):Nat->List UInt8
 |0=>a
 |j+1=>Nj (ql m a k j) (oD k m j)
def eC(l:List En):List UInt8:=l.foldl (λb a=>ql (8*ik l) b a.key.data.toList 4) (List.replicate (ik l) 0)
theorem aBw(a:List UInt8)(p:Nat):(Nj a p).length=a.length:=by simp[Nj]
theorem YY(m:Nat)(a k:List UInt8):∀j,(ql m a k j).length=a.length
 |0=>rfl
 |j+1=>by rw[ql,aBw,YY m a k j]
theorem YZ(m:Nat):∀(l:List En)(b:List UInt8),(l.foldl (λb e=>ql m b e.key.data.toList 4) b).length=b.length
 | [],_=>rfl
 |e::l,b=>by rw[List.foldl_cons,YZ m l,YY]
theorem Nk(l:List En):(eC l).length=ik l:=by unfold eC;rw[YZ,List.length_replicate]
theorem Ju(l:List En)(n:Nat):tC l n<=n:=by unfold tC;exact aJ (List.length_filter_le _ _) (by simp)
theorem aBx(l:List En)(n:Nat):tC l (n+1)=tC l n+(if Fk l n then 1 else 0):=by unfold tC;rw[List.range_succ,List.filter_append,aM];congr 1;cases a:Fk l n<;>simp[a]
theorem aBy{k:List UInt8}(a:0<m):oD k m j<m:=Nat.mod_lt _ a
theorem aBz(N:Nat)(a:N<=10000000)(w:World):∃w',(Instr.makeSlice 49 (.int .i64 (N:Int)) (.int .i64 (N:Int))).run Tryz.prog w=.ok (.slice (some ⟨w.heap.size,0,none⟩) N N) w'/\
  w'.heap[w.heap.size]?=some (.cells (dT (List.replicate N 0)).toArray 5 (0,0))/\Grow w w':=by
 obtain⟨i,b,c,a,d⟩:=info_parts Tryz.QC;have e:=run_makeSlice (w:=w) 49 5 i (.int .u8 0) Tryz.underlying49 b c .i64 .i64 (N:Int) (N:Int) (by omega) (Int.le_refl _) (by rw[a];simp;omega) (by rw[d];omega) (by omega);refine⟨_,e,?_,ar _ _⟩;have b:madeCells (Value.int .u8 0).cells ((N:Int).toNat*i.size)=(dT (List.replicate N 0)).toArray:=by
  rw[a];apply Array.ext
  .simp[madeCells,dT]
  .intro j a a;simp[madeCells,dT,Value.cells,Nat.mod_one]
 rw[b];exact ax _ _
theorem aBA(a:W.heap[g]?=some (.cells (dT L).toArray 5 (0,0)))(x:UInt8):(W.setCell ⟨g,q,none⟩ (.int .u8 (x.toNat:Int))).heap[g]?=some (.cells (dT (L.set q x)).toArray 5 (0,0)):=by rw[Go.Gl.aK a q _];simp[dT,List.map_set]
theorem ajE(a:B<=g)(b:W.heap[g]?=some (.cells (dT L).toArray 5 (0,0)))(c:L.length<=1000000000):aI B W (.slice (some ⟨g,0,none⟩) L.length L.length) L:=by
 refine .inr ⟨g,L.length,_,by rw[jX],a,b,?_,?_,?_,?_⟩
 .rw[jX];exact aw _
 .simp[dT]
 .unfold maxLen;omega
 .exact iA ..
theorem aBB{b r:Nat}(a:b<256)(d:r<8):bits .or .u8 (b:Int) ((2^r:Nat):Int)=(((UInt8.ofNat (b|||2^r)).toNat:Nat):Int):=by have c:2^r<256:=bF (Nat.pow_lt_pow_right (by decide) d) (by decide);rw[u8_or_nat b (2^r) a c,UInt8.toNat_ofNat_of_lt' (Nat.or_lt_two_pow (n:=8) a c)]
def aBC(w:World)(l:List En)(a b:Value)(wr:World):Prop:=∃i:Nat,b=.int .i64 (i:Int)/\i<=l.length/\a=.int .i64 (tC l i:Nat)/\Grow w wr
def Za(w:World)(l:List En)(g:Nat)(a:Value)(wr:World):Prop:=∃i:Nat,a=.int .i64 (i:Int)/\i<=l.length/\wr.heap[g]?=some (.cells (dT ((l.take i).foldl (λb a=>ql (8*ik l) b a.key.data.toList 4) (List.replicate (ik l) 0))).toArray 5 (0,0))/\Below w.heap.size w wr
def ajF(w:World)(m:Nat)(L k:List UInt8)(g:Nat)(a:Value)(wr:World):Prop:=∃j:Nat,a=.int .i64 (j:Int)/\j<=4/\wr.heap[g]?=some (.cells (dT (ql m L k j)).toArray 5 (0,0))/\Below w.heap.size w wr
theorem ajG{ys:List Ev}(h:Es N w v ys)(hlen:ys.length<=1000000)(hk:∀y∈ys,y.e.key.size<=100000000):
  Calls Tryz.prog 149 #[v] w λe w'=>∃v',e=.returned v'/\aI w.heap.size w' v' (eC (ys.map Ev.e))/\Grow w w':=by
 have H:=ae h;have HK:=ae hk;obtain⟨va,vc,rfl⟩:=h.slice;clear h hk;go_enter Tryz.func149,Tryz.ntmps149
 go_wp2_with fail
 go_loopw [3,12] (λnv iv wr=>aBC w (ys.map Ev.e) nv iv wr) (λ_ iv _=>ys.length-(intOf iv).toNat)
 case atStart=>exact⟨0,rfl,aY _,rfl,aW _⟩
 case round=>
  obtain⟨i,rfl,hi,rfl,hg⟩:=hrel;rw[bA]at hi;have kT:=Ju (ys.map Ev.e) i;by_cases hlt:i<ys.length
  .obtain⟨x,b,o,c,xa,xc,hx,hv,hb,cI,lO,c0,c1,c2,c3⟩:=H.out.read hg hlt
   cases hv;have eN:(i:Int)<(ys.length:Int):=by omega
   have bU:(0:Int)<=(i:Int):=by omega
   have fT:IntKind.i64.wrap ((i:Int)+1)=((i+1:Nat):Int):=by rw[aQ _ (by omega)];omega
   have yF:IntKind.i64.wrap ((tC (ys.map Ev.e) i:Int)+1)=((tC (ys.map Ev.e) i+1:Nat):Int):=by rw[aQ _ (by omega)];omega
   have sO:=aBx (ys.map Ev.e) i;have Hg:=ae hg;clear cI lO c1 c2 c3;by_cases h0:i=0
   .subst h0
    have wO:Fk (ys.map Ev.e) 0=true:=by simp[Fk]
    rw[wO,if_pos rfl]at sO;have SJ:=ae sO;generalize tC (ys.map Ev.e) 0=k0 at*;have Hi:=ae hi;clear hg sO hx wO c0
    go_upto_region 5 with fail
    refine cN (λV=>Below wr.heap.size wr V) [] (by kernel_rfl) (bB λ_ _ _ _ _ h=>h) (by((repeat (first|exact bW _ _|assumption|refine cC ?_|refine cD ?_|refine cw ?_ ?_ _|refine cB ?_ ?_ _))<;>try (first|omega|(simp<;>omega)))) ?_;simp only[ct]
    repeat ((first|(apply az;rfl;rintro W hW;go_simp;with_reducible rfl)|(apply aA;rfl));simp only[ah,List.set])
    refine bg ?_;go_wp2;go_roundw
    case rel=>exact⟨1,rfl,by rw[bA];omega,by rw[SJ.out];simp,Hg.out.trans (ay _)⟩
    case measure=>simp[intOf];omega
   .obtain⟨p,hp⟩:∃p,i=p+1:=⟨i-1,by omega⟩
    obtain⟨y,b',o',c',ya,yc,hy,hv',hb',eZ,rZ,e0,_,_,_⟩:=H.out.read hg (show p<ys.length by omega);cases hv';have wO:Fk (ys.map Ev.e) i= !(x.e.key.toList==y.e.key.toList):=by
     unfold Fk;rw[show i-1=p by omega,gQ,gQ,hx,hy];show(decide (i=0)||decide (x.e.key≠y.e.key))=_;rw[jz,jz,decide_eq_false h0];by_cases vC:x.e.key=y.e.key
     .simp[vC]
     .have:¬x.e.key.data.toList=y.e.key.data.toList:=λe=>vC (Cu e)
      simp only[ne_eq,vC,not_false_eq_true,decide_true,Bool.or_true];rw[beq_eq_false_iff_ne.2 this];rfl
    rw[wO]at sO;have hz:((i:Int)==0)=false:=by simp;omega
    have hwp:IntKind.i64.wrap ((i:Int)-1)=(p:Int):=by rw[aQ _ (by omega)];omega
    have zI:(0:Int)<=(p:Int):=by omega
    have tD:(p:Int)<(ys.length:Int):=by omega
    obtain⟨bb,eD⟩:∃bb,(x.e.key.toList==y.e.key.toList)=bb:=⟨_,rfl⟩
    rw[eD]at sO;have SJ:=ae sO;have aU:=Grow.cells (w:=wr);generalize tC (ys.map Ev.e) i=k0 at*;clear hg sO hx hy wO eZ rZ h0 hp
    go_upto_region 5 with fail
    refine cN (λV=>Below wr.heap.size wr V) [] (by kernel_rfl) (bB λ_ _ _ _ _ h=>h) (by((repeat (first|exact bW _ _|assumption|refine cC ?_|refine cD ?_|refine cw ?_ ?_ _|refine cB ?_ ?_ _))<;>try (first|omega|(simp<;>omega)))) ?_;simp only[ct]
    repeat ((first|(apply az;rfl;rintro W hW;go_simp;with_reducible rfl)|(apply aA;rfl));simp only[ah,List.set])
    refine bg ?_;clear aU c0 e0;cases bb with
    |false=>
     go_wp2;go_roundw
     case rel=>exact⟨i+1,rfl,by rw[bA];omega,by rw[SJ.out];simp,Hg.out.trans (ay _)⟩
     case measure=>simp[intOf];omega
    |true=>
     go_wp2;go_roundw
     case rel=>exact⟨i+1,rfl,by rw[bA];omega,by rw[SJ.out];simp,Hg.out.trans (ay _)⟩
     case measure=>simp[intOf];omega
  .obtain rfl:i=ys.length:=by omega
   have hN:ik (ys.map Ev.e)=max 8 ((10*tC (ys.map Ev.e) ys.length+7)/8):=by unfold ik;rw[bA]
   generalize tC (ys.map Ev.e) ys.length=n at*;have hNb:ik (ys.map Ev.e)<=10000000/\8<=ik (ys.map Ev.e):=by rw[hN];omega
   have hmx:max (8:Int) ((10*(n:Int)+7)/8)=((ik (ys.map Ev.e):Nat):Int):=by rw[hN];omega
   obtain⟨w2,Jv,hb2,hg2⟩:=aBz (ik (ys.map Ev.e)) hNb.1 wr;have hFB:Za w (ys.map Ev.e) wr.heap.size (.int .i64 ((0:Nat):Int)) w2:=⟨0,rfl,aY _,by simpa using hb2,hg.trans hg2⟩
   have HFB:=ae hFB;have uS:=hg.size;generalize wr.heap.size=g at*;clear hb2 hg2 hg hFB hN
   go_wp2_with fail
   obtain⟨FN,SK⟩:∃FN,FN=ik (ys.map Ev.e):=⟨_,rfl⟩
   rw[<-SK]at hNb;rw[<-SK];have Zb:=ae SK;obtain⟨aNa,ajI⟩:=hNb;clear Jv SK hmx
   go_loopw [42] (λiv wr=>Za w (ys.map Ev.e) g iv wr) (λiv _=>ys.length-(intOf iv).toNat)
   case atStart=>exact HFB.out
   case round=>
    obtain⟨i,rfl,hi,jr,fX⟩:=hrel;rw[bA]at hi;by_cases hlt:i<ys.length
    .obtain⟨x,b,o,c,xa,xc,hx,hv,hb,cI,lO,c0,c1,c2,c3⟩:=H.out.read fX hlt
     cases hv;have eN:(i:Int)<(ys.length:Int):=by omega
     have bU:(0:Int)<=(i:Int):=by omega
     have fT:IntKind.i64.wrap ((i:Int)+1)=((i+1:Nat):Int):=by rw[aQ _ (by omega)];omega
     have vD:=HK.out x (dm hx);have ajJ:((ys.map Ev.e).take (i+1)).foldl (λb e=>ql (8*ik (ys.map Ev.e)) b e.key.data.toList 4) (List.replicate (ik (ys.map Ev.e)) 0)=ql (8*FN) (((ys.map Ev.e).take i).foldl (λb e=>ql (8*ik (ys.map Ev.e)) b e.key.data.toList 4) (List.replicate (ik (ys.map Ev.e)) 0)) x.e.key.data.toList 4:=by rw[List.take_add_one,gQ,hx,List.foldl_append,Zb.out];rfl
     have eF:(((ys.map Ev.e).take i).foldl (λb e=>ql (8*ik (ys.map Ev.e)) b e.key.data.toList 4) (List.replicate (ik (ys.map Ev.e)) 0)).length=FN:=by rw[YZ,List.length_replicate,Zb.out]
     generalize ((ys.map Ev.e).take i).foldl (λb e=>ql (8*ik (ys.map Ev.e)) b e.key.data.toList 4) (List.replicate (ik (ys.map Ev.e)) 0)=L at*;have aBE:=ae ajJ;have rC:=ae eF;have ai:=ar wr (.cells #[.string x.e.key,.int .u64 x.e.seq,.bool x.e.gone,.slice xa x.e.val.length xc] 60);have Nl:=ae (ai.heap jr);have uH:=ae (fX.trans (ai.mono fX.size));have uL:IntKind.i64.wrap (8*(FN:Int))=((8*FN:Nat):Int):=by rw[aQ _ (by omega)];omega
     have hu8:IntKind.u64.wrap ((8*FN:Nat):Int)=((8*FN:Nat):Int):=wK (by omega);have Fl:=ae (λW=>aBl x.e.key vD (m:=8*FN) (by omega) (by omega) W);clear ajJ eF ai jr fX hx cI lO hi;generalize ajK:8*FN=m8 at*;have Hm8:=ae ajK;clear ajK
     go_wp2_with fail
     (with_reducible refine(Fl.out _).mono ?_);rintro e w3 ⟨rfl,hg3⟩;have qA:∀j:Nat,j<4->∀V:World,(Instr.index 310 (.agg #[.int .u64 (oD x.e.key.data.toList m8 0:Nat),.int .u64 (oD x.e.key.data.toList m8 1:Nat),.int .u64 (oD x.e.key.data.toList m8 2:Nat),.int .u64 (oD x.e.key.data.toList m8 3:Nat)]) (.int .i64 (j:Int))).run Tryz.prog V=.ok (.int .u64 (oD x.e.key.data.toList m8 j:Nat)) V:=λj hj V=>by
      match j,hj with
      |0,_=>simp[Instr.index,run_underlying Tryz.underlying310,go_sem]
      |1,_=>simp[Instr.index,run_underlying Tryz.underlying310,go_sem]
      |2,_=>simp[Instr.index,run_underlying Tryz.underlying310,go_sem]
      |3,_=>simp[Instr.index,run_underlying Tryz.underlying310,go_sem]
     have CE:=ae qA;have hC:ajF w m8 L x.e.key.data.toList g (.int .i64 ((0:Nat):Int)) w3:=⟨0,rfl,by decide,hg3.heap Nl.out,uH.out.trans (hg3.mono uH.out.size)⟩
     have HC:=ae hC;clear hC qA hg3 Fl Nl uH c0 c1 c2 c3 hb uL hu8;obtain⟨p0,zI⟩:∃p,p=oD x.e.key.data.toList m8 0:=⟨_,rfl⟩
     obtain⟨p1,tD⟩:∃p,p=oD x.e.key.data.toList m8 1:=⟨_,rfl⟩
     obtain⟨p2,hp2⟩:∃p,p=oD x.e.key.data.toList m8 2:=⟨_,rfl⟩
     obtain⟨p3,hp3⟩:∃p,p=oD x.e.key.data.toList m8 3:=⟨_,rfl⟩
     rw[<-zI,<-tD,<-hp2,<-hp3]at CE ⊢;clear zI tD hp2 hp3
     go_wp2_with fail
     go_loopw [53] (λjv wr=>ajF w m8 L x.e.key.data.toList g jv wr) (λjv _=>4-(intOf jv).toNat)
     case atStart=>exact HC.out
     case round=>
      obtain⟨j,rfl,hj,Fm,SL⟩:=hrel;by_cases hj4:j<4
      .have aNb:=CE.out j hj4
       have aNc:=aBy (k:=x.e.key.data.toList) (m:=m8) (j:=j) (by have:=Hm8.out;omega);have hstep:ql m8 L x.e.key.data.toList (j+1)=Nj (ql m8 L x.e.key.data.toList j) (oD x.e.key.data.toList m8 j):=rfl;have pV:=YY m8 L x.e.key.data.toList j;rw[rC.out]at pV;generalize oD x.e.key.data.toList m8 j=p at*;generalize ql m8 L x.e.key.data.toList j=LJ at*;have hq:(p:Int)/8=((p/8:Nat):Int):=by omega
       have hr:(p:Int)%8=((p%8:Nat):Int):=by omega
       have Zc:p/8<FN:=by have:=Hm8.out;omega
       have wk:p%8<8:=by omega
       unfold Nj at hstep;generalize p/8=q at*;generalize p%8=r at*;obtain⟨bt,fw⟩:∃bt,LJ[q]?=some bt:=⟨_,ek (by omega)⟩
       have hgd:LJ.getD q 0=bt:=by rw[List.getD_eq_getElem?_getD,fw];rfl
       rw[hgd]at hstep;have cq:wr.cell? ⟨g,q,none⟩=some (.int .u8 (bt.toNat:Int)):=by
        have:(dT LJ).toArray[q]?=some (.int .u8 (bt.toNat:Int)):=by simp[dT,fw]
        simp only[World.cell?,Fm];simpa using this
       have fq:wr.frozen? ⟨g,q,none⟩=false:=by simp[World.frozen?,Fm]
       have lg:=af Fm;have xR:=aBB bt.toNat_lt wk;have cG:=aBA (q:=q) Fm (UInt8.ofNat (bt.toNat|||2^r));rw[<-hstep,<-xR]at cG;rw[show((2^r:Nat):Int)=(2:Int)^r by simp]at cG;have h2r:2^r<256:=bF (Nat.pow_lt_pow_right (by decide) wk) (by decide);have uC:IntKind.u8.wrap (2^r)=((2^r:Nat):Int):=by
        have e:((2:Int)^r)=((2^r:Nat):Int):=by simp
        rw[e];generalize 2^r=z at*;simp[IntKind.wrap,IntKind.bits,IntKind.signed];omega
       have uB:(j:Int)<4:=by omega
       have rM:(0:Int)<=(j:Int):=by omega
       have LZ:IntKind.i64.wrap ((j:Int)+1)=((j+1:Nat):Int):=by rw[aQ _ (by omega)];omega
       have jO:(q:Int)<(FN:Int):=by omega
       have hq0:(0:Int)<=(q:Int):=by omega
       have Aj:=ae cG;have aBH:=ae SL;clear cG Fm SL hstep fw hgd pV h2r xR;have hle:w.heap.size<=g:=uS;go_wp2;go_roundw
       case rel=>exact⟨j+1,rfl,hj4,Aj.out,aBH.out.setCell (p:=⟨g,q,none⟩) hle _⟩
       case measure=>simp[intOf];omega
      .obtain rfl:j=4:=by omega
       have hrel:Za w (ys.map Ev.e) g (.int .i64 ((i+1:Nat):Int)) wr:=⟨i+1,rfl,by rw[bA];omega,by rw[aBE.out];exact Fm,SL⟩
       have aR:=ae hrel;have uB:decide (((4:Nat):Int)<4)=false:=rfl;clear Fm SL hrel;go_wp2;go_roundw
       case rel=>exact aR.out
       case measure=>simp[intOf];omega
    .obtain rfl:i=ys.length:=by omega
     have hres:aI w.heap.size wr (.slice (some ⟨g,0,none⟩) FN FN) (eC (ys.map Ev.e)):=by
      have e:((ys.map Ev.e).take ys.length).foldl (λb e=>ql (8*ik (ys.map Ev.e)) b e.key.data.toList 4) (List.replicate (ik (ys.map Ev.e)) 0)=eC (ys.map Ev.e):=by rw[List.take_of_length_le (by rw[bA];exact aw _)];rfl
      rw[e]at jr;have hl:=Nk (ys.map Ev.e);rw[<-Zb.out]at hl;have:=ajE uS jr (by omega);rw[hl]at this;exact this
     have dQ:=ae hres;have uH:=ae fX;clear hres jr fX;go_wp2;go_ret;exact⟨_,rfl,dQ.out,uH.out⟩
section
variable{N:Nat→Prop}{w w8 wr wy:World}{tb ha:Nat}{ns HI:List Nd}{aX:Nat}{dv:Value}{ds:List Int}{x:Ev}{nw:Nd}
theorem Sep.Zd(F:Nat->Prop)(w:World)(a:F lb)(j:Nat)(v:Value):Sep F w (w.setCell ⟨lb,j,none⟩ v) F:=
 ⟨rfl,rfl,rfl,by simp,λb _ c=>aN _ _ _ _ (λd=>c (by have c:b=lb:=d;rw[c];exact a)),λb a=>.inl a⟩
theorem ajP{x:En}{ns:List Nd}{n:Nd}(tb ha:Nat)(a:n∈bP tb ha::cj x ns):n∈bP tb ha::ns:=by
 rcases bI.1 a with a|a
 .exact a ▸ ej ..
 .exact fE _ (by rw[<-kr x ns];exact jg _ a)
theorem ed.Ze(c:ed N w tb ha ns aX dv ds){n:Nd}(a:n∈bP tb ha::ns):FM tb ha ns n.arr/\n.arr<w.heap.size/\n.arr≠tb:=by
 obtain⟨b,b,d⟩:=ry a;have b:=c.skip.ju.at d;refine⟨?_,af b,λd=>?_⟩
 .rcases bI.1 a with rfl|a
  .exact .inr (.inl rfl)
  .exact .inr (.inr ⟨n,a,.inr rfl⟩)
 .rw[d,c.self]at b;exact absurd (cp (bh b)).2.1 (by decide)
theorem aBI(h:ed N w tb ha ns aX dv ds)(hN:∀b,N b->b<w.heap.size/\¬FM tb ha ns b)(hx:lM N w x)(dC:x.e.seq<18446744073709551616)(hg:Grow w w8)(oC:gH x.e ns=HI)(hput:kR x.e (ns.map (λn=>n.x.e))=gM x.e (ns.map (λn=>n.x.e))++x.e::HI.map (λn=>n.x.e))(iu:nw.x=x)(hh:1<=nw.h/\nw.h<=12)(sM:w.heap.size<=nw.blk)(bE:w.heap.size<=nw.arr)(fH:Ps w8 (bP tb ha::cj x.e ns) HI nw nw.h wr)(Jn:wr.heap[nw.blk]?=some (.cells (MZ nw) 176 (0,0)))(ki:∀n∈ns,wr.heap[n.blk]?=w.heap[n.blk]?){eT:Nat}(aBJ:eT<=12)(eK:wy.heap[tb]?=some (.cells (SC ha eT (ns.length+1) dv (costs (ns.map (λn=>n.x.e)))) 181 (0,0)))(iq:Sep (λb=>b=tb) wr wy (λb=>b=tb)):
  qT N w tb ha ns dv x (cj x.e ns++nw::HI) eT wy/\(cj x.e ns++nw::HI).length=ns.length+1/\costs ((cj x.e ns++nw::HI).map (λn=>n.x.e))=costs (ns.map (λn=>n.x.e))+iH x.e:=by
 have qm:cj x.e ns++HI=ns:=by rw[<-oC];exact kr x.e ns
 have hmap:(cj x.e ns++nw::HI).map (λn=>n.x.e)=kR x.e (ns.map (λn=>n.x.e)):=by rw[hput,dS,cr,YI,iu]
 have hlen:(cj x.e ns++nw::HI).length=ns.length+1:=by rw[<-qm];simp[aM];rw[qm];omega
 have aBK:∀n∈ns,n.blk≠tb:=λn hn e=>by have h1:=h.skip.node n hn;rw[e,h.self]at h1;exact absurd (cp (bh h1)).2.1 (by decide)
 have hall:∀b,b<w.heap.size->b≠tb->(∀n∈bP tb ha::cj x.e ns,b≠n.arr)->wy.heap[b]?=w.heap[b]?:=λb hb h1 h2=>by
  have s1:=hg.size;have s2:=fH.sep.size;rw[iq.out b (by omega) h1,fH.sep.out b (by omega) (λhf=>?_),hg.block b hb];rcases hf with hf|⟨n,hn,hf⟩
  .omega
  .exact h2 n hn hf
 have Fo:Sep (FM tb ha ns) w wy (FM tb ha (cj x.e ns++nw::HI)):=by
  have s0:=Sep.bO (F:=FM tb ha ns) hg;refine⟨iq.os.trans (fH.sep.os.trans s0.os),iq.tape.trans (fH.sep.tape.trans s0.tape),iq.output.trans (fH.sep.output.trans s0.output),aJ hg.size (aJ fH.sep.size iq.size),λb hb hn=>?_,λb hb=>?_⟩
  .refine hall b hb (λe=>hn (.inl e)) (λn qF e=>hn ?_);rw[e];exact(h.Ze (ajP tb ha qF)).1
  .rcases hb with rfl|rfl|⟨n,hn,hb⟩
   .exact .inl (.inl rfl)
   .exact .inl (.inr (.inl rfl))
   .rcases dn.1 hn with h1|h1
    .exact .inl (.inr (.inr ⟨n,by rw[<-qm];exact jg _ h1,hb⟩))
    .rcases bI.1 h1 with rfl|h1
     .right
      rcases hb with rfl|rfl
      .exact sM
      .exact bE
     .exact .inl (.inr (.inr ⟨n,by rw[<-qm];exact nz _ h1,hb⟩))
 have Np:Kp N w wy:=⟨Fo.size,λb hb hl=>Fo.out b hl (hN b hb).2⟩
 have sX:=h.skip.EX;rw[<-qm,<-gP,dS]at sX;have aBL:=List.nodup_append.1 sX;refine⟨⟨hmap,by rw[hlen];exact eK,aBJ,?_,Fo⟩,hlen,?_⟩
 .refine kU.ins (w:=w) (by rw[qm];exact h.skip) ?_ ?_ ?_ (λm hm=>?_) (λm hm=>?_) sM bE Np ⟨by rw[iu];exact hx.kp Np,by rw[iu];exact dC⟩ hh (by rw[hmap];exact Yy h.skip.ord)
  .rw[iq.out nw.blk (af Jn) (λe=>by have:=af h.self;omega)];exact Jn
  .refine(aAH fH.ju).keep (λn hn=>?_);have h1:=h.Ze (ajP tb ha hn);have s1:=hg.size;have s2:=fH.sep.size;exact iq.out _ (by omega) h1.2.2
  .rw[iq.out nw.arr (af fH.nt) (λe=>by have:=af h.self;omega),fH.nt];congr 3;exact jf λk hk=>by rw[if_pos (List.mem_range.1 hk)]
  .rw[qm]at hm;have h1:=af (h.skip.node m hm);have s1:=hg.size;have s2:=fH.sep.size;rw[iq.out m.blk (by omega) (aBK m hm)];exact ki m hm
  .have fL:m∈bP tb ha::ns:=fE _ (by rw[<-qm];exact nz _ hm);have h1:=h.Ze fL;exact hall _ h1.2.1 h1.2.2 (λn hn e=>aBL.2.2 _ (aV.2 ⟨n,hn,rfl⟩) _ (aV.2 ⟨m,hm,rfl⟩) e.symm)
 .have e1:costs (ns.map (λn=>n.x.e))=costs ((cj x.e ns++HI).map (λn=>n.x.e)):=by rw[qm]
  rw[e1];simp only[costs,dS,cr,List.sum_append,List.sum_cons,iu];omega
theorem aBM{n:Nd}{r:List Nd}(d:ed N w tb ha ns aX dv ds)(o:∀b,N b->b<w.heap.size/\¬FM tb ha ns b)(p:lM N w x)(q:x.e.seq<18446744073709551616)(j:gH x.e ns=n::r)(l:eB n.x.e x.e=0)(s:wy.heap[n.blk]?=some (.cells (MZ ⟨n.blk,n.arr,n.h,x⟩) 176 (0,0)))(f:Sep (λb=>b=n.blk) w wy (λb=>b=n.blk)):
  qT N w tb ha ns dv x (cj x.e ns++⟨n.blk,n.arr,n.h,x⟩::r) aX wy/\(cj x.e ns++⟨n.blk,n.arr,n.h,x⟩::r).length=ns.length/\costs ((cj x.e ns++⟨n.blk,n.arr,n.h,x⟩::r).map (λn=>n.x.e))+iH n.x.e=costs (ns.map (λn=>n.x.e))+iH x.e:=by
 have e:cj x.e ns++n::r=ns:=by rw[<-j];exact kr x.e ns
 have g:n∈ns:=by rw[<-e];simp
 have m:(cj x.e ns++(⟨n.blk,n.arr,n.h,x⟩:Nd)::r).length=ns.length:=by
  conv=>rhs;rw[<-e]
  simp
 have i:FM tb ha ns n.blk:=.inr (.inr ⟨n,g,.inl rfl⟩);have t:∀b,FM tb ha (cj x.e ns++(⟨n.blk,n.arr,n.h,x⟩:Nd)::r) b->FM tb ha ns b:=λb a=>by
  rcases a with a|a|⟨k,hk,a⟩
  .exact .inl a
  .exact .inr (.inl a)
  .rcases dn.1 hk with c|c
   .exact .inr (.inr ⟨k,by rw[<-e];exact jg _ c,a⟩)
   .rcases bI.1 c with rfl|c
    .exact .inr (.inr ⟨n,g,a⟩)
    .exact .inr (.inr ⟨k,by rw[<-e];exact nz _ (fE _ c),a⟩)
 have h:Sep (FM tb ha ns) w wy (FM tb ha (cj x.e ns++⟨n.blk,n.arr,n.h,x⟩::r)):=(f.mono (λb a=>by rw[a];exact i)).tgt (λb a=>.inl (t b a));have k:Kp N w wy:=⟨h.size,λb a i=>h.out b i (o b a).2⟩
 have o:tb≠n.blk:=λt=>by have c:=d.skip.node n g;rw[<-t,d.self]at c;exact absurd (cp (bh c)).2.1 (by decide)
 refine⟨⟨?_,?_,d.aX,?_,h⟩,m,?_⟩
 .unfold kR;rw[<-EY,j,dS,cr,YI,cr];simp only;rw[if_pos l]
 .rw[m,f.out tb (af d.self) o];exact d.self
 .have c:kU N w tb ha (cj x.e ns++n::r):=by rw[e];exact d.skip
  exact kU.rep (w:=w) c rfl rfl rfl s (λb a i=>f.out b i a) k ⟨p.kp k,q⟩ ((Cv _ _).1 l)
 .have a:costs (ns.map (λn=>n.x.e))=costs ((cj x.e ns++n::r).map (λn=>n.x.e)):=by rw[e]
  rw[a];simp only[costs,dS,cr,List.sum_append,List.sum_cons];omega
def aBO(N:Nat->Prop)(w:World)(tb ha:Nat)(ns:List Nd)(dv:Value)(x:Ev)(e:Ending)(w':World):Prop:=
 ∃b a,qT N w tb ha ns dv x b a w'/\
  ((∃c:Ev,(∃a d,c.v=.slice a c.e.val.length d)/\e=.returned (.tuple #[.agg (cd c),.bool true])/\b.length=ns.length/\costs (b.map (λa=>a.x.e))+iH c.e=costs (ns.map (λa=>a.x.e))+iH x.e)\/
   (e=.returned (.tuple #[.agg #[.string ⟨#[]⟩,.int .u64 0,.bool false,.slice none 0 0],.bool false])/\b.length=ns.length+1/\costs (b.map (λa=>a.x.e))=costs (ns.map (λa=>a.x.e))+iH x.e))
theorem aBP{x:En}{ns:List Nd}(a:gH x ns=[]):kR x (ns.map (λn=>n.x.e))=gM x (ns.map (λn=>n.x.e))++x::([]:List Nd).map (λn=>n.x.e):=by unfold kR;rw[<-EY,a];rfl
theorem aBQ{x:En}{ns r:List Nd}{n:Nd}(a:gH x ns=n::r)(b:eB n.x.e x≠0):kR x (ns.map (λn=>n.x.e))=gM x (ns.map (λn=>n.x.e))++x::(n::r).map (λn=>n.x.e):=by unfold kR;rw[<-EY,a,cr];simp only;rw[if_neg b]
end
theorem aBR{ns:List Nd}(h:ed N w tb ha ns aX dv ds)(hN:∀b,N b->b<w.heap.size/\¬FM tb ha ns b)(hlen:ns.length<=1000000000)(x:Ev)(hx:lM N w x)(dC:x.e.seq<18446744073709551616):
  Calls Tryz.prog 128 #[au tb,.agg (cd x),.func (.func 129) #[au tb] #[]] w (aBO N w tb ha ns dv x):=by
 obtain⟨⟨xk,xs,xg,xd⟩,xv⟩:=x;obtain⟨xa,xc,cI⟩:=hx.slice;simp only at cI;subst cI;obtain⟨xl,gL⟩:∃xl,xl=xd.length:=⟨_,rfl⟩
 rw[<-gL]at hx ⊢;obtain⟨w2,hw2⟩:∃w2,(w.alloc (.cells (cd ⟨⟨xk,xs,xg,xd⟩,.slice xa xl xc⟩) 60)).alloc (.cells #[.string ⟨#[]⟩,.int .u64 0,.bool false,.slice none 0 0] 60)=w2:=⟨_,rfl⟩
 have hg2:Grow w w2:=by rw[<-hw2];exact(ar _ _).trans (ar _ _)
 have hb2:w2.heap[w.heap.size]?=some (.cells (cd ⟨⟨xk,xs,xg,xd⟩,.slice xa xl xc⟩) 60 (0,0)):=by rw[<-hw2];exact(heap_alloc_old _ _ (by simp)).trans (ax _ _)
 have hr2:w2.heap[w.heap.size+1]?=some (.cells #[.string ⟨#[]⟩,.int .u64 0,.bool false,.slice none 0 0] 60 (0,0)):=by rw[<-hw2];have:=ax (w.alloc (.cells (cd ⟨⟨xk,xs,xg,xd⟩,.slice xa xl xc⟩) 60)) (.cells #[.string ⟨#[]⟩,.int .u64 0,.bool false,.slice none 0 0] 60);simpa using this
 have Fp:=ajb (h.grow hg2) ⟨⟨xk,xs,xg,xd⟩,.slice xa xl xc⟩ (xa:=xa) (xl:=xl) (xc:=xc) rfl;obtain⟨bf,mo,Nq⟩:=levels ⟨xk,xs,xg,xd⟩ ns tb ha;rw[Nq]at Fp;obtain⟨c0,c1,c2,c3⟩:=cX hb2;have l0:=af hb2;have SN:=ae Fp;have H:=ae h;have H2:=ae (ag hg2 (ag hb2 hr2));have SP:=ae mo;have HX:=ae (ag hx (ag dC (ag hN hlen)));have Hxl:=ae gL;clear h hg2 hb2 hr2 Fp Nq mo hx dC hN hlen gL;go_enter Tryz.func128,Tryz.ntmps128
 go_wp2_with fail
 (with_reducible refine SN.out.mono ?_);rintro e w3 ⟨rfl,hg3⟩;clear c0 c1 c2 c3 l0 SN hw2
 go_upto_region 2 with fail
 refine aBe (λW=>Pb w ⟨⟨xk,xs,xg,xd⟩,.slice xa xl xc⟩ bf w3.heap.size W) (aBf bf H2.out.1 H2.out.2.1 H2.out.2.2 hg3) ?_;intro w5 uT;generalize hg:w3.heap.size=g at*;have h5:=H.out.grow uT.grow;obtain⟨pre,m,eL,vS⟩:=last_zero (L:=bP tb ha::cj ⟨xk,xs,xg,xd⟩ ns) (by simp) (λn hn=>by
  rcases bI.1 hn with rfl|hn
  .show 1<=12;omega
  .exact(H.out.skip.hs n (by rw[<-kr ⟨xk,xs,xg,xd⟩ ns];exact jg _ hn)).1)
 have oG:m=bf 0:=by have:=SP.out 0 (by decide);rw[vS]at this;exact bh this
 have e2:bP tb ha::ns=pre++m::gH ⟨xk,xs,xg,xd⟩ ns:=by
  have h1:bP tb ha::ns=(bP tb ha::cj ⟨xk,xs,xg,xd⟩ ns)++gH ⟨xk,xs,xg,xd⟩ ns:=by rw[gP,kr]
  rw[h1,eL];simp
 have cM:m∈bP tb ha::ns:=by rw[e2];simp
 have gz:0<m.h:=by
  rcases bI.1 cM with rfl|hn
  .show 0<12;omega
  .exact(H.out.skip.hs m hn).1
 obtain⟨t4,lm⟩:=h5.tail cM;obtain⟨tl,la⟩:=h5.link e2 gz;obtain⟨ca,lg⟩:w5.cell? ⟨g,0,none⟩=some (au m.blk)/\g<w5.heap.size:=by have:=uT.arr;rw[oG];exact⟨by simp[World.cell?,this],af this⟩
 have aNf:(0:Int)<(m.h:Int):=by omega
 have Ak:=ae uT;have H5:=ae h5;clear uT hg3 h5 eL vS oG e2 cM hg;obtain⟨HI,oC⟩:∃HI,gH ⟨xk,xs,xg,xd⟩ ns=HI:=⟨_,rfl⟩
 obtain⟨pv,pQ⟩:∃pv,cz 0 HI=pv:=⟨_,rfl⟩
 rw[oC,pQ]at tl
 go_upto_region 3 with fail
 have aU:=Grow.cells (w:=w5)
 go_cut [36]from 22 to 36 (λbv wx=>∃bb:Bool,bv=.bool bb/\Pb w ⟨⟨xk,xs,xg,xd⟩,.slice xa xl xc⟩ bf g wx/\(bb=false->kR ⟨xk,xs,xg,xd⟩ (ns.map (λn=>n.x.e))=gM ⟨xk,xs,xg,xd⟩ (ns.map (λn=>n.x.e))++⟨xk,xs,xg,xd⟩::HI.map (λn=>n.x.e))/\(bb=true->∃n hr,HI=n::hr/\eB n.x.e ⟨xk,xs,xg,xd⟩=0))
 case first=>
  cases HI with
  |nil=>
   obtain rfl:pv=.pointer none:=by rw[<-pQ];rfl
   refine cN (λV=>Below w5.heap.size w5 V) [12] (by kernel_rfl) (bB λ_ _ _ _ _ h=>h) (by((repeat (first|exact bW _ _|assumption|refine cC ?_|refine cD ?_|refine cw ?_ ?_ _|refine cB ?_ ?_ _))<;>try (first|omega|(simp<;>omega)))) ?_;simp only[ct]
   repeat ((first|(apply az;rfl;rintro W hW;go_simp;with_reducible rfl)|(apply aA;rfl));simp only[ah,List.set])
   refine Ih (by rfl) (by((repeat (first|exact bW _ _|assumption|refine cC ?_|refine cD ?_|refine cw ?_ ?_ _|refine cB ?_ ?_ _))<;>try (first|omega|(simp<;>omega)))) ?_
   try simp only[ah,List.set,aC]
   repeat ((first|(apply az;rfl;rintro W hW;go_simp;with_reducible rfl)|(apply aA;rfl));simp only[ah,List.set])
   refine bg ?_
   go_wp2_with fail
   go_meet;exact⟨false,rfl,Ak.out.step (ay w5),λ_=>aBP oC,λh=>by cases h⟩
  |cons n hr=>
   have jY:n∈ns:=by rw[<-kr ⟨xk,xs,xg,xd⟩ ns,oC];simp
   obtain rfl:pv=au n.blk:=by rw[<-pQ,cz,if_pos (show 0<n.h from(H.out.skip.hs n jY).1)]
   obtain⟨d0,d1,d2,d3⟩:=H5.out.aB jY;obtain⟨va,vc,hv⟩:=(H5.out.skip.vals n jY).1.slice;have ln:=af (H5.out.skip.node n jY);rw[hv]at d3;obtain⟨t5,lt⟩:w5.cell? ⟨tb,5,none⟩=some (.func (.func 93) #[] #[])/\tb<w5.heap.size:=⟨by have:=H5.out.self;simp[World.cell?,this],af H5.out.self⟩
   obtain⟨b0,b1,b2,b3⟩:=cX Ak.out.box;have lb:=af Ak.out.box;have Hv:=ae hv;have Cz:dA (kJ n.x.e.key xk) (jG xs n.x.e.seq)=eB n.x.e ⟨xk,xs,xg,xd⟩:=rfl;have gj:=aiY n.x.e.key n.x.e.seq n.x.e.gone (.slice va n.x.e.val.length vc) xk xs xg (.slice xa xl xc);rw[Cz]at gj;have kL:=ae gj;clear Cz gj hv;obtain⟨c,SE⟩:∃c,eB n.x.e ⟨xk,xs,xg,xd⟩=c:=⟨_,rfl⟩
   rw[SE]at kL;have HcE:=ae SE;clear SE;obtain⟨bb,eD⟩:∃bb,(c==0)=bb:=⟨_,rfl⟩
   refine cN (λV=>Below w5.heap.size w5 V) [12] (by kernel_rfl) (bB λ_ _ _ _ _ h=>h) (by((repeat (first|exact bW _ _|assumption|refine cC ?_|refine cD ?_|refine cw ?_ ?_ _|refine cB ?_ ?_ _))<;>try (first|omega|(simp<;>omega)))) ?_;simp only[ct]
   repeat ((first|(apply az;rfl;rintro W hW;go_simp;with_reducible rfl)|(apply aA;rfl));simp only[ah,List.set])
   refine bw (by rfl) (by go_simp) (kL.out w5.drew) ?_;rintro e' w6 ⟨rfl,dh⟩;refine⟨_,rfl,(ay w5).trans dh,?_⟩
   try simp only[ah,List.set,aC]
   repeat ((first|(apply az;rfl;rintro W hW;go_simp;with_reducible rfl)|(apply aA;rfl));simp only[ah,List.set])
   refine bg ?_;have px:=(Ak.out.step (ay w5)).step dh
   go_wp2_with fail
   go_meet;exact⟨bb,rfl,px,λh=>aBQ oC (by rw[HcE.out];simpa[h]using eD),λh=>⟨n,hr,rfl,by rw[HcE.out];simpa[h]using eD⟩⟩
 case rest=>
 obtain⟨bb,rfl,px,mo,fw⟩:=hcut;generalize wc=w6 at*;clear aU t4 lm tl la ca lg;cases bb with
 |false=>
  have hput:=mo rfl;clear mo fw;have h6:=H.out.grow px.grow;obtain⟨b0,b1,b2,b3⟩:=cX px.box;have lb:=af px.box
  go_upto_region 6 with fail
  have aU:=Grow.cells (w:=w6);refine cN (λV=>Below w6.heap.size w6 V) [2,0,1] (by kernel_rfl) (bB λ_ _ _ _ _ h=>h) (by((repeat (first|exact bW _ _|assumption|refine cC ?_|refine cD ?_|refine cw ?_ ?_ _|refine cB ?_ ?_ _))<;>try (first|omega|(simp<;>omega)))) ?_;simp only[ct]
  repeat ((first|(apply az;rfl;rintro W hW;go_simp;with_reducible rfl)|(apply aA;rfl));simp only[ah,List.set])
  refine bw (by rfl) (by go_simp) (aBd (h6.grow (ay w6))) ?_;rintro e' w7 ⟨⟨k,lV,hk2,rfl⟩,dF⟩;have rV:=(ay w6).trans dF;refine⟨_,rfl,rV,?_⟩
  try simp only[ah,List.set,aC]
  have ai:=ar w7 (.cells ((List.range k).map (λ_=>(.pointer none:Value))).toArray 287);refine ud (by rfl) (v:=.slice (some ⟨w7.heap.size,0,none⟩) k k) (w':=w7.alloc (.cells ((List.range k).map (λ_=>(.pointer none:Value))).toArray 287)) (by unfold execOp;simp only[Act.eval];simp[ajk hk2]) (rV.trans ai) ?_
  try simp only[ah,List.set,aC]
  repeat ((first|(apply az;rfl;rintro W hW;go_simp;with_reducible rfl)|(apply aA;rfl));simp only[ah,List.set])
  have hgb:=ar (w7.alloc (.cells ((List.range k).map (λ_=>(.pointer none:Value))).toArray 287)) (.cells #[.string xk,.int .u64 xs,.bool xg,.slice xa xl xc,.slice (some ⟨w7.heap.size,0,none⟩) k k] 176);refine fK (by rfl) (λK hK=>?_);go_simp;refine hK _ _ ⟨(rV.trans ai).trans hgb,?_⟩;clear hK K
  try simp only[ah,List.set,aC]
  repeat ((first|(apply az;rfl;rintro W hW;go_simp;with_reducible rfl)|(apply aA;rfl));simp only[ah,List.set])
  refine bg ?_;have lN:=ax (w7.alloc (.cells ((List.range k).map (λ_=>(.pointer none:Value))).toArray 287)) (.cells #[.string xk,.int .u64 xs,.bool xg,.slice xa xl xc,.slice (some ⟨w7.heap.size,0,none⟩) k k] 176);rw[World.size_alloc]at lN;have CF:=hgb.heap (ax w7 (.cells ((List.range k).map (λ_=>(.pointer none:Value))).toArray 287));have Zf:=(px.step rV).step (ai.trans hgb);have h8:=H.out.grow Zf.grow;have s7:=px.grow.size;have s67:=rV.size;generalize (w7.alloc (.cells ((List.range k).map (λ_=>(.pointer none:Value))).toArray 287)).alloc (.cells #[.string xk,.int .u64 xs,.bool xg,.slice xa xl xc,.slice (some ⟨w7.heap.size,0,none⟩) k k] 176)=w8 at*;obtain⟨na,tE⟩:∃na,na=w7.heap.size:=⟨_,rfl⟩
  rw[<-tE]at lN CF ⊢;have aBT:w.heap.size<=na:=by omega
  clear aU ai hgb rV dF b0 b1 b2 b3 lb h6 px s7 s67 tE;have fH:Ps w8 (bP tb ha::cj ⟨xk,xs,xg,xd⟩ ns) HI ⟨na+1,na,k,⟨⟨xk,xs,xg,xd⟩,.slice xa xl xc⟩⟩ 0 w8:=by refine⟨aAG (fD.split (lo:=bP tb ha::cj ⟨xk,xs,xg,xd⟩ ns) (hi:=HI) (by have:=h8.skip.ju;rwa[<-kr ⟨xk,xs,xg,xd⟩ ns,oC]at this)).1,?_,Sep.refl _ _⟩;show w8.heap[na]?=_;rw[CF];simp
  have EZ:((bP tb ha::cj ⟨xk,xs,xg,xd⟩ ns).map Nd.arr).Nodup:=by have h1:=H.out.skip.EX;rw[<-kr ⟨xk,xs,xg,xd⟩ ns,<-gP,dS]at h1;exact(List.nodup_append.1 h1).1
  have ajR:∀n∈bP tb ha::cj ⟨xk,xs,xg,xd⟩ ns,n.arr≠na:=λn hn e=>by
   have h1:n∈bP tb ha::ns:=by
    rcases bI.1 hn with rfl|hn
    .exact ej ..
    .exact fE _ (by rw[<-kr ⟨xk,xs,xg,xd⟩ ns];exact jg _ hn)
   obtain⟨p1,p2,e3⟩:=ry h1;have:=af (H.out.skip.ju.at e3);omega
  have bz:=ae (ag Zf (ag h8 (ag lN (ag EZ ajR))));have zW:=ae fH;obtain⟨n4,ln⟩:w8.cell? ⟨na+1,4,none⟩=some (.slice (some ⟨na,0,none⟩) k k)/\na+1<w8.heap.size:=⟨by simp[World.cell?,lN],af lN⟩
  clear Zf h8 lN CF EZ ajR fH
  go_wp2_with fail
  go_loopw [57] (λkv wr=>∃K:Nat,kv=.int .i64 (K:Int)/\K<=k/\Ps w8 (bP tb ha::cj ⟨xk,xs,xg,xd⟩ ns) HI ⟨na+1,na,k,⟨⟨xk,xs,xg,xd⟩,.slice xa xl xc⟩⟩ K wr) (λkv _=>k-(intOf kv).toNat)
  case atStart=>exact⟨0,rfl,aY _,zW.out⟩
  case round=>
  obtain⟨K,rfl,hKk,hP⟩:=hrel;have CG:∀(b:Nat)(arr:Array Value)(ty:TypeId)(fz:Nat×Nat),w8.heap[b]?=some (.cells arr ty fz)->ty≠287->wr.heap[b]?=some (.cells arr ty fz):=λb arr ty fz hb se=>by
   rw[hP.sep.out b (af hb) (λhf=>?_)]
   .exact hb
   .have hLt:∀n∈bP tb ha::cj ⟨xk,xs,xg,xd⟩ ns,n.arr≠b:=λn hn e=>by
     have h1:n∈bP tb ha::ns:=by
      rcases bI.1 hn with rfl|hn
      .exact ej ..
      .exact fE _ (by rw[<-kr ⟨xk,xs,xg,xd⟩ ns];exact jg _ hn)
     obtain⟨p1,p2,e3⟩:=ry h1;have h2:=bz.out.2.1.skip.ju.at e3;rw[e,hb]at h2;exact se (cp (bh h2)).2.1
    rcases hf with hf|⟨n,hn,hf⟩
    .have h2:=zW.out.nt;rw[<-show b=na from hf,hb]at h2;exact se (cp (bh h2)).2.1
    .exact hLt n hn hf.symm
  have Nr:=CG _ _ _ _ bz.out.2.2.1 (by decide);obtain⟨n4',ln'⟩:wr.cell? ⟨na+1,4,none⟩=some (.slice (some ⟨na,0,none⟩) k k)/\na+1<wr.heap.size:=⟨by simp[World.cell?,Nr],af Nr⟩
  by_cases hlt:K<k
  .have ajS:K<12:=by omega
   have Zg:=SP.out K ajS;obtain⟨SQ,hmh⟩:=Sz Zg;have ajT:bf K∈bP tb ha::ns:=by
    rcases bI.1 SQ with h1|h1
    .rw[h1];exact ej ..
    .exact fE _ (by rw[<-kr ⟨xk,xs,xg,xd⟩ ns];exact jg _ h1)
   obtain⟨hc1,hc2,vO⟩:=hP.step (show K<k from hlt) bz.out.2.2.2.1 bz.out.2.2.2.2 Zg;obtain⟨q,hq⟩:=ajj K HI;rw[hq]at hc1 vO;have Jw:=CG _ _ _ _ bz.out.1.arr (by decide);obtain⟨ga,gl⟩:wr.cell? ⟨g,K,none⟩=some (au (bf K).blk)/\g<wr.heap.size:=by have e12:(#[au (bf 0).blk,au (bf 1).blk,au (bf 2).blk,au (bf 3).blk,au (bf 4).blk,au (bf 5).blk,au (bf 6).blk,au (bf 7).blk,au (bf 8).blk,au (bf 9).blk,au (bf 10).blk,au (bf 11).blk]:Array Value)=((List.range 12).map (λi=>au (bf i).blk)).toArray:=rfl;rw[e12]at Jw;exact⟨SA Jw ajS,af Jw⟩
   obtain⟨m4,lm4⟩:wr.cell? ⟨(bf K).blk,4,none⟩=some (.slice (some ⟨(bf K).arr,0,none⟩) (bf K).h (bf K).h)/\(bf K).blk<wr.heap.size:=by
    have hb:∃arr ty,w8.heap[(bf K).blk]?=some (.cells arr ty (0,0))/\ty≠287/\arr[4]?=some (.slice (some ⟨(bf K).arr,0,none⟩) (bf K).h (bf K).h):=by
     rcases bI.1 ajT with h1|h1
     .rw[h1];exact⟨_,_,bz.out.2.1.self,by decide,rfl⟩
     .exact⟨_,_,bz.out.2.1.skip.node _ h1,by decide,rfl⟩
    obtain⟨arr,ty,h1,h2,h3⟩:=hb;have h4:=CG _ _ _ _ h1 h2;exact⟨by simp only[World.cell?,h4];exact h3,af h4⟩
   have fr1:wr.frozen? ⟨na,K,none⟩=false:=by have:=hP.nt;simp only at this;simp[World.frozen?,this]
   have lna:=af hP.nt;obtain⟨fr2,bA⟩:wr.frozen? ⟨(bf K).arr,K,none⟩=false/\(bf K).arr<wr.heap.size:=by obtain⟨p1,p2,e3⟩:=ry SQ;have h1:=hP.ju.at e3;exact⟨by simp[World.frozen?,h1],af h1⟩
   have ajU:(bf K).arr≠na:=bz.out.2.2.2.2 _ SQ;have aCd:na≠(bf K).arr:=λe=>ajU e.symm
   have k0:(0:Int)<=(K:Int):=by omega
   have k1:(K:Int)<(k:Int):=by omega
   have k2:(K:Int)<((bf K).h:Int):=by omega
   have k3:(K:Int)<12:=by omega
   have fT:IntKind.i64.wrap ((K:Int)+1)=((K+1:Nat):Int):=by rw[aQ _ (by omega)];omega
   have Li:=ae vO;have SR:wr.cell? ⟨na,K,none⟩=some (.pointer none):=hc2;have aNh:=SP;generalize (bf K).arr=mA at*;generalize (bf K).h=mH at*;generalize (bf K).blk=mB at*;clear CG Nr SQ ajT vO Jw hc2 Zg hP hq hmh
   go_upto_region 10 with fail
   go_region;have iV:=Li.out.drew;generalize ((wr.setCell ⟨na,K,none⟩ (.pointer q)).setCell ⟨mA,K,none⟩ (au (na+1))).drew=wq at*;have Hnd:=ae iV;clear iV Li n4' ln' ga gl m4 lm4 fr1 lna fr2 bA ajU aCd k0 k2 k3 hc1 SR
   go_wp2_with fail
   go_roundw
   case rel=>exact⟨K+1,rfl,hlt,Hnd.out⟩
   case measure=>simp[intOf];omega
  .obtain rfl:K=k:=by omega
   have htw:=hP.ju;have Jo:=hP.nt;have eK:=CG _ _ _ _ bz.out.2.1.self (by decide);have hres:=CG _ _ _ _ bz.out.1.res (by decide);have ajV:∀n∈ns,wr.heap[n.blk]?=w.heap[n.blk]?:=λn hn=>(CG _ _ _ _ (bz.out.2.1.skip.node n hn) (by decide)).trans (H.out.skip.node n hn).symm
   obtain⟨c6,lt⟩:wr.cell? ⟨tb,6,none⟩=some (.int .i64 (aX:Int))/\tb<wr.heap.size:=⟨by simp[World.cell?,eK],af eK⟩
   have ft:=bG eK;obtain⟨hm,hmx,Ns⟩:∃hm:Nat,max (aX:Int) (K:Int)=(hm:Int)/\hm<=12:=⟨max aX K,by omega,Nat.max_le.2 ⟨H.out.aX,hk2⟩⟩
   have ft6:=ft 6;have Hw:=ae (ag hP (ag Nr (ag eK (ag hres ajV))));have z0:=Go.Gl.aK eK 6 (.int .i64 (hm:Int));simp only[SC,nZ,List.set_cons_zero,lU]at z0;have zs:=(Sep.Zd (λb=>b=tb) wr (lb:=tb) rfl 6 (.int .i64 (hm:Int))).trans (Sep.bO (ay _));have zr:(wr.setCell ⟨tb,6,none⟩ (.int .i64 (hm:Int))).drew.heap[w.heap.size+1]?=some (.cells #[.string ⟨#[]⟩,.int .u64 0,.bool false,.slice none 0 0] 60 (0,0)):=(aN _ _ _ _ (λe=>by have e':w.heap.size+1=tb:=e;have:=af H.out.self;omega)).trans hres;replace z0:(wr.setCell ⟨tb,6,none⟩ (.int .i64 (hm:Int))).drew.heap[tb]?=_:=z0;have Hz:=ae (ag z0 (ag zs zr));clear ft CG hP htw Jo eK Nr hres ajV z0 zs zr
   go_upto_region 12 with fail
   go_region;have z0:=Hz.out.1;have zs:=Hz.out.2.1;have zr:=Hz.out.2.2;clear Hz c6 ft6;generalize (wr.setCell ⟨tb,6,none⟩ (.int .i64 (hm:Int))).drew=wz at*;have hwc:IntKind.i64.wrap ((ns.length:Int)+1)=((ns.length+1:Nat):Int):=by have:=HX.out.2.2.2;rw[aQ _ (by omega)];omega
   obtain⟨c7,ltz⟩:wz.cell? ⟨tb,7,none⟩=some (.int .i64 (ns.length:Int))/\tb<wz.heap.size:=⟨by simp[World.cell?,z0],af z0⟩
   have f7:wz.frozen? ⟨tb,7,none⟩=false:=by simp[World.frozen?,z0]
   have y0:=Go.Gl.aK z0 7 (.int .i64 ((ns.length+1:Nat):Int));simp only[nZ,List.set_cons_zero,lU]at y0;have ys:=zs.trans (Sep.Zd (λb=>b=tb) wz (lb:=tb) rfl 7 (.int .i64 ((ns.length+1:Nat):Int)));have yr:(wz.setCell ⟨tb,7,none⟩ (.int .i64 ((ns.length+1:Nat):Int))).heap[w.heap.size+1]?=some (.cells #[.string ⟨#[]⟩,.int .u64 0,.bool false,.slice none 0 0] 60 (0,0)):=(aN _ _ _ _ (λe=>by have e':w.heap.size+1=tb:=e;have:=af H.out.self;omega)).trans zr;obtain⟨SS,yG⟩:∃l,l=ns.length+1:=⟨_,rfl⟩
   rw[<-yG]at hwc y0 ys yr;have aCi:=ae yG;clear yG;have Hy:=ae (ag y0 (ag ys yr));clear z0 zs zr y0 ys yr
   go_upto_region 14 with fail
   have y0:=Hy.out.1;have ys:=Hy.out.2.1;have yr:=Hy.out.2.2;clear Hy c7 f7 ltz hwc;generalize wz.setCell ⟨tb,7,none⟩ (.int .i64 (SS:Int))=wy at*;rw[aCi.out]at y0;have cP:=ae (aBI (nw:=⟨na+1,na,K,⟨⟨xk,xs,xg,xd⟩,.slice xa xl xc⟩⟩) (x:=⟨⟨xk,xs,xg,xd⟩,.slice xa xl xc⟩) H.out HX.out.2.2.1 HX.out.1 HX.out.2.1 bz.out.1.grow oC hput rfl ⟨lV,hk2⟩ (by show w.heap.size<=na+1;omega) aBT Hw.out.1 Hw.out.2.1 Hw.out.2.2.2.2 Ns y0 ys);obtain⟨r0,r1,r2,r3⟩:=cX yr;have lr:=af yr;have fr:=bG yr;have s0:=eY (v:=.string ⟨#[]⟩) (i:=0) yr rfl;have s1:=eY (v:=.int .u64 0) (i:=1) yr rfl;have s2:=eY (v:=.bool false) (i:=2) yr rfl;have s3:=eY (v:=.slice none 0 0) (i:=3) yr rfl;clear yr y0 ys bz zW Hw Ak H5;go_wp2;exact bodyPost_ret (v:=.tuple #[.agg #[.string ⟨#[]⟩,.int .u64 0,.bool false,.slice none 0 0],.bool false]) (by simp[results,Tryz.results128,go_sem,r0,r1,r2,r3]) rfl ⟨_,_,cP.out.1,.inr ⟨rfl,cP.out.2.1,cP.out.2.2⟩⟩
 |true=>
  obtain⟨n,hr,rfl,hcz⟩:=fw rfl;clear mo fw;have jY:n∈ns:=by rw[<-kr ⟨xk,xs,xg,xd⟩ ns,oC];simp
  obtain⟨va,vc,hv⟩:=(H5.out.skip.vals n jY).1.slice;have Hv:=ae hv;clear hv;obtain rfl:pv=au n.blk:=by rw[<-pQ,cz,if_pos (show 0<n.h from(H.out.skip.hs n jY).1)]
  have h6:=H.out.grow px.grow;obtain⟨b0,b1,b2,b3⟩:=cX px.box;have lb:=af px.box;obtain⟨d0,d1,d2,d3⟩:=h6.aB jY;have iV:=h6.skip.node n jY;have ln:=af iV;rw[Hv.out]at d3;have fn:=bG iV;obtain⟨r0,r1,r2,r3⟩:=cX px.res;have lr:=af px.res;have hres:=px.res;have fr:=bG hres;have lnw:=af (H.out.skip.node n jY);have hne:n.blk≠w.heap.size+1:=by omega
  have Sm:w.heap.size+1≠n.blk:=by omega
  have q0:=CA (v0:=.string n.x.e.key) (v1:=.int .u64 n.x.e.seq) (v2:=.bool n.x.e.gone) (v3:=.slice va n.x.e.val.length vc) px.res;have q1:=(tA (w:=w6) hne (.string n.x.e.key) (.int .u64 n.x.e.seq) (.bool n.x.e.gone) (.slice va n.x.e.val.length vc)).trans iV;have q2:=aBg (v0:=.string xk) (v1:=.int .u64 xs) (v2:=.bool xg) (v3:=.slice xa xl xc) q1;have q3:=(tA Sm (.string xk) (.int .u64 xs) (.bool xg) (.slice xa xl xc)).trans q0;have qs:Sep (λb=>b=n.blk) w (jS (jS w6 (w.heap.size+1) (.string n.x.e.key) (.int .u64 n.x.e.seq) (.bool n.x.e.gone) (.slice va n.x.e.val.length vc)) n.blk (.string xk) (.int .u64 xs) (.bool xg) (.slice xa xl xc)).drew (λb=>b=n.blk):=by have s1:Sep (λb=>b=n.blk) w w6 (λb=>b=n.blk):=Sep.bO px.grow;have s2:=s1.aji (b:=w.heap.size+1) (by omega) (.string n.x.e.key) (.int .u64 n.x.e.seq) (.bool n.x.e.gone) (.slice va n.x.e.val.length vc);exact(s2.aBi (b:=n.blk) rfl (.string xk) (.int .u64 xs) (.bool xg) (.slice xa xl xc)).drew
  have Hq:=ae (ag (heap_drew q2) (ag (heap_drew q3) qs));clear iV hres q0 q1 q2 q3 qs h6
  go_upto_region 4 with fail
  go_region;have q2:=Hq.out.1;have q3:=Hq.out.2.1;have qs:=Hq.out.2.2;clear Hq b0 b1 b2 b3 lb d0 d1 d2 d3 ln fn r0 r1 r2 r3 lr fr hne Sm;generalize (jS (jS w6 (w.heap.size+1) (.string n.x.e.key) (.int .u64 n.x.e.seq) (.bool n.x.e.gone) (.slice va n.x.e.val.length vc)) n.blk (.string xk) (.int .u64 xs) (.bool xg) (.slice xa xl xc)).drew=wy at*;have cP:=ae (aBM (x:=⟨⟨xk,xs,xg,xd⟩,.slice xa xl xc⟩) H.out HX.out.2.2.1 HX.out.1 HX.out.2.1 oC hcz q2 qs);obtain⟨r0,r1,r2,r3⟩:=cX q3;have lr:=af q3;have fr:=bG q3;have s0:=eY (v:=.string n.x.e.key) (i:=0) q3 rfl;have s1:=eY (v:=.int .u64 n.x.e.seq) (i:=1) q3 rfl;have s2:=eY (v:=.bool n.x.e.gone) (i:=2) q3 rfl;have s3:=eY (v:=.slice va n.x.e.val.length vc) (i:=3) q3 rfl;clear q2 q3 qs hcz Ak H5 px;go_wp2;exact bodyPost_ret (v:=.tuple #[.agg #[.string n.x.e.key,.int .u64 n.x.e.seq,.bool n.x.e.gone,.slice va n.x.e.val.length vc],.bool true]) (by simp[results,Tryz.results128,go_sem,r0,r1,r2,r3]) rfl ⟨_,_,cP.out.1,.inl ⟨⟨n.x.e,.slice va n.x.e.val.length vc⟩,⟨va,vc,rfl⟩,rfl,cP.out.2.1,cP.out.2.2⟩⟩
end Go.Proofs.YtoolkdapflaeeaaGreatDoor
namespace Go.Gl
open Go Go.RowKit
section aCj
variable{P:Program}{Q:Exit→Act→World→Prop}{S:World→Prop}
def Nt(P:Program)(l:List Oper)(S:World->Prop)(b c:List (Nat×Bool))(Q:Exit->Act->World->Prop):Exit->Act->World->Prop
 | .normal,a,w=>dU P l.toArray Q S (cm l b) a w/\dU P l.toArray Q S (cm l c) a w
 |e,a,w=>Q e a w
def Fq(ops:Array Oper)(i j:Nat)(a rb:List (Nat×Bool)):List (Nat×Bool)->Array Bool->Bool
 | [],seen=>decide (Region.ready .any ops seen=[i,j])&&pH ops a (seen.setIfInBounds i true)&&pH ops rb (seen.setIfInBounds j true)
 |(k,false)::π,seen=>(Region.ready .any ops seen).contains k&&Region.free .any ops seen k&&Fq ops i j a rb π (seen.setIfInBounds k true)
 |(k,true)::π,seen=>decide (Region.ready .any ops seen=[k])&&Fq ops i j a rb π (seen.setIfInBounds k true)
theorem aCk{l:List Oper}{c d:List (Nat×Bool)}{p:Oper}{a:Act}{K:Act->World->Prop}(b:p.wp P a w K (Nt P l S c d Q)):p.wp P a w K Q:=by
 unfold Oper.wp at*;generalize (execOp a.eval p).run P w=a at*;cases a with
 |ok a v=>cases a<;>first|exact b|exact Calls.mono b (λa c c=>by cases a<;>exact c)
 |halt x v=>cases x<;>exact b
theorem ajX {l:List Oper} {r:List (Nat×Bool)} (hs:Region.noSelect l.toArray=true) (hQ:∀ c a d v w,Q (.panic c) (Act.put a d v) w→Q (.panic c) a w) {seen:Array Bool} {a:Act} {w:World} (hk:k<l.toArray.size)
  (hc:pH l.toArray r (seen.setIfInBounds k true)=true) (h:dU P l.toArray Q S (cm l ((k,true)::r)) a w):
  wpOp P l.toArray Q k (fun b v=>S v∧wpAnyH P .any l.toArray Q S r.length (seen.setIfInBounds k true) b v) a w:=by
 have hi:l.toArray[k]?=some (nth l k):=by simpa using vG (l:=l) (by simpa using hk)
 simp only [cm] at h;unfold dU at h;unfold wpOp;simp only [hi];split
 ·rename_i hw
  rw [if_pos hw] at h;exact .inl (Oper.wp_mono (fun b v hb=>⟨hb.1,Ig hs hQ r _ _ _ hc hb.1 hb.2⟩) h)
 ·rename_i hw
  rw [if_neg hw] at h;exact ⟨h.1,Ig hs hQ r _ _ _ hc h.1 h.2⟩
theorem SU {l:List Oper} {i j:Nat} {ra rb:List (Nat×Bool)} (hlen:ra.length=rb.length) (hs:Region.noSelect l.toArray=true) (hQ:∀ c a d v w,Q (.panic c) (Act.put a d v) w→Q (.panic c) a w):
  ∀ (π:List (Nat×Bool)) (seen:Array Bool) (a:Act) (w:World),Fq l.toArray i j ra rb π seen=true→S w→dU P l.toArray (Nt P l S ((i,true)::ra) ((j,true)::rb) Q) S (cm l π) a w→
   wpAnyH P .any l.toArray Q S (π.length+(ra.length+1)) seen a w
 | [],seen,a,w,hc,_,h=>by
  simp only [Fq,Bool.and_eq_true,decide_eq_true_eq] at hc;have h':dU P l.toArray Q S (cm l ((i,true)::ra)) a w∧dU P l.toArray Q S (cm l ((j,true)::rb)) a w:=by unfold dU at h;exact h
  have hi:=vH (ops:=l.toArray) (listed:=seen) (i:=i) (by rw [hc.1.1];simp);have hj:=vH (ops:=l.toArray) (listed:=seen) (i:=j) (by rw [hc.1.1];simp);rw [iJ,Nat.zero_add];refine wpAnyH_all hc.1.1 (by simp) fun k hk=> ?_
  simp only [bI,List.not_mem_nil,or_false] at hk;rcases hk with hk|hk
  ·subst hk
   exact ajX hs hQ hi hc.1.2 h'.1
  ·subst hk
   rw [hlen];exact ajX hs hQ hj hc.2 h'.2
 |(k,false)::π,seen,a,w,hc,hS,h=>by
  simp only [Fq,Bool.and_eq_true] at hc;have h':∃ v,YieldsIf P l.toArray S (nth l k) v a∧dU P l.toArray (Nt P l S ((i,true)::ra) ((j,true)::rb) Q) S (cm l π) (a.put (nth l k).dst v) w:=by
   simp only [cm] at h;unfold dU at h;exact h
  obtain ⟨v,hy,hr⟩:=h';have hk:=vH (by simpa using hc.1.1);rw [dD,Nat.add_right_comm];exact wpAnyH_take (by simpa using vG (l:=l) (by simpa using hk)) hs hc.1.2 hc.1.1 (fun c a w=>hQ c a _ _ w) hy hS (SU hlen hs hQ π _ _ _ hc.2 hS hr)
 |(k,true)::π,seen,a,w,hc,hS,h=>by
  simp only [Fq,Bool.and_eq_true,decide_eq_true_eq] at hc;rw [dD,Nat.add_right_comm];refine wpAnyH_all hc.1 (by simp) fun m hm=> ?_
  have e:m=k:=by simpa using hm
  subst e;have hi:l.toArray[m]?=some (nth l m):=by
   have:=vH (ops:=l.toArray) (listed:=seen) (i:=m) (by rw [hc.1];simp);simpa using vG (l:=l) (by simpa using this)
  simp only [cm] at h;unfold dU at h;unfold wpOp;simp only [hi];split
  ·rename_i hw
   rw [if_pos hw] at h;exact .inl (Oper.wp_mono (fun b v hb=>⟨hb.1,SU hlen hs hQ π _ _ _ hc.2 hb.1 hb.2⟩) (aCk h))
  ·rename_i hw
   rw [if_neg hw] at h;exact ⟨h.1,SU hlen hs hQ π _ _ _ hc.2 h.1 h.2⟩
theorem Zh{a:Act}{w:World}{l:List Oper}(S:World->Prop)(e:List (Nat×Bool))(i j:Nat)(f rb:List (Nat×Bool))(g:P.follows .mixedOrders=true)(b:(Region.noSelect l.toArray&&Fq l.toArray i j f rb e (Array.replicate l.toArray.size false)&&decide (f.length=rb.length)&&decide (e.length+(f.length+1)=l.toArray.size))=true)(h:∀c a d v w,Q (.panic c) (Act.put a d v) w->Q (.panic c) a w)(c:S w.drew)(d:dU P l.toArray (Nt P l S ((i,true)::f) ((j,true)::rb) Q) S (cm l e) a w.drew):(Code.region id l.toArray true).wp P Q a w:=by simp only[Bool.and_eq_true,decide_eq_true_eq]at b;refine wp_region_held (S:=S) g ?_;rw[<-b.2];exact SU b.1.2 b.1.1.1 h e _ _ _ (by rw[b.2];exact b.1.1.2) c d
theorem Zi{l:List Oper}{b c:List (Nat×Bool)}{a:Act}(ha:dU P l.toArray Q S (cm l b) a w)(d:dU P l.toArray Q S (cm l c) a w):Nt P l S b c Q .normal a w:=⟨ha,d⟩
theorem SV {l:List Oper} (hs:Region.noSelect l.toArray=true) (hQ:∀ c a o v w,o∈l→Q (.panic c) (Act.put a o.dst v) w→Q (.panic c) a w):∀ (π:List (Nat×Bool)) (listed:Array Bool) (a:Act) (w:World),
  pH l.toArray π listed=true→S w→dU P l.toArray Q S (cm l π) a w→wpAnyH P .any l.toArray Q S π.length listed a w
 | [],listed,a,w,hc,hS,h=>wpAnyH_done (by simpa [pH] using hc) (by simpa only [cm,dU] using h) _
 |(i,false)::rest,listed,a,w,hc,hS,h=>by
  simp only [pH,Bool.and_eq_true] at hc;simp only [cm,dU] at h;obtain ⟨v,hy,hr⟩:=h;have hi:=vH (by simpa using hc.1.1);have hn:=vG (l:=l) (by simpa using hi);exact wpAnyH_take (by simpa using hn) hs hc.1.2 hc.1.1 (fun c a w=>hQ c a _ _ w (dm hn)) hy hS (SV hs hQ rest _ _ _ hc.2 hS hr)
 |(i,true)::rest,listed,a,w,hc,hS,h=>by
  simp only [pH,Bool.and_eq_true,decide_eq_true_eq] at hc;refine wpAnyH_all hc.1 (by simp) fun j hj=> ?_
  have iM:j=i:=by simpa using hj
  subst iM;have hi:l.toArray[j]?=some (nth l j):=by
   have:=vH (ops:=l.toArray) (listed:=listed) (i:=j) (by rw [hc.1];simp);simpa using vG (l:=l) (by simpa using this)
  simp only [cm,dU] at h;unfold wpOp;simp only [hi];split
  ·rename_i hw
   rw [if_pos hw] at h;exact .inl (Oper.wp_mono (fun a' w' h'=>⟨h'.1,SV hs hQ rest _ _ _ hc.2 h'.1 h'.2⟩) h)
  ·rename_i hw
   rw [if_neg hw] at h;exact ⟨h.1,SV hs hQ rest _ _ _ hc.2 h.1 h.2⟩
theorem aCl{a:Act}{w:World}{l:List Oper}(S:World->Prop)(d:List (Nat×Bool))(e:P.follows .mixedOrders=true)(b:(Region.noSelect l.toArray&&pH l.toArray d (Array.replicate l.toArray.size false)&&decide (d.length=l.toArray.size))=true)(f:∀c a o v w,o∈l->Q (.panic c) (Act.put a o.dst v) w->Q (.panic c) a w)(c:S w.drew)(g:dU P l.toArray Q S (cm l d) a w.drew):(Code.region id l.toArray true).wp P Q a w:=by simp only[Bool.and_eq_true,decide_eq_true_eq]at b;refine wp_region_held (S:=S) e ?_;rw[<-b.2];exact SV b.1.1 f d _ _ _ (by rw[b.2];exact b.1.2) c g
end aCj
end Go.Gl
