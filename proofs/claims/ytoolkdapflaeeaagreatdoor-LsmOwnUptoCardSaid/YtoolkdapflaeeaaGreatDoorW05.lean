/- Helpers. -/
import Derived.Test.YtoolkdapflaeeaaGreatDoorW03
import Derived.Test.YtoolkdapflaeeaaGreatDoorW04
import Derived.Test.YtoolkdapflaeeaaGreatDoorW02
import Derived.Deep.CutBlock
import Derived.Deep.DeepCutAuto
import Derived.Test.YtoolkdapflaeeaaGreatDoorW00
set_option maxRecDepth 100000
set_option maxHeartbeats 16000000
set_option linter.unusedSimpArgs false
open Go
variable{B B' C K T Z a d i k lb m n p p' qb r rb s sb:Nat}{F F':Nat→Prop}{W W' w w' w1 wr:World}{av bv dv pv tv v x0 x1 x2 x3 x4:Value}{born used:Int}{cs:Array Value}{f fz:Nat × Nat}{l nm x:List UInt8}{ns:List Nat}
namespace Go.Proofs.YtoolkdapflaeeaaGreatDoor
open Go.RowKit Go.Gl Go.aF Mn
theorem azH{l:List Tb}(a:Own B w v l):uD w v l:=by
 rcases a.2 with⟨rfl,b⟩|⟨c,d,d,rfl,d,d,e⟩
 .have e:l=[]:=je b;subst e;exact ayp w
 .exact⟨_,_,rfl,.inr ⟨c,0,rfl,af d,xS rL a⟩⟩
theorem azI{t:Array Value}(a:t.getD 2 undef=.pointer (some ⟨rb,0,none⟩))(b:w.heap[rb]?=some (.cells #[x0,x1,x2,x3] 85 (0,0))):
  (results Tryz.f31 t).run Tryz.prog w=.ok (.agg #[x0,x1,x2,x3]) w:=by
 obtain⟨c,d,e,f⟩:=dJ b;simp only[gZ]at a;simp[results,Tryz.results31,go_sem,a,c,d,e,f]
theorem Yb{V:bM}{n:Int}(c:eH w sb p tv V n)(a:Own B w tv V.tabs)(h:V.tabs.length<1000000000):
  Calls Tryz.prog 31 #[.pointer (some ⟨sb,0,none⟩)] w λe w'=>∃v',e=.returned (.agg (bS v' V.seq V.next V.wal))/\Own w.heap.size w' v' V.tabs/\Grow w w':=by
 have b:Grow w (w.alloc (.cells (bS (.slice none 0 0) 0 0 0) 85)):=ar _ _;have d:=ax w (.cells (bS (.slice none 0 0) 0 0 0) 85);have f:=c.grow b;obtain⟨_,k,l,m,n,_,o⟩:=f.cells;have g:=ae (agp (fB a b) h V.seq V.next V.wal);obtain⟨h,h,rfl⟩:=km a;have i:=ae d;have h:=ae b;have j:(w.alloc (.cells (bS (.slice none 0 0) 0 0 0) 85)).heap.size=w.heap.size+1:=by simp
 clear c f a d b;go_enter Tryz.func31,Tryz.ntmps31
 go_upto_region 1 with fail
 generalize w.alloc (.cells (bS (.slice none 0 0) 0 0 0) 85)=w1 at*
 go_wp2_with fail
 (with_reducible refine g.out.mono ?_);rintro e b ⟨v,rfl,c,d⟩;have b:=d.heap i.out;obtain⟨e,e,e,e⟩:=dJ b;have e:=af b;have e:=bG b;obtain⟨e,f,rfl⟩:=km c;have i:=BK b (.slice e V.tabs.length f) (.int .u64 V.seq) (.int .i64 V.next) (.int .i64 V.wal);have a:=Ek (rK c h.out.size) b (.slice e V.tabs.length f) (.int .u64 V.seq) (.int .i64 V.next) (.int .i64 V.wal);have j:=xV (h.out.trans d) (aw _) (.slice e V.tabs.length f) (.int .u64 V.seq) (.int .i64 V.next) (.int .i64 V.wal);have e:=ae (ag i (ag a j));clear c d b i a j k l m n o g;go_wp2;exact bodyPost_ret (azI rfl e.out.1) rfl ⟨_,rfl,e.out.2.1,e.out.2.2⟩
structure Rl(B r:Nat)(w w':World):Prop where
 hold:iB r w w'
 below:Below B w w'
theorem Rl.refl(B r:Nat)(w:World):Rl B r w w:=⟨iB.refl r w,bW _ _⟩
theorem Rl.trans{a b c:World}(d:Rl B r a b)(k:Rl B r b c):Rl B r a c:=⟨d.hold.trans k.hold,d.below.trans k.below⟩
theorem Rl.grow(a:Grow w w')(b:B<=w.heap.size):Rl B r w w':=⟨iB.grow a,a.mono b⟩
theorem Rl.sep{f:Lk}(a:Dl Z B w p r f T K F)(b:Sep F w w' F'):Rl B r w w':=
 ⟨iB.sep a b,b.below (λ_ b=>(a.foot b).1) a.base⟩
theorem Rl.set(a:w.heap[sb]?=some (.cells cs 154 f))(b:B<=sb)(j:Nat)(v:Value):Rl B r w (w.setCell ⟨sb,j,none⟩ v):=
 ⟨iB.set (r:=r) a j v,(bW _ _).setCell (p:=⟨sb,j,none⟩) b v⟩
theorem Dl.IY{f:Lk}(c:Dl Z B w p r f T K F)(e:w.heap[sb]?=some (.cells cs 154 fz))(j:Nat)(v:Value):Dl Z B (w.setCell ⟨sb,j,none⟩ v) p r f T K F:=by
 have g:=c.apart e (by decide) (by decide) (by decide);obtain⟨h,⟨i,k,born,d,a,l,m⟩,n,o,q⟩:=c;subst m;obtain⟨m,s,t⟩:=a.map;have c:∀b,dH p r d b->(w.setCell ⟨sb,j,none⟩ v).heap[b]?=w.heap[b]?:=λb j=>aN _ _ _ _ (λu=>g (by have g:b=sb:=u;subst g;exact j))
 refine⟨h,⟨i,k,born,d,⟨(c p (.inl rfl)).trans a.self,⟨m,(c r (.inr (.inl rfl))).trans s,t⟩,a.names,a.uj,a.uk,a.rows,λf g=>?_,a.base.1,a.base.2.1,by simpa using a.base.2.2⟩,l,rfl⟩,n,o,q⟩;have d:=a.files f g;exact⟨(c _ (.inr (.inr ⟨f,g,.inl rfl⟩))).trans d.cell,d.row.keep (λb e=>c b (.inr (.inr ⟨f,g,.inr e⟩))),d.base,d.sync⟩
theorem aia(e:Bv w v x)(f:∀b,v.ownBlock=some b->¬F b)(d:Sep F w w' F'):Bv w' v x:=by
 obtain⟨a,g,rfl,h,i,j,c⟩:=e;refine⟨a,g,rfl,h,i,j,?_⟩;rcases c with c|⟨b,o,rfl,hb,hc⟩
 .exact .inl c
 .refine .inr ⟨b,o,rfl,bF hb d.size,λa k c=>?_⟩;rw[<-hc a k c];simp only[World.cell?,d.out b hb (f b rfl)]
abbrev lJ(n:Nat):List UInt8:=Lib.decDigits n
def RX(n:Nat)(x:List UInt8)(f:Lk):Lk:=(f.set (dt n) (x,x.length)).set uz (lJ n,(lJ n).length)
theorem Lk.aib{f:Lk}{m n:ByteArray}{q:List UInt8×Nat}(a:f m=none)(b:m≠n):(f.set n q) m=none:=by rw[iC f b];exact a
theorem azJ{f:Lk}(a:f rH=none):((((f.set (dt n) (x,x.length)).set rH (lJ n,(lJ n).length)).del rH).set uz (lJ n,(lJ n).length))=RX n x f:=by rw[afR,WS (Lk.aib a (Ne.symm (QP n)))];rfl
theorem azK{N:Nat}{p:Nat}{f:Lk}{sb:Nat}{tv:Value}{V:bM}{m:Int}(k:eH w sb p tv V m)(l:Dl Z B w p r f T K F)(C:B<=sb)(c:df N B w){n:Nat}(o:n<N)(g:n<1000000)(h:Bv w bv x)(y:x.length<=1000000000000)(q:∀b,bv.ownBlock=some b->¬F b)(s:f rH=none)(a:T+x.length+6<=Z):
  Calls Tryz.prog 135 #[.pointer (some ⟨sb,0,none⟩),.int .i64 n,bv] w λe w'=>e=.returned .nilIface/\eH w' sb p tv V n/\(∃T' F',T'<=T+x.length+6/\Dl Z B w' p r (RX n x f) T' (K+3) F')/\Rl B r w w':=by
 have d:=Iz g;have D:(lJ n).length<=6:=d;obtain⟨a,a,rfl⟩:=h.slice;have t:=ae (LS c o g);have a:=ae l;have i:=ae k;have u:=ae c;have j:=ae h;have v:=ae q;clear l k c h q;go_enter Tryz.func135,Tryz.ntmps135
 go_wp2_with fail
 (with_reducible refine t.out.mono ?_);rintro e w1 ⟨rfl,c⟩;have l:Em Z (dt n) x f T=(true,f.set (dt n) (x,x.length),T-lF f (dt n)+x.length):=if_pos (by omega);have h:=ae (agM (i.out.grow c) (a.out.grow c) (afI g) (j.out.grow c) y (λw' F' k=>aia (j.out.grow c) v.out k));rw[l]at h;have q:=ae c;clear c l t
 go_wp2_with fail
 (with_reducible refine h.out.mono ?_);rintro e g ⟨rfl,E,t,w⟩;have c:=(Sep.bO (F:=F) q.out).trans w;have y:=u.out.keep (w':=g) (λb z=>c.out b (by have:=a.out.base;omega) (λl=>by have:=(a.out.foot l).1;omega));have A:=ae (y n o g (λ_ _=>rfl));have o:=ae (i.out.sep a.out c);have g:=ae t;have B:=ae (Rl.sep a.out c);clear w t c y h q j v a i u;have q:okC true=0:=rfl;rw[q]
 go_wp2_with fail
 (with_reducible refine A.out.mono ?_);rintro e c ⟨rfl,h⟩;obtain⟨t,w,a,u,i⟩:=BG ⟨(Lib.decDigits n).toArray⟩ (by simp[ByteArray.size];omega) c;have a:=h.trans i;have i:=g.out.grow a;have v:∀b,(Value.slice (some ⟨c.heap.size,0,none⟩) (ByteArray.size ⟨(Lib.decDigits n).toArray⟩) t).ownBlock=some b->¬E b:=λb z l=>by
  have e:c.heap.size=b:=by simpa[Value.ownBlock]using z
  have:=(g.out.foot l).2;have:=h.size;omega
 have j:Bv w (.slice (some ⟨c.heap.size,0,none⟩) (ByteArray.size ⟨(Lib.decDigits n).toArray⟩) t) (Lib.decDigits n):=by simpa using u
 have b:lF (f.set (dt n) (x,x.length)) rH=0:=by unfold lF;rw[Lk.aib s (Ne.symm (QP n))]
 have l:Em Z rH (Lib.decDigits n) (f.set (dt n) (x,x.length)) (T-lF f (dt n)+x.length)=(true,(f.set (dt n) (x,x.length)).set rH (lJ n,(lJ n).length),T-lF f (dt n)+x.length-lF (f.set (dt n) (x,x.length)) rH+(lJ n).length):=if_pos (by rw[b];omega);have b:=ae (agM (o.out.grow a) i awt j (by omega) (λw' F' k=>aia j v k));rw[l]at b;have c:=ae i;have k:=ae (o.out.grow a);have t:=ae (B.out.trans (Rl.grow (r:=r) a g.out.base));have f:ByteArray.size ⟨(Lib.decDigits n).toArray⟩=(Lib.decDigits n).length:=by simp[ByteArray.size]
 clear u j v i a l h A g o B;rw[f]at b
 go_wp2_with fail
 (with_reducible refine b.out.mono ?_);rintro e a ⟨rfl,a,h,a⟩;have f:=k.out.sep c.out a;have i:=ae (t.out.trans (Rl.sep c.out a));obtain⟨j,_,_,_,_,_,l⟩:=f.cells;have g:=ae h;have o:=ae f;clear h a f b c k t;rw[q]
 go_wp2_with fail
 (with_reducible refine(awR g.out (Ne.symm awr) aws (sN _ _ _)).mono ?_);rintro e b ⟨rfl,k,d,c⟩;rw[azJ s]at d;have e:=o.out.sep g.out c;have f:=i.out.trans (Rl.sep g.out c);have a:b.heap[sb]?=some (.cells (setCells p tv V m) 154 (0,0)):=e;have g:=af a;have g:b.cell? ⟨sb,5,none⟩=some (.int .i64 m):=by simp[World.cell?,a]
 have g:=bG a;have g:eH (b.setCell ⟨sb,5,none⟩ (.int .i64 (n:Int))) sb p tv V n:=Go.Gl.aK a 5 _;have h:=d.IY a 5 (.int .i64 (n:Int));have i:=f.trans (Rl.set (r:=r) a C 5 (.int .i64 (n:Int)));have b:=ae (ag g (ag h i));clear d c e f a g h i j l;go_wp2;go_ret;exact⟨rfl,b.out.1,⟨_,k,by have:=D;omega,b.out.2.1⟩,b.out.2.2⟩
structure nd(W W':World):Prop where
 keep:∀(b:Nat)(arr:Array Value)(t:TypeId)(f:Nat×Nat),W.heap[b]?=some (.cells arr t f)->t≠85->W'.heap[b]?=some (.cells arr t f)
 ver:∀(b:Nat)(cs:Array Value),W.heap[b]?=some (.cells cs 85 (0,0))->cs.size=4->∃cs':Array Value,W'.heap[b]?=some (.cells cs' 85 (0,0))/\cs'.size=4
theorem nd.refl(W:World):nd W W:=⟨λ_ _ _ _ a _=>a,λ_ cs a b=>⟨cs,a,b⟩⟩
theorem nd.grow(b:Grow W W'):nd W W':=⟨λ_ _ _ _ a _=>b.heap a,λ_ cs a c=>⟨cs,b.heap a,c⟩⟩
theorem nd.own(c:nd W W'){l:List Tb}(a:Own B W v l):Own B W' v l:=xY a λb d=>by obtain⟨b,b,_⟩:=sT a d;rw[c.keep _ _ _ _ b (by decide),b]
def EJ(B sb:Nat)(tv av dv:Value)(V:bM)(a:cO)(r:Int×bM)(j:Nat)(v:Value)(W:World):Prop:=
 match j with
 |0=>v=.pointer (some ⟨sb,0,none⟩)
 |1=>v=.pointer (some ⟨sb,0,none⟩)
 |2=>v=.pointer (some ⟨sb,1,none⟩)
 |3=>v=.agg (bS tv V.seq V.next V.wal)
 |4=>v=.agg (dY av dv a.seq a.next a.wal)
 |5=>∃b:Nat,v=.slice (some ⟨b,0,none⟩) 1 1/\W.heap[b]?=some (.cells (dY av dv a.seq a.next a.wal) 148 (0,0))
 |6=>∃a,v=.tuple #[.agg (bS a r.2.seq r.2.next r.2.wal),.int .i64 r.1]/\Own B W a r.2.tabs
 |7=>∃a,v=.tuple #[.agg (bS a r.2.seq r.2.next r.2.wal),.int .i64 r.1]/\Own B W a r.2.tabs
 |8=>∃a,v=.agg (bS a r.2.seq r.2.next r.2.wal)/\Own B W a r.2.tabs
 |9=>v=.int .i64 r.1
 |10=>∃(a:Nat)(cs:Array Value),v=.pointer (some ⟨a,0,none⟩)/\B<=a/\W.heap[a]?=some (.cells cs 85 (0,0))/\cs.size=4
 |12=>v=.int .i64 r.1
 |_=>True
theorem EJ.keep{V:bM}{a:cO}{r:Int×bM}:∀(j:Nat)(v:Value)(W W':World),nd W W'->EJ B sb tv av dv V a r j v W->EJ B sb tv av dv V a r j v W':=by
 intro j v W W' d a;unfold EJ at a
 split at a<;>first
  |exact a
  |(obtain⟨e,b,c⟩:=a;exact⟨e,b,d.keep _ _ _ _ c (by decide)⟩)
  |(obtain⟨e,b,c⟩:=a;exact⟨e,b,d.own c⟩)
  |(obtain⟨e,cs,b,c,f,g⟩:=a;obtain⟨a,h,i⟩:=d.ver _ _ f g;exact⟨e,a,b,c,h,i⟩)
  |(unfold EJ;split<;>first|trivial|(exfalso;simp_all))
def oA(w1:World)(r:Int×bM)(l:Array Bool)(a:Act)(W:World):Prop:=
 Grow w1 W/\(l.getD 11 false=true->∃(b:Nat)(c:Value),a.tmps[5]?=some (.pointer (some ⟨b,0,none⟩))/\w1.heap.size<=b/\W.heap[b]?=some (.cells (bS c r.2.seq r.2.next r.2.wal) 85 (0,0))/\Own w1.heap.size W c r.2.tabs)
theorem oA.mf{r:Int×bM}{l:Array Bool}{b:Act}(i:Nat)(hi:i≠11)(c:l.getD 11 false=false)(a:Grow w1 W'):oA w1 r (l.setIfInBounds i true) b W':=
 ⟨a,λa=>by rw[getD_set_ne false hi,c]at a;cases a⟩
theorem oA.next{r:Int×bM}{l:Array Bool}{a:Act}(b:oA w1 r l a W)(hi:i≠11)(c:d≠5):oA w1 r (l.setIfInBounds i true) (a.put (some d) v) W:=
 ⟨b.1,λa=>by obtain⟨d,e,f,g⟩:=b.2 (by rw[getD_set_ne false hi]at a;exact a);exact⟨d,e,jN c f,g⟩⟩
theorem azO(a:cs.size=4):∃x0 x1 x2 x3,cs=#[x0,x1,x2,x3]:=by
 obtain⟨l⟩:=cs
 match l,a with
 | [x0,x1,x2,x3],_=>exact⟨_,_,_,_,rfl⟩
theorem azP{f:Lk}{V:bM}{n:Int}(e:eH w sb p' tv V n)(g:Dl Z B w p r f T K F)(c:B<=sb)(b:Value)(a:bM):
  eH ((((w.setCell ⟨sb,1,none⟩ b).setCell ⟨sb,2,none⟩ (.int .u64 a.seq)).setCell ⟨sb,3,none⟩ (.int .i64 a.next)).setCell ⟨sb,4,none⟩ (.int .i64 a.wal)) sb p' b a n/\
  Dl Z B ((((w.setCell ⟨sb,1,none⟩ b).setCell ⟨sb,2,none⟩ (.int .u64 a.seq)).setCell ⟨sb,3,none⟩ (.int .i64 a.next)).setCell ⟨sb,4,none⟩ (.int .i64 a.wal)) p r f T K F/\
  Rl B r w ((((w.setCell ⟨sb,1,none⟩ b).setCell ⟨sb,2,none⟩ (.int .u64 a.seq)).setCell ⟨sb,3,none⟩ (.int .i64 a.next)).setCell ⟨sb,4,none⟩ (.int .i64 a.wal)):=by
 have d:w.heap[sb]?=some (.cells (setCells p' tv V n) 154 (0,0)):=e;have e:=Go.Gl.aK d 1 b;have b:=Go.Gl.aK e 2 (.int .u64 a.seq);have f:=Go.Gl.aK b 3 (.int .i64 a.next);have h:=Go.Gl.aK f 4 (.int .i64 a.wal);exact⟨h,(((g.IY d 1 _).IY e 2 _).IY b 3 _).IY f 4 _,(((Rl.set (r:=r) d c 1 _).trans (Rl.set (r:=r) e c 2 _)).trans (Rl.set (r:=r) b c 3 _)).trans (Rl.set (r:=r) f c 4 _)⟩
abbrev S4(sb p eb:Nat)(n:Int)(x0 x1 x2 x3 x4:Value)(W:World):Prop:=
 (W.cell? ⟨sb,0,none⟩=some (.pointer (some ⟨p,0,none⟩))/\W.cell? ⟨sb,5,none⟩=some (.int .i64 n)/\sb<W.heap.size)/\
 (W.cell? ⟨eb,0,none⟩=some x0/\W.cell? ⟨eb,0+1,none⟩=some x1/\W.cell? ⟨eb,0+2,none⟩=some x2/\W.cell? ⟨eb,0+3,none⟩=some x3/\W.cell? ⟨eb,0+4,none⟩=some x4/\eb<W.heap.size)
theorem Jb{eb:Nat}{V:bM}{n:Int}(b:eH W sb p tv V n)(a:W.heap[eb]?=some (.cells #[x0,x1,x2,x3,x4] 148 (0,0))):S4 sb p eb n x0 x1 x2 x3 x4 W:=by obtain⟨c,_,_,_,_,d,e⟩:=b.cells;obtain⟨b,f,g,h,i⟩:=dI a;exact⟨⟨c,d,e⟩,b,f,g,h,i,af a⟩
end Go.Proofs.YtoolkdapflaeeaaGreatDoor
namespace Go.Proofs.YtoolkdapflaeeaaGreatDoor
open Go.RowKit Go.Gl Go.aF Go.Sort
def ng(name:List UInt8)(n:Nat):List UInt8:=name++45::fN n
def bJ(name:List UInt8)(n:Nat):ByteArray:=⟨(ng name n).toArray⟩
theorem zU{N:Nat}(a:df N B w)(b:n<N)(c:n<1000000){name:List UInt8}(d:name.length<=64):
  Calls Tryz.prog 79 #[.string ⟨name.toArray⟩,.int .i64 n] w λe w'=>e=.returned (.string (bJ name n))/\Grow w w':=by
 have d:=Iz c;have c:=ae (a n b w (λ_ _=>rfl));clear a;go_enter Tryz.func79,Tryz.ntmps79
 go_wp2_with fail
 (with_reducible refine c.out.mono ?_);rintro e w1 ⟨rfl,a⟩;have b:=ae a;clear a
 go_wp2_with fail
 go_loopw [5] (λa wr=>afD w n a wr) (λa _=>6-(match a with| .string s=>s.size|_=>0))
 case atStart=>exact⟨0,by simp,.inl rfl,b.out⟩
 case round=>
  obtain⟨k,rfl,a,a⟩:=hrel;have b:=ae a;clear a;have a:(⟨(List.replicate k 48++Lib.decDigits n).toArray⟩:ByteArray).size=k+(Lib.decDigits n).length:=by simp[ByteArray.size]
  by_cases a:k+(Lib.decDigits n).length<6
  .have a:(k:Int)+((Lib.decDigits n).length:Int)<6:=by omega
   have c:¬9223372036854775807<1+(k+(Lib.decDigits n).length):=by omega
   go_wp2;go_roundw
   case rel=>refine⟨k+1,?_,.inr (by omega),b.out⟩;rw[show(⟨#[48]⟩:ByteArray)=⟨([48]:List UInt8).toArray⟩from rfl,xP,List.replicate_succ];rfl
   case measure=>rw[show(⟨#[48]⟩:ByteArray)=⟨([48]:List UInt8).toArray⟩from rfl,xP];simp only[ByteArray.size,List.size_toArray,aM,List.length_replicate,dD,iJ];omega
  .have a:¬(k:Int)+((Lib.decDigits n).length:Int)<6:=by omega
   have d:decide ((k:Int)+((Lib.decDigits n).length:Int)<6)=false:=by simpa using a
   have a:¬9223372036854775807<name.length+1:=by omega
   have c:¬9223372036854775807<name.length+1+(k+(Lib.decDigits n).length):=by omega
   have a:k=6-(Lib.decDigits n).length:=by omega
   have c:=ae a;clear a;go_wp2;go_ret;refine⟨?_,b.out⟩;rw[show(⟨#[45]⟩:ByteArray)=⟨([45]:List UInt8).toArray⟩from rfl,xP,xP,bJ,ng,fN,<-c.out];simp
abbrev cy:List UInt8:=[119,97,108]
structure eA(w:World)(lb p:Nat)(nm:List UInt8)(last:Int):Prop where
 self:w.heap[lb]?=some (.cells #[.pointer (some ⟨p,0,none⟩),.string ⟨nm.toArray⟩,.int .i64 last] 167 (0,0))
theorem eA.cells{last:Int}(a:eA w lb p nm last):w.cell? ⟨lb,0,none⟩=some (.pointer (some ⟨p,0,none⟩))/\w.cell? ⟨lb,1,none⟩=some (.string ⟨nm.toArray⟩)/\w.cell? ⟨lb,2,none⟩=some (.int .i64 last)/\lb<w.heap.size:=by refine⟨?_,?_,?_,af a.self⟩<;>simp[World.cell?,a.self]
theorem eA.grow{last:Int}(a:eA w lb p nm last)(b:Grow w w'):eA w' lb p nm last:=⟨b.heap a.self⟩
theorem azQ(w:World):Calls Tryz.prog 95 #[.string ⟨#[119,97,108]⟩] w λe w'=>e=.returned (.bool true)/\w'=w:=by
 go_enter Tryz.func95,Tryz.ntmps95
 go_wp2_with fail
 refine wp_loop_rounds 4 ?_;rw[rounds_succ];go_wp2;rw[rounds_succ];go_wp2;rw[rounds_succ];go_wp2;rw[rounds_succ];go_wp2;go_ret;exact⟨rfl,rfl⟩
theorem eA.sep{last:Int}{V:Vw}(a:eA w lb p nm last)(b:Dk Z B w p' r V F)(c:Sep F w w' F'):eA w' lb p nm last:=
 ⟨(c.out lb (af a.self) (b.apart a.self (by decide) (by decide) (by decide))).trans a.self⟩
theorem df.dk{N:Nat}{V:Vw}(c:df N B w)(a:Dk Z B w p r V F)(d:Sep F w w' F'):df N B w':=
 c.keep (λb c=>d.out b (by have:=a.base;omega) (λb=>by have:=(a.foot b).1;omega))
structure Cl(nm:List UInt8):Prop where
 pos:1<=nm.length
 len:nm.length<=32
 ok:∀c∈nm,Br c=true
theorem Jc:Cl cy:=⟨by decide,by decide,by decide⟩
theorem Ye(b:Cl nm)(a:n<1000000):lA (bJ nm n):=by
 have c:=b.pos;have c:=b.len;have c:=zG a;refine LR (by simp[ng];omega) (by simp[ng,c];omega) ?_;intro c a;rcases dn.1 a with a|a
 .exact b.ok c a
 .rcases bI.1 a with rfl|a
  .decide
  .rcases dn.1 a with a|a
   .rw[(List.mem_replicate.1 a).2];decide
   .exact WK (LQ n c a)
theorem EK(a:bJ nm m=bJ nm n):m=n:=by
 have c:ng nm m=ng nm n:=by have:=congrArg (λb:ByteArray=>b.data.toList) a;simpa[bJ]using this
 have b:fN m=fN n:=by simpa[ng]using c
 have a:=Ec m;rw[b,Ec n]at a;cases a;rfl
theorem azR(nm:List UInt8)(n:Nat)(w:World):Calls Tryz.prog 91 #[.string (bJ nm n),.string ((⟨nm.toArray⟩:ByteArray)++⟨#[45]⟩)] w λe w'=>e=.returned (.string ⟨(fN n).toArray⟩)/\w'=w:=by
 have a:((⟨nm.toArray⟩:ByteArray)++⟨#[45]⟩).data.toList=nm++[45]:=by rw[xP nm [45]]
 have b:(bJ nm n).data.toList=nm++45::fN n:=rfl;generalize bJ nm n=s at*;generalize (⟨nm.toArray⟩:ByteArray)++⟨#[45]⟩=p at*;refine(afH s p w).mono ?_;rintro e w' ⟨c,d⟩;refine⟨?_,d⟩;have d:nm++45::fN n=(nm++[45])++fN n:=by simp
 have e:Lib.trimPrefix ((nm++[45])++fN n) (nm++[45])=fN n:=by unfold Lib.trimPrefix Lib.hasPrefix;rw[if_pos (List.isPrefixOf_iff_prefix.2 (List.prefix_append _ _))];exact List.drop_left ..
 rw[c,a,b,d,e]
theorem azS{V:Vw}(h:Dk Z B w p r V F)(nI:V.length<1000000000)(pf:ByteArray)(hq:w.heap[qb]?=some (.cells #[.string pf] 9 (0,0))):
  Calls Tryz.prog 33 #[.pointer (some ⟨p,0,none⟩),.slice (some ⟨qb,0,none⟩) 1 1] w (Wy w (((V.map (·.1)).filter λs=>Lib.hasPrefix s.data.toList pf.data.toList).map λs=>s.data.toList)):=by
 obtain⟨hZ,h0,born,fs,h1,rfl,rfl⟩:=h;have:=afs h1 (by simpa[vw]using nI) pf hq;have he:pick (λs=>Lib.hasPrefix s.data.toList pf.data.toList) (fs.map Fe.aB)=(((vw fs).map (·.1)).filter λs=>Lib.hasPrefix s.data.toList pf.data.toList).map λs=>s.data.toList:=by unfold pick;rw[WR,List.filter_map,List.filter_map,fh,fh];rfl
 rw[he]at this;exact this
def oB(B:Nat)(w:World)(v:Value)(ns:List Nat):Prop:=Go.Gl.Row1 3 B w v (ns.map λn:Nat=>Value.int .i64 n)
theorem aid(B:Nat)(w:World):oB B w (.slice none 0 0) []:=oM _ _ _
theorem oB.slice(b:oB B w v ns):∃a c,v=.slice a ns.length c:=by obtain⟨a,c,rfl⟩:=Row1.slice b;exact⟨a,c,by simp⟩
theorem oB.grow(a:oB B w v ns)(b:Grow w w'):oB B w' v ns:=Row1.grow a b
theorem azT(n:Nat)(b:oB B w v ns)(c:B<=w.heap.size)(a:ns.length+1<=1000000000000):
  ∃v' w',(Builtin.append_ #[24,24] 24 #[v,.slice (some ⟨w.heap.size,0,none⟩) 1 1]).run Tryz.prog (w.alloc (.cells #[.int .i64 n] 3))=.ok v' w'/\oB B w' v' (ns++[n])/\Below B w w':=by
 have a:Grow w (w.alloc (.cells #[.int .i64 n] 3)):=ar _ _;have d:Src Tryz.prog 1 24 (.slice (some ⟨w.heap.size,0,none⟩) 1 1) 1 [.int .i64 n] (w.alloc (.cells #[.int .i64 n] 3)):=
  Src.ofSlice _ Tryz.underlying24 _ _ _ _ rfl (cell_one_new w _ _) (λx e=>by rw[cZ.1 e];rfl)
 obtain⟨v',w',e,f,g,h⟩:=zx (ty:=24) Tryz.underlying24 Tryz.QD rfl (Row1.grow b a) d (by simp;omega) (by rw[bA];unfold maxLen;omega) (by rw[bA];omega);refine⟨v',w',e,?_,Go.Gl.below_grown (a.mono c) (by simp;omega) (Row1.grow b a) g⟩;unfold oB;rw[dS];exact f
def ME(nm:List UInt8)(V:Vw):List (List UInt8):=((((V.map (·.1)).filter λs=>Lib.hasPrefix s.data.toList ((⟨nm.toArray⟩:ByteArray)++⟨#[45]⟩).data.toList).map λs=>s.data.toList)).mergeSort (λx a=>decide (x<=a))
def aie(w1:World)(ns:List Nat)(ov a:Value)(wr:World):Prop:=
 ∃i:Nat,a=.int .i64 i/\i<=ns.length/\oB w1.heap.size wr ov (ns.take i)/\Below w1.heap.size w1 wr
theorem azU{N:Nat}(hm:Cl nm){last:Int}{V:Vw}(hl:eA w lb p nm last)(h:Dk Z B w p r V F)(hN:df N B w)(nI:V.length<1000000000){ns:List Nat}(ki:∀n∈ns,n<N/\n<1000000)(EG:ME nm V=ns.map (ng nm)):
  Calls Tryz.prog 99 #[.pointer (some ⟨lb,0,none⟩)] w λe w'=>∃v,e=.returned v/\oB w.heap.size w' v ns/\Grow w w':=by
 obtain⟨l0,l1,l2,ll⟩:=hl.cells;have hlen:¬9223372036854775807<nm.length+1:=by have:=hm.len;omega
 have H:=ae h;have HN:=ae hN;have Hl:=ae hl;clear hl h hN;go_enter Tryz.func99,Tryz.ntmps99
 go_wp2_with fail
 have aU:=Grow.cells (w:=w);refine oK (λW=>Below w.heap.size w W) [(0,false),(1,false),(2,false),(3,false),(4,false),(5,false),(6,false),(7,false),(8,false),(12,false),(9,true),(10,true),(11,false)] (by kernel_rfl) (by kernel_rfl) (bB λ_ _ _ _ _ h=>h) (ay _) ?_;simp only[cm,nth]
 repeat ((first|(apply az;rfl;rintro W hW;go_simp;with_reducible rfl)|(apply aA;rfl));simp only[ah,List.set])
 refine fK (by rfl) (λK hK=>?_);go_simp;refine hK _ _ ⟨(ay w).trans (ar _ _),?_⟩;clear hK K
 try simp only[ah,List.set,aC]
 have pW:=(ay w).trans (ar w.drew (.cells #[.string ((⟨nm.toArray⟩:ByteArray)++⟨#[45]⟩)] 9));refine bw (by rfl) (by go_simp) (azS (H.out.grow pW) nI _ (ax _ _)) ?_;rintro e w1 ⟨nv,rfl,hrow,hg1⟩;have tk:=pW.trans hg1;refine⟨_,rfl,tk,?_⟩;have iX:ns.length=(((V.map (·.1)).filter λs=>Lib.hasPrefix s.data.toList ((⟨nm.toArray⟩:ByteArray)++⟨#[45]⟩).data.toList).map λs=>s.data.toList).length:=by have:=congrArg List.length EG;rw[bA,ME,List.length_mergeSort]at this;exact this.symm
 have aMr:ns.length<1000000000:=by rw[iX,bA];have h9:=List.length_filter_le (λs:ByteArray=>Lib.hasPrefix s.data.toList ((⟨nm.toArray⟩:ByteArray)++⟨#[45]⟩).data.toList) (V.map (·.1));rw[bA]at h9;omega
 rw[<-iX]at hrow;unfold ME at EG;rw[EG]at hrow;clear iX EG;rcases hrow.2 with⟨rfl,iQ⟩|⟨gN,cap,cur,rfl,ji,BD,Eb,hcm,hcs,dN⟩
 .have azV:ns=[]:=je iQ
  subst azV;have Hg:=ae tk;clear pW hg1 hrow tk
  try simp only[ah,List.set,aC]
  repeat ((first|(apply az;rfl;rintro W hW;go_simp;with_reducible rfl)|(apply aA;rfl));simp only[ah,List.set])
  refine bg ?_
  go_wp2_with fail
  refine wp_loop_rounds 1 ?_;rw[rounds_succ];go_wp2;go_ret;exact⟨_,rfl,aid _ _,Hg.out⟩
 .have fM:∀(i n:Nat),ns[i]?=some n->∀W:World,W.heap[gN]?=some (.cells cur 9 (0,0))->W.cell? ⟨gN,i,none⟩=some (.string (bJ nm n)):=λi n hi W hW=>by
   have h2:((ns.map (ng nm)).map encStr)[i]?=some (.string (bJ nm n)):=by simp[hi,encStr,bJ]
   rw[<-dN,Nat.mul_one,List.getElem?_take]at h2
   split at h2
   .have h3:cur[i]?=some (.string (bJ nm n)):=by simpa using h2
    simp[World.cell?,hW,h3]
   .cases h2
  have zF:=ae fM;have Hg:=ae tk;have HgN:=ae BD;have Iu:=ae ki;have EM:=HN.out.grow tk H.out.base;have HN1:=ae EM;have MF:=ae (Hl.out.grow tk);have Ch:B<=w1.heap.size:=aJ H.out.base tk.size;clear pW hg1 hrow tk BD Eb hcm hcs dN ji fM ki EM l0 l1 l2 ll
  try simp only[ah,List.set,aC]
  repeat ((first|(apply az;rfl;rintro W hW;go_simp;with_reducible rfl)|(apply aA;rfl));simp only[ah,List.set])
  refine bg ?_
  go_wp2_with fail
  go_loopw [3,20] (λov iv wr=>aie w1 ns ov iv wr) (λ_ iv _=>ns.length-(intOf iv).toNat)
  case atStart=>exact⟨0,rfl,aY _,aid _ _,bW _ _⟩
  case round=>
   obtain⟨i,rfl,hi,hown,hb⟩:=hrel;by_cases hlt:i<ns.length
   .obtain⟨n,hn⟩:∃n,ns[i]?=some n:=⟨ns[i],by simp[hlt]⟩
    have hrow:wr.heap[gN]?=some (.cells cur 9 (0,0)):=(hb.block gN (af HgN.out)).trans HgN.out;have BF:=zF.out i n hn wr hrow;have lgN:=af hrow;obtain⟨hnN,Sc⟩:=Iu.out n (dm hn);have yn:eA wr lb p nm last:=⟨(hb.block lb (af MF.out.self)).trans MF.out.self⟩
    obtain⟨k0,k1,k2,kl⟩:=yn.cells;have zV:=HN1.out.keep (w':=wr) (λb hb'=>hb.block b (by omega));have Yf:=ae zV;have gw:=ae hown;have Hb:=ae hb;have Hn:=ae hn;have eN:(i:Int)<(ns.length:Int):=by omega
    have bU:(0:Int)<=(i:Int):=by omega
    have fT:IntKind.i64.wrap ((i:Int)+1)=(i:Int)+1:=aQ _ (by omega);obtain⟨oa,oc,uI⟩:=hown.slice;rw[List.length_take,Nat.min_eq_left hi]at uI;subst uI;clear zV hown hb hn hrow;have Ht:=ae (azR nm n);have Ha:=ae (afG Sc)
    go_wp2_with fail
    (with_reducible refine(Ht.out wr).mono ?_);rintro e w2 ⟨rfl,hw2⟩;have QO:=hw2.symm;subst QO;clear hw2
    go_wp2_with fail
    (with_reducible refine(Ha.out wr).mono ?_);rintro e w2 ⟨rfl,hg2⟩;have MG:=yn.grow hg2;obtain⟨j0,j1,j2,jl⟩:=MG.cells;have hs:=zU (Yf.out.grow hg2 (aJ Ch Hb.out.size)) hnN Sc (name:=nm) (by have:=hm.len;omega);have Hs:=ae hs;clear hs k0 k1 k2 kl yn MG
    go_wp2_with fail
    (with_reducible refine Hs.out.mono ?_);rintro e w3 ⟨rfl,hg3⟩;have mq:=hg2.trans hg3;obtain⟨v',w',r1,r2,r3⟩:=azT n (gw.out.grow mq) (aJ Hb.out.size mq.size) (by have:=List.length_take_le i ns;omega);have hrel:aie w1 ns v' (.int .i64 ((i:Int)+1)) w':=by refine⟨i+1,by simp,hlt,?_,(Hb.out.trans (mq.mono Hb.out.size)).trans r3⟩;rw[List.take_add_one,Hn.out];exact r2
    have aR:=ae hrel;have cU:=ae r1;clear hrel r1 r2 r3 mq hg3 hg2 j0 j1 j2 jl
    go_wp2_with (at_builtin;refine fP rfl rfl rfl rfl cU.out ?_)
    go_roundw
    case rel=>exact aR.out
    case measure=>simp[intOf];omega
   .have eN:ns.length<=i:=by omega
    have Sd:i=ns.length:=by omega
    rw[Sd,iA]at hown;have gw:=ae hown;have Hb:=ae hb;obtain⟨oa,oc,rfl⟩:=hown.slice;clear hown hb Sd;go_wp2;go_ret;exact⟨_,rfl,gw.out.mono Hg.out.size,Below.trans Hg.out (Hb.out.mono Hg.out.size)⟩
theorem Yg:∀(x:List UInt8)(a v:Nat),Lib.decFrom a x=some v->a*10^x.length<=v/\v<(a+1)*10^x.length
 | [],a,v,h=>by simp only[Lib.decFrom,Option.some.injEq]at h;subst h;simp
 |c::x,a,v,h=>by
  simp only[Lib.decFrom]at h;cases b:Lib.digitVal c with
  |none=>rw[b]at h;cases h
  |some d=>
   rw[b]at h;have c:d<10:=by
    unfold Lib.digitVal at b
    split at b
    .cases b;omega
    .cases b
   obtain⟨b,b⟩:=Yg x _ _ h;rw[dD,Nat.pow_succ];have b:a*(10^x.length*10)<=(a*10+d)*10^x.length:=by rw[Nat.add_mul,Nat.mul_assoc,Nat.mul_comm (10^x.length) 10];omega
   have b:(a*10+d+1)*10^x.length<=(a+1)*(10^x.length*10):=by rw[Nat.mul_comm (10^x.length) 10,<-Nat.mul_assoc];exact Nat.mul_le_mul_right _ (by omega)
   omega
theorem dec_lt:∀(x y:List UInt8)(e f v:Nat),x.length=y.length->Lib.decFrom e x=some f->Lib.decFrom e y=some v->x<y->f<v
 | [],[],_,_,_,_,_,_,h=>absurd h (List.lt_irrefl _)
 | [],_::_,_,_,_,hl,_,_,_=>by cases hl
 |_::_,[],_,_,_,hl,_,_,_=>by cases hl
 |c::x,d::y,e,f,v,hl,hu,hv,h=>by
  simp only[Lib.decFrom]at hu hv;cases b:Lib.digitVal c with
  |none=>rw[b]at hu;cases hu
  |some i=>
   cases a:Lib.digitVal d with
   |none=>rw[a]at hv;cases hv
   |some j=>
    rw[b]at hu;rw[a]at hv;have k:x.length=y.length:=by simpa using hl
    rcases List.cons_lt_cons_iff.1 h with g|⟨rfl,g⟩
    .have h:i<j:=by
      have h:c.toNat<d.toNat:=UInt8.lt_iff_toNat_lt.1 g;unfold Lib.digitVal at b a
      split at b
      .split at a
       .cases b;cases a;omega
       .cases a
      .cases b
     obtain⟨_,h⟩:=Yg _ _ _ hu;obtain⟨c,_⟩:=Yg _ _ _ hv;rw[<-k]at c;have c:(e*10+i+1)*10^x.length<=(e*10+j)*10^x.length:=Nat.mul_le_mul_right _ (by omega);dsimp only at hu hv;omega
    .rw[b]at a;cases a;exact dec_lt x y _ f v k hu hv g
theorem azY(a:m<n)(b:n<1000000):ng nm m<=ng nm n:=by
 intro a;have c:fN n<fN m:=by
  unfold ng at a
  induction nm with
  |nil=>
   rcases List.cons_lt_cons_iff.1 a with a|⟨_,a⟩
   .exact absurd a (by decide)
   .exact a
  |cons d nm d=>
   rcases List.cons_lt_cons_iff.1 a with a|⟨_,a⟩
   .exact absurd a (by rw[UInt8.lt_iff_toNat_lt];omega)
   .exact d a
 have:=dec_lt _ _ 0 n m (by rw[zG b,zG (by omega)]) (Ec n) (Ec m) c;omega
theorem azZ(b:a+k<=1000000):((List.range' a k).map (ng nm)).mergeSort (λx y=>decide (x<=y))=(List.range' a k).map (ng nm):=by apply List.mergeSort_of_pairwise;rw[List.pairwise_map];refine List.Pairwise.imp_of_mem ?_ (List.pairwise_lt_range' (s:=a) (n:=k) 1);intro x y a a b;have:=(List.mem_range'_1.1 a).2;exact decide_eq_true (azY b (by omega))
theorem Yh(nm:List UInt8)(n:Nat):(bJ nm n).data.toList=ng nm n:=by simp[bJ]
def ko(B:Nat)(F:Nat->Prop)(w:World)(v:Value)(ps:List (List UInt8)):Prop:=
 ∃a,Go.Gl.Row1 49 B w v a/\a.length=ps.length/\∀(i:Nat)(c:Value)(p:List UInt8),a[i]?=some c->ps[i]?=some p->aI B w c p/\∀b,c.ownBlock=some b->¬F b
theorem aAa(B:Nat)(F:Nat->Prop)(w:World):ko B F w (.slice none 0 0) []:=⟨[],oM _ _ _,rfl,λi a p a=>by simp at a⟩
theorem ko.own{ps:List (List UInt8)}(a:ko B F w v ps):mM B w v ps:=by obtain⟨b,c,d,e⟩:=a;exact⟨b,c,d,λi a p b c=>(e i a p b c).1⟩
theorem mM.apart{ps:List (List UInt8)}(c:mM B w v ps)(f:∀b,F b->b<B):ko B F w v ps:=by obtain⟨d,e,g,a⟩:=c;exact⟨d,e,g,λi c p d e=>⟨a i c p d e,λb g h=>by have:=((a i c p d e).lt g).1;have:=f b h;omega⟩⟩
theorem ko.grow{ps:List (List UInt8)}(c:ko B F w v ps)(a:Grow w w'):ko B F w' v ps:=by obtain⟨d,e,f,b⟩:=c;exact⟨d,e.grow a,f,λi c p d e=>⟨(b i c p d e).1.grow a,(b i c p d e).2⟩⟩
theorem ko.sep{ps:List (List UInt8)}{V:Vw}(a:ko B F w v ps)(e:Dk Z B' w p r V F)(c:Sep F w w' F'):ko B F' w' v ps:=by
 obtain⟨f,d,g,h⟩:=a;refine⟨f,d.keep (λf j=>?_),g,λi g k l m=>?_⟩
 .obtain⟨a,a⟩:=d.block j;exact c.out f (af a) (e.apart a (by decide) (by decide) (by decide))
 .obtain⟨d,e⟩:=h i g k l m;exact⟨d.keep (λb a=>c.out b (d.lt a).2 (e b a)),λb a=>(c.free (d.lt a).2 (e b a)).2.2⟩
theorem ko.slice{ps:List (List UInt8)}(b:ko B F w v ps):∃a c,v=.slice a ps.length c:=b.own.slice
theorem Row1.src{xs:List Value}(a:Go.Gl.Row1 49 B w v xs)(c:∀b∈xs,b.oneCell'=true):Src Tryz.prog 1 131 v xs.length xs w:=by
 rcases id a with⟨rfl,rfl⟩|⟨d,e,f,rfl,f,f,f,f,f,f⟩
 .exact Src.ofNil w Tryz.underlying131 0
 .refine Src.ofSlice w Tryz.underlying131 ⟨d,0,none⟩ xs.length e xs (by simp) (λd b b=>?_) c;rw[Addr.add_lit,Nat.zero_add];exact a.cells rfl b
theorem aAb{x:Value}{ps qs:List (List UInt8)}(a:ko B F w v ps)(c:ko B' F w x qs)(d:B<=w.heap.size)(r:B<=B')(e:ps.length+qs.length<=1000000000000):
  ∃v' w',(Builtin.append_ #[131,131] 131 #[v,x]).run Tryz.prog w=.ok v' w'/\ko B F w' v' (ps++qs)/\w.grownBy w' v.ownBlock/\(∀g,v.ownBlock=some g->B<=g/\∃m,w.heap[g]?=some (.cells m 49 (0,0))):=by
 obtain⟨n,f,h,s⟩:=a;obtain⟨j,e,k,o⟩:=c;have q:∀a∈j,a.oneCell'=true:=λa c=>by obtain⟨i,l,rfl⟩:=List.getElem_of_mem c;exact(o i j[i] (qs[i]'(by omega)) (by simp[l]) (by simp[show i<qs.length by omega])).1.aeU
 obtain⟨v',w',t,u,p,v⟩:=zx (ty:=131) Tryz.underlying131 Tryz.zy rfl f (Row1.src e q) d (by rw[h,k];unfold maxLen;omega) (by rw[h,k];omega);have q:∀b a d C,aI C w a d->a.ownBlock=some b->w'.heap[b]?=w.heap[b]?:=λb a d C c e=>by obtain⟨m,m⟩:=c.block e;exact p.block b (af m) (λv=>f.apart m (by decide) v.symm)
 refine⟨v',w',t,⟨n++j,u,by simp[h,k],λi a d c j=>?_⟩,p,λg g=>⟨(f.lt g).1,f.block g⟩⟩;by_cases l:i<n.length
 .rw[vB l]at c;rw[vB (by omega)]at j;obtain⟨f,g⟩:=s i a d c j;exact⟨f.keep (λb e=>q b a d _ f e),g⟩
 .rw[xx (by omega)]at c;rw[xx (by omega)]at j;rw[h]at c;obtain⟨f,g⟩:=o _ a d c j;exact⟨(f.keep (λb e=>q b a d _ f e)).mono r,g⟩
theorem bX.keep{size:Int}{c:List Fe}(a:bX B w p r size used born c)(e:w.heap.size<=w'.heap.size)(d:∀b,dH p r c b->w'.heap[b]?=w.heap[b]?):bX B w' p r size used born c:=by obtain⟨c,g,h⟩:=a.map;refine⟨(d p (.inl rfl)).trans a.self,⟨c,(d r (.inr (.inl rfl))).trans g,h⟩,a.names,a.uj,a.uk,a.rows,λf c=>⟨(d f.fb (.inr (.inr ⟨f,c,.inl rfl⟩))).trans (a.files f c).cell,(a.files f c).row.keep (λb g=>d b (.inr (.inr ⟨f,c,.inr g⟩))),(a.files f c).base,(a.files f c).sync⟩,a.base.1,a.base.2.1,aJ a.base.2.2 e⟩
theorem Dk.keep{V:Vw}(a:Dk Z B w p r V F)(c:w.heap.size<=w'.heap.size)(d:∀b,F b->w'.heap[b]?=w.heap[b]?):Dk Z B w' p r V F:=by obtain⟨b,e,born,f,g,h,rfl⟩:=a;exact⟨b,e,born,f,g.keep c d,h,rfl⟩
theorem Dk.row{V:Vw}(a:Dk Z B w p r V F){o:Option Nat}(c:w.grownBy w' o)(f:∀g,o=some g->∃t d,w.heap[g]?=some (.cells d t (0,0))/\t≠125/\t≠165/\t≠5):Dk Z B w' p r V F:=
 a.keep c.size (λb e=>c.block b (a.foot e).2 (λc=>by obtain⟨t,d,d,g,h,i⟩:=f b c.symm;exact a.apart d g h i e))
theorem Sep.row(a:Sep F w wr F'){o:Option Nat}(c:wr.grownBy w' o)(e:∀g,o=some g->w.heap.size<=g):Sep F w w' F':=
 ⟨c.os.trans a.os,c.tape.trans a.tape,c.output.trans a.output,aJ a.size c.size,λb d f=>by rw[c.block b (bF d a.size) (λc=>by have:=e b c.symm;omega)];exact a.out b d f,a.foot⟩
theorem eA.row{last:Int}(a:eA w lb p nm last){o:Option Nat}(c:w.grownBy w' o)(d:∀g,o=some g->∃t b,w.heap[g]?=some (.cells b t (0,0))/\t≠167):eA w' lb p nm last:=
 ⟨(c.block lb (af a.self) (λc=>by obtain⟨t,b,b,e⟩:=d lb c.symm;rw[a.self]at b;cases b;exact e rfl)).trans a.self⟩
theorem eA.set{last:Int}(a:eA w lb p nm last)(n:Int):eA (w.setCell ⟨lb,2,none⟩ (.int .i64 n)) lb p nm n:=⟨aK a.self 2 _⟩
theorem Sep.aAc(a:Sep F w wr F')(c:w.heap.size<=lb)(j:Nat)(v:Value):Sep F w (wr.setCell ⟨lb,j,none⟩ v) F':=
 ⟨a.os,a.tape,a.output,by simpa using a.size,λb c d=>(aN _ _ _ _ (by show b≠lb;omega)).trans (a.out b c d),λb c=>by simpa using a.foot b c⟩
theorem Dk.Cm{V:Vw}(a:Dk Z B w p r V F){last:Int}(c:eA w lb p' nm last)(v:Value):Dk Z B (w.setCell ⟨lb,2,none⟩ v) p r V F:=
 a.keep (by simp) (λb d=>aN _ _ _ _ (λe=>by have f:b=lb:=e;subst f;exact a.apart c.self (by decide) (by decide) (by decide) d))
theorem ko.Cm{ps:List (List UInt8)}(a:ko B F w v ps){last:Int}(d:eA w lb p' nm last)(c:Value):ko B F (w.setCell ⟨lb,2,none⟩ c) v ps:=by
 obtain⟨c,e,f,g⟩:=a;refine⟨c,e.keep (λa h=>aN _ _ _ _ (λc=>?_)),f,λi f j k l=>?_⟩
 .obtain⟨m,a⟩:=e.block h;rw[c,d.self]at a;cases a
 .obtain⟨e,h⟩:=g i f j k l;refine⟨e.keep (λb a=>aN _ _ _ _ (λc=>?_)),h⟩;obtain⟨m,b⟩:=e.block a;rw[c,d.self]at b;cases b
theorem df.Cm{N:Nat}(a:df N B w)(c:B<=lb)(v:Value):df N B (w.setCell ⟨lb,2,none⟩ v):=
 a.keep (λb a=>aN _ _ _ _ (by show b≠lb;omega))
section
structure gU(f:Lk)(a:Nat)(L:List (List UInt8)):Prop where
 there:∀(i:Nat)(q:List UInt8),L[i]?=some q->f (bJ cy (a+i))=some (q,q.length)
 only:∀n,Lib.hasPrefix n.data.toList ((⟨cy.toArray⟩:ByteArray)++⟨#[45]⟩).data.toList=true->(f n).isSome=true->∃i,i<L.length/\n=bJ cy (a+i)
theorem Sg(n:Nat):Lib.hasPrefix (bJ cy n).data.toList ((⟨cy.toArray⟩:ByteArray)++⟨#[45]⟩).data.toList=true:=by rw[Yh,show(⟨#[45]⟩:ByteArray)=⟨([45]:List UInt8).toArray⟩from rfl,xP];unfold Lib.hasPrefix ng;rw[List.isPrefixOf_iff_prefix];exact⟨fN n,by simp⟩
theorem gU.some{f:Lk}{L:List (List UInt8)}(b:gU f a L)(hi:i<L.length):f (bJ cy (a+i))=some (L[i],L[i].length):=b.there i _ (ek hi)
theorem gU.none{f:Lk}{L:List (List UInt8)}(b:gU f a L)(c:n<a\/a+L.length<=n):f (bJ cy n)=none:=by
 cases a:f (bJ cy n)with
 |none=>rfl
 |some c=>exfalso;obtain⟨i,c,c⟩:=b.only _ (Sg n) (by rw[a];rfl);have:=EK c;omega
theorem aAd(a:ng nm m=ng nm n):m=n:=EK (nm:=nm) (by unfold bJ;rw[a])
theorem Yi(n:ByteArray):∀V:Vw,(dz n V).isSome=true↔n∈V.map (·.1)
 | []=>by simp[dz]
 |e::V=>by
  rw[fV,cr,bI];by_cases a:n=e.1
  .simp[a]
  .rw[if_neg a,Yi n V];simp[a]
theorem data_inj{x y:ByteArray}(a:x.data.toList=y.data.toList):x=y:=by apply ByteArray.ext;exact Array.toList_inj.1 a
theorem gU.names{V:Vw}(f:oh V){L:List (List UInt8)}(e:gU (ie V) a L)(b:a+L.length<=1000000):ME cy V=(List.range' a L.length).map (ng cy):=by
 rw[<-azZ b];unfold ME;have g:(((V.map (·.1)).filter λs=>Lib.hasPrefix s.data.toList ((⟨cy.toArray⟩:ByteArray)++⟨#[45]⟩).data.toList).map λs=>s.data.toList).Perm ((List.range' a L.length).map (ng cy)):=by
  refine(List.perm_ext_iff_of_nodup ?_ ?_).2 (λx=>?_)
  .exact List.Pairwise.map _ (λx b c d=>c (data_inj d)) (List.Pairwise.filter _ f)
  .exact List.Pairwise.map _ (λx b c d=>c (aAd d)) (List.nodup_range' (s:=a) (n:=L.length))
  .rw[aV,aV]
   constructor
   .rintro⟨s,d,rfl⟩;rw[List.mem_filter]at d;obtain⟨i,f,rfl⟩:=e.only s d.2 ((Yi s V).2 d.1);exact⟨a+i,List.mem_range'_1.2 ⟨by omega,by omega⟩,(Yh cy _).symm⟩
   .rintro⟨n,d,rfl⟩;have d:=List.mem_range'_1.1 d;refine⟨bJ cy n,List.mem_filter.2 ⟨(Yi _ V).1 ?_,Sg n⟩,Yh cy n⟩;have:=e.some (i:=n-a) (by omega);rw[show a+(n-a)=n by omega]at this;show(ie V (bJ cy n)).isSome=true;rw[this];rfl
 refine List.Perm.eq_of_pairwise (le:=λx b=>x<=b) ?_ ?_ ?_ ((List.mergeSort_perm _ _).trans (g.trans (List.mergeSort_perm _ _).symm))
 .intro x b _ _ c a;exact List.le_antisymm c a
 .refine(List.pairwise_mergeSort (le:=λx b:List UInt8=>decide (x<=b)) (λx b d c a=>by simp at c a ⊢;exact List.le_trans c a) (λx b=>by simp;exact List.le_total x b) _).imp (by intro x b c;simpa using c)
 .refine(List.pairwise_mergeSort (le:=λx b:List UInt8=>decide (x<=b)) (λx b d c a=>by simp at c a ⊢;exact List.le_trans c a) (λx b=>by simp;exact List.le_total x b) _).imp (by intro x b c;simpa using c)
variable{N Z B:Nat}{w w':World}{p r:Nat}{f:Lk}{T K:Nat}{F F':Nat→Prop}
theorem eA.dl{last:Int}(a:eA w lb p' nm last)(b:Dl Z B w p r f T K F)(c:Sep F w w' F'):eA w' lb p' nm last:=by obtain⟨d,d,_⟩:=b;exact a.sep d c
theorem df.dl(a:df N B w)(b:Dl Z B w p r f T K F)(c:Sep F w w' F'):df N B w':=by obtain⟨d,d,_⟩:=b;exact a.dk d c
theorem ko.dl{ps:List (List UInt8)}(a:ko C F w v ps)(b:Dl Z B w p r f T K F)(c:Sep F w w' F'):ko C F' w' v ps:=by obtain⟨d,d,_⟩:=b;exact a.sep d c
theorem Dl.row(a:Dl Z B w p r f T K F){o:Option Nat}(b:w.grownBy w' o)(c:∀g,o=some g->∃t d,w.heap[g]?=some (.cells d t (0,0))/\t≠125/\t≠165/\t≠5):Dl Z B w' p r f T K F:=by obtain⟨d,e,f⟩:=a;exact⟨d,e.row b c,f⟩
theorem Dl.Cm(a:Dl Z B w p r f T K F){last:Int}(b:eA w lb p' nm last)(v:Value):Dl Z B (w.setCell ⟨lb,2,none⟩ v) p r f T K F:=by obtain⟨c,d,e⟩:=a;exact⟨c,d.Cm b v,e⟩
theorem aih{last:Int}(b:eA w lb p cy last)(c:Dl Z B w p r f T K F)(d:df N B w)(g:K<1000000000){L:List (List UInt8)}(g:gU f a L)(f:a+L.length<=N)(f:a+L.length<=1000000):
  Calls Tryz.prog 99 #[.pointer (some ⟨lb,0,none⟩)] w λe w'=>∃v,e=.returned v/\oB w.heap.size w' v (List.range' a L.length)/\Grow w w':=by
 obtain⟨a,a,rfl,e,e⟩:=c;exact azU Jc b a d (by omega) (λn b=>by have:=List.mem_range'_1.1 b;omega) (g.names a.names f)
theorem Yk(a:Dl Z B w p r f T K F){n:ByteArray}(d:lA n)(g:w.heap[qb]?=some (.cells #[pv] 49 (0,0)))(h:Bv w pv x)(i:x.length<=1000000000000):
  Calls Tryz.prog 78 #[.pointer (some ⟨p,0,none⟩),.string n,.slice (some ⟨qb,0,none⟩) 1 1] w λe w'=>∃(c:Nat)(f':Lk)(T':Nat),e=.returned (.int .i64 c)/\(c=0/\T+x.length<=Z/\f'=f.add n x/\T'=T+x.length\/c=5/\Z<T+x.length/\f'=f/\T'=T)/\pR Z B w p r F w' f' T' (K+1):=by
 by_cases c:T+x.length<=Z
 .refine(afV a d g h c).mono ?_;rintro e f ⟨b,j⟩;exact⟨0,_,_,b,.inl ⟨rfl,c,rfl,rfl⟩,j⟩
 .refine(afW a d g h i (by omega)).mono ?_;rintro e f ⟨b,c⟩;exact⟨5,_,_,b,.inr ⟨rfl,by omega,rfl,rfl⟩,F,(a.grow c).more (by omega),Sep.bO c⟩
end
section
theorem aAe{N B:Nat}{w:World}{lb p r:Nat}{nm:List UInt8}{last size:Int}{b:List Fe}(d:eA w lb p nm last)(a:nm.length<=32)(a:bX B w p r size used born b)(g:df N B w)(h:∀f∈b,f.b.length<=140737488355328)(i:n<N)(j:n<1000000):
  Calls Tryz.prog 96 #[.pointer (some ⟨lb,0,none⟩),.int .i64 n] w λe w'=>e=.returned (.bool (fileOf (bJ nm n) b).isSome)/\Grow w w':=by
 obtain⟨c,c,c,c⟩:=d.cells;have k:=ae (λ(w1:World)(c:Grow w w1)=>zU (g.grow c a.base.2.2) i j (name:=nm) (by omega));have i:=ae (λ(w1:World)(c:Grow w w1)=>aeZ (a.grow c) (bJ nm n) h);clear d a g h;have c:=Grow.cells (w:=w);go_enter Tryz.func96,Tryz.ntmps96
 go_wp2_with fail
 refine cN (λW=>Below w.heap.size w W) [9,0] (by kernel_rfl) (bB λ_ _ _ _ _ a=>a) (ay _) ?_;simp only[ct]
 repeat ((first|(apply az;rfl;rintro W g;go_simp;with_reducible rfl)|(apply aA;rfl));simp only[ah,List.set])
 refine bw (by rfl) (by go_simp) (k.out w.drew (ay _)) ?_;rintro e w1 ⟨rfl,h⟩;have c:=(ay w).trans h;refine⟨_,rfl,c,?_⟩
 try simp only[ah,List.set,aC]
 refine bw (by rfl) (by go_simp) (i.out w1 c) ?_;rintro e a ⟨d,e⟩;have a:=c.trans e;have i:=ae a;clear c e h;cases c:fileOf (bJ nm n) b with
 |none=>
  rw[c]at d;obtain rfl:=d;refine⟨_,rfl,a,?_⟩;clear a
  try simp only[ah,List.set,aC]
  repeat ((first|(apply az;rfl;rintro W g;go_simp;with_reducible rfl)|(apply aA;rfl));simp only[ah,List.set])
  refine bg ?_;go_wp2;go_ret;exact⟨by rw[c];rfl,i.out⟩
 |some f=>
  rw[c]at d;obtain⟨v,rfl,b⟩:=d;refine⟨_,rfl,a,?_⟩;clear a b
  try simp only[ah,List.set,aC]
  repeat ((first|(apply az;rfl;rintro W g;go_simp;with_reducible rfl)|(apply aA;rfl));simp only[ah,List.set])
  refine bg ?_;go_wp2;go_ret;exact⟨by rw[c];rfl,i.out⟩
theorem aii{N Z B:Nat}{w:World}{lb p r:Nat}{nm:List UInt8}{last:Int}{f:Lk}{T K:Nat}{F:Nat->Prop}(a:eA w lb p nm last)(b:nm.length<=32)(c:Dl Z B w p r f T K F)(d:df N B w)(g:n<N)(h:n<1000000):
  Calls Tryz.prog 96 #[.pointer (some ⟨lb,0,none⟩),.int .i64 n] w λe w'=>e=.returned (.bool (f (bJ nm n)).isSome)/\Grow w w':=by
 obtain⟨i,⟨i,i,born,j,k,rfl,rfl⟩,rfl,l,l⟩:=c;refine(aAe a b k d (λf a=>by have:=IB a i;omega) g h).mono ?_;rintro e a ⟨rfl,a⟩;refine⟨?_,a⟩;unfold ie;rw[xN];cases fileOf (bJ nm n) j<;>rfl
theorem aij{Z B:Nat}{w:World}{p r:Nat}{f:Lk}{T K:Nat}{F:Nat->Prop}(c:Dl Z B w p r f T K F){n:ByteArray}(d:lA n)(b:f n=none):
  Calls Tryz.prog 78 #[.pointer (some ⟨p,0,none⟩),.string n,.slice none 0 0] w λe w'=>e=.returned (.int .i64 0)/\pR Z B w p r F w' (f.set n ([],0)) T (K+1):=by
 obtain⟨a,a,rfl,rfl,f⟩:=c;refine(awy a d b).mono ?_;rintro e c ⟨c,F',d,e⟩;refine⟨c,F',⟨_,d,?_,by simp[cV],by simp;omega⟩,e⟩
 funext m
 unfold ie Lk.set;by_cases a:m=n
 .subst a;rw[if_pos rfl,WO b]
 .rw[if_neg a,WQ a]
def MJ(Z B:Nat)(w:World)(p r:Nat)(nm:List UInt8)(lb m:Nat)(F:Nat->Prop)(w':World)(f':Lk)(T' K':Nat):Prop:=∃F',Dl Z B w' p r f' T' K' F'/\eA w' lb p nm (m:Int)/\Sep F w w' F'
variable{N Z B:Nat}{w:World}{p r lb m:Nat}{nm:List UInt8}{f:Lk}{T K:Nat}{F:Nat→Prop}
theorem aAf(hm:Cl nm)(g:df N B w)(j:Dl Z B w p r f T K F)(k:eA w lb p nm (m:Int))(s:m<N)(l:m<1000000){ps:List (List UInt8)}(a:Rv w v ps)(d:∀p∈ps,p.length<=67108864)(q:(cg aq ps).length<=1000000000000)(t:ps.length<=1000000000000):
  Calls Tryz.prog 40 #[.pointer (some ⟨lb,0,none⟩),v] w λe w'=>∃(c:Nat)(f':Lk)(T':Nat),e=.returned (.int .i64 c)/\(c=0/\T+(cg aq ps).length<=Z/\f'=f.add (bJ nm m) (cg aq ps)/\T'=T+(cg aq ps).length\/c=5/\Z<T+(cg aq ps).length/\f'=f/\T'=T)/\MJ Z B w p r nm lb m F w' f' T' (K+1):=by
 have f:=λ(W:World)(hg:Grow w W)=>auz (a.grow hg) d q t
 obtain⟨t,c,rfl,a⟩:=a;have u:=ae a;have Hd:=ae j;have c:=ae k;have v:=ae g;have x:=ae f;have y:=ae d;clear a j k g f d;go_enter Tryz.func40,Tryz.ntmps40
 go_wp2_with fail
 go_loopw [9] (λa wr=>∃i:Nat,a=.int .i64 i/\i<=ps.length/\wr=w) (λa _=>ps.length-(intOf a).toNat)
 case atStart=>exact⟨0,rfl,aY _,rfl⟩
 case round=>
  obtain⟨i,rfl,a,a⟩:=hrel;subst a;by_cases a:i<ps.length
  .obtain⟨p',d⟩:∃p,ps[i]?=some p:=⟨ps[i],by simp[a]⟩
   obtain⟨b,o,rfl,f,f⟩:∃b o,t=some ⟨b,o,none⟩/\b<wr.heap.size/\∀(g:Nat)(p:List UInt8),ps[g]?=some p->∃pv,wr.cell? ⟨b,o+g,none⟩=some pv/\Bv wr pv p:=by
    rcases u.out with b|b
    .rw[b]at a;simp at a
    .exact b
   obtain⟨pv,c1,b⟩:=f i p' d;have g:=y.out p' (dm d);have g:(p'.length:Int)<=67108864:=by omega
   have g:(i:Int)<(ps.length:Int):=by omega
   have g:(0:Int)<=(i:Int):=by omega
   have g:IntKind.i64.wrap ((i:Int)+1)=(i:Int)+1:=aQ _ (by omega);obtain⟨g,g,rfl⟩:=b.slice;clear f d b
   go_wp2_with fail
   go_roundw
   case rel=>exact⟨i+1,by simp,a,(by trivial)⟩
   case measure=>simp[intOf];omega
  .obtain rfl:i=ps.length:=by omega
   go_wp2_with fail
   refine oK (λW=>W.cell? ⟨lb,0,none⟩=some (.pointer (some ⟨p,0,none⟩))/\W.cell? ⟨lb,1,none⟩=some (.string ⟨nm.toArray⟩)/\W.cell? ⟨lb,2,none⟩=some (.int .i64 (m:Int))/\lb<W.heap.size) [(0,false),(1,false),(2,false),(3,false),(4,false),(5,false),(6,false),(7,false),(8,false),(9,false),(10,false),(11,false),(13,false),(12,true),(14,true),(15,true),(16,true),(17,false)] (by kernel_rfl) (by kernel_rfl) (bB λ_ _ _ _ _ h=>h) (c.out.grow (ay wr)).cells ?_;simp only[cm,nth]
   repeat ((first|(apply az;rfl;rintro W ⟨t,u,w,y⟩;go_simp;with_reducible rfl)|(apply aA;rfl));simp only[ah,List.set])
   have d:=ay wr;refine bw (by rfl) (by go_simp) (zU (v.out.grow d Hd.out.base) (n:=m) s l (name:=nm) (by have:=hm.len;omega)) ?_;rintro e a ⟨rfl,j⟩;have b:=d.trans j;refine⟨_,rfl,(c.out.grow b).cells,?_⟩
   try simp only[ah,List.set,aC]
   refine bw (by rfl) (by go_simp) (x.out a b) ?_;rintro e a ⟨f,rfl,k,n⟩;have f:=b.trans n;refine⟨_,rfl,(c.out.grow f).cells,?_⟩;have g:=cE k;obtain⟨i,o,rfl⟩:=g.slice
   try simp only[ah,List.set,aC]
   have h:=ar a (.cells #[.slice i (cg aq ps).length o] 49);have a:=f.trans h;refine fK (by rfl) (λK i=>?_);go_simp;refine i _ _ ⟨(c.out.grow a).cells,?_⟩;clear i K
   try simp only[ah,List.set,aC]
   refine bw (by rfl) (by go_simp) (Yk (Hd.out.grow a) (Ye hm l) (ax _ _) (g.grow h) q) ?_;rintro e v ⟨x,l,o,rfl,q,z,s,e⟩;have i:=(c.out.grow a).dl (Hd.out.grow a) e;have c:Hid (MJ Z B wr p r nm lb m F v l o (K+1)):=ae ⟨z,s,i,(Sep.bO a).trans e⟩;have m:=ae q;refine⟨_,rfl,i.cells,?_⟩;clear q s e i a h g k f n b j d
   try simp only[ah,List.set,aC]
   repeat ((first|(apply az;rfl;rintro W ⟨t,u,w,y⟩;go_simp;with_reducible rfl)|(apply aA;rfl));simp only[ah,List.set])
   refine bg ?_;go_wp2;go_ret;exact⟨x,l,o,rfl,m.out,c.out⟩
theorem aim(j:Cl nm)(a:df N B w)(g:Dl Z B w p r f T K F)(h:eA w lb p nm (m:Int))(k:m<N)(l:m<1000000){b:List UInt8}(i:f (bJ nm m)=some (b,s)):
  Calls Tryz.prog 42 #[.pointer (some ⟨lb,0,none⟩)] w λe w'=>e=.returned (.int .i64 0)/\MJ Z B w p r nm lb m F w' (f.set (bJ nm m) (b,b.length)) T K:=by
 have d:=ae g;have c:=ae h;have o:=ae a;have q:=ae i;clear g h a i;go_enter Tryz.func42,Tryz.ntmps42
 go_wp2_with fail
 refine cN (λW=>W.cell? ⟨lb,0,none⟩=some (.pointer (some ⟨p,0,none⟩))/\W.cell? ⟨lb,1,none⟩=some (.string ⟨nm.toArray⟩)/\W.cell? ⟨lb,2,none⟩=some (.int .i64 (m:Int))/\lb<W.heap.size) [12,0,0] (by kernel_rfl) (bB λ_ _ _ _ _ a=>a) (c.out.grow (ay w)).cells ?_;simp only[ct]
 repeat ((first|(apply az;rfl;rintro W ⟨s,t,u,v⟩;go_simp;with_reducible rfl)|(apply aA;rfl));simp only[ah,List.set])
 have g:=ay w;refine bw (by rfl) (by go_simp) (zU (o.out.grow g d.out.base) (n:=m) k l (name:=nm) (by have:=j.len;omega)) ?_;rintro e i ⟨rfl,j⟩;have h:=g.trans j;refine⟨_,rfl,(c.out.grow h).cells,?_⟩
 try simp only[ah,List.set,aC]
 have a:=h.trans (ar i (.cells #[.string (bJ nm m)] 9));refine fK (by rfl) (λK i=>?_);go_simp;refine i _ _ ⟨(c.out.grow a).cells,?_⟩;clear i K
 try simp only[ah,List.set,aC]
 refine bw (by rfl) (by go_simp) (LW (d.out.grow a) q.out (ax _ _)) ?_;rintro e l ⟨rfl,n,k,e⟩;have i:=(c.out.grow a).dl (d.out.grow a) e;have c:Hid (MJ Z B w p r nm lb m F l (f.set (bJ nm m) (b,b.length)) T K):=ae ⟨n,k,i,(Sep.bO a).trans e⟩;refine⟨_,rfl,i.cells,?_⟩;clear k e i a h j g
 try simp only[ah,List.set,aC]
 repeat ((first|(apply az;rfl;rintro W ⟨s,t,u,v⟩;go_simp;with_reducible rfl)|(apply aA;rfl));simp only[ah,List.set])
 refine bg ?_;go_wp2;go_ret;exact⟨rfl,c.out⟩
theorem Ym{last:Int}(a:eA w lb p nm last):Calls Tryz.prog 77 #[.pointer (some ⟨lb,0,none⟩)] w λe w'=>e=.returned (.int .i64 last)/\w'=w:=by obtain⟨b,b,b,b⟩:=a.cells;clear a;go_enter Tryz.func77,Tryz.ntmps77;go_wp2;go_ret;exact⟨rfl,rfl⟩
end
section
def nT(P:List (List UInt8)):List (List UInt8):=(P.map λa=>(mL aq a).1).flatten
theorem ain(P:List (List UInt8))(q:List UInt8):nT (P++[q])=nT P++(mL aq q).1:=by simp[nT]
structure my(Z B:Nat)(w:World)(p r:Nat)(nm:List UInt8)(F:Nat->Prop)(lb:Nat)(f:Lk)(T K:Nat)(last:Int)(ps:List (List UInt8))(F':Nat->Prop)(ov:Value)(wr:World):Prop where
 aS:Dl Z B wr p r f T K F'
 sep:Sep F w wr F'
 log:eA wr lb p nm last
 rows:ko w.heap.size F' wr ov ps
variable{N Z B:Nat}{w wr w':World}{p r a lb:Nat}{nm:List UInt8}{f f':Lk}{T K T' K':Nat}{F F' xH:Nat→Prop}{last:Int}{ps qs:List (List UInt8)}{ov:Value}{L:List (List UInt8)}
theorem my.grow(a:my Z B w p r nm F lb f T K last ps F' ov wr)(b:Grow wr w'):my Z B w p r nm F lb f T K last ps F' ov w':=
 ⟨a.aS.grow b,a.sep.trans (Sep.bO b),a.log.grow b,a.rows.grow b⟩
theorem my.dl(a:my Z B w p r nm F lb f T K last ps F' ov wr)(c:Dl Z B w' p r f' T' K' xH)(b:Sep F' wr w' xH):my Z B w p r nm F lb f' T' K' last ps xH ov w':=
 ⟨c,a.sep.trans b,a.log.dl a.aS b,a.rows.dl a.aS b⟩
theorem my.set(a:my Z B w p r nm F lb f T K last ps F' ov wr)(b:w.heap.size<=lb)(n:Int):my Z B w p r nm F lb f T K n ps F' ov (wr.setCell ⟨lb,2,none⟩ (.int .i64 n)):=
 ⟨a.aS.Cm a.log _,a.sep.aAc b _ _,a.log.set n,a.rows.Cm a.log _⟩
theorem my.append{x:Value}(c:my Z B w p r nm F lb f T K last ps F' ov wr)(d:mM B' wr x qs)(a:wr.heap.size<=B'\/(w.heap.size<=B'/\∀b,F' b->b<B'))(g:ps.length+qs.length<=1000000000000):
  ∃v' w',(Builtin.append_ #[131,131] 131 #[ov,x]).run Tryz.prog wr=.ok v' w'/\my Z B w p r nm F lb f T K last (ps++qs) F' v' w':=by
 have f:=c.sep.size;have h:ko B' F' wr x qs:=d.apart (λb d=>by
  rcases a with a|a
  .have:=(c.aS.foot d).2;omega
  .exact a.2 b d)
 have b:w.heap.size<=B':=by rcases a with a|a<;>omega
 obtain⟨v',w',a,i,d,e⟩:=aAb c.rows h f b g;refine⟨v',w',a,⟨c.aS.row d (λa b=>?_),c.sep.row d (λa b=>(e a b).1),c.log.row d (λa b=>?_),i⟩⟩
 .obtain⟨_,c,d⟩:=e a b;exact⟨_,c,d,by decide,by decide,by decide⟩
 .obtain⟨_,c,d⟩:=e a b;exact⟨_,c,d,by decide⟩
theorem my.dK(a:my Z B w p r nm F lb f T K last ps F' ov wr)(b:df N B w){c:Lk}{d e:Nat}(f:Dl Z B w p r c d e F):df N B wr:=b.dl f a.sep
theorem my.cells(a:my Z B w p r nm F lb f T K last ps F' ov wr):wr.cell? ⟨lb,0,none⟩=some (.pointer (some ⟨p,0,none⟩))/\lb<wr.heap.size:=⟨a.log.cells.1,a.log.cells.2.2.2⟩
def O1(Z B:Nat)(w:World)(p r a:Nat)(nm:List UInt8)(F:Nat->Prop)(lb:Nat)(f:Lk)(T K:Nat)(L:List (List UInt8))(ov nv:Value)(wr:World):Prop:=
 ∃(n:Nat)(b c:List (List UInt8)) (F':Nat->Prop),nv=.int .i64 (n:Int)/\n=a+b.length/\L=b++c/\my Z B w p r nm F lb f T K ((a+(b.length-1):Nat):Int) (nT b) F' ov wr
def O2(Z B:Nat)(w:World)(p r a:Nat)(nm:List UInt8)(F:Nat->Prop)(lb:Nat)(f:Lk)(T K:Nat)(L:List (List UInt8))(ov:Value)(wr:World):Prop:=
 ∃F':Nat->Prop,my Z B w p r nm F lb f T K ((a+(L.length-1):Nat):Int) (nT L) F' ov wr
def qP(nm:List UInt8)(a:Nat)(f:Lk)(L:List (List UInt8)):Lk:=if L=[]then f.set (bJ nm a) ([],0)else f
def pg(L:List (List UInt8)):List (List UInt8):=if L=[]then[[]]else L
theorem Yn{f:Lk}{a:Nat}{L:List (List UInt8)}(d:gU f a L):gU (qP cy a f L) a (pg L):=by
 unfold qP pg;by_cases b:L=[]
 .subst b
  rw[if_pos rfl,if_pos rfl];refine⟨λi c c=>?_,λn f e=>?_⟩
  .cases i with
   |zero=>simp at c;subst c;rw[Nat.add_zero,sN];rfl
   |succ i=>simp at c
  .by_cases c:n=bJ cy a
   .exact⟨0,by simp,by rw[c,Nat.add_zero]⟩
   .rw[iC _ c]at e;obtain⟨i,a,_⟩:=d.only n f e;simp at a
 .rw[if_neg b,if_neg b];exact d
def aAh(Z B:Nat)(w:World)(p r a:Nat)(nm:List UInt8)(F:Nat->Prop)(f:Lk)(T K:Nat)(L:List (List UInt8))(e:Ending)(w':World):Prop:=
 ∃(lb:Nat)(v:Value)(F':Nat->Prop),e=.returned (.tuple #[.pointer (some ⟨lb,0,none⟩),v,.int .i64 0])/\w.heap.size<=lb/\Dl Z B w' p r (qP nm a f L) T (K+1) F'/\Sep F w w' F'/\eA w' lb p nm ((a+((pg L).length-1):Nat):Int)/\ko w.heap.size F' w' v (nT L)
theorem aAi(d:nm=cy)(I:∀w,Calls Tryz.prog 95 #[.string ⟨nm.toArray⟩] w λe w'=>e=.returned (.bool true)/\w'=w)(j:gU f a L)(g:∀q∈L,(mL aq q).2.2=0)(s:Dl Z B w p r f T K F)(l:df N B w)(G:K+1<1000000000)(c:a+L.length+1<N)(c:a+L.length+1<1000000)(c:(nT L).length<=1000000000000):
  Calls Tryz.prog 52 #[.pointer (some ⟨p,0,none⟩),.string ⟨nm.toArray⟩,.int .i64 a] w (aAh Z B w p r a nm F f T K L):=by
 have y:Cl nm:=d ▸ Jc;have o:∀(i:Nat)(q:List UInt8),L[i]?=some q->f (bJ nm (a+i))=some (q,q.length):=by subst d;exact j.there
 have t:f (bJ nm (a+L.length))=none:=by subst d;exact j.none (.inr (aw _))
 have u:∀(W:World)(D:Nat->Prop)(last:Int),eA W w.heap.size p nm last->Dl Z B W p r (qP nm a f L) T (K+1) D->df N B W->Calls Tryz.prog 99 #[.pointer (some ⟨w.heap.size,0,none⟩)] W λe w'=>∃v,e=.returned v/\oB W.heap.size w' v (List.range' a (pg L).length)/\Grow W w':=by
  subst d;intro W D last h z c;have C:(pg L).length<=L.length+1:=by unfold pg;split<;>simp
  exact aih h z c G (Yn j) (by omega) (by omega)
 have h:(0:Int)<=(a:Int):=by omega
 have h:(a:Int)<=999999:=by omega
 have A:=ae (I w);have h:=ae s;have z:=ae l;have Sh:=ae o;have XI:=ae t;have Yo:=ae u;have N:=ae g;clear I s l o t u g j d;go_enter Tryz.func52,Tryz.ntmps52
 go_wp2_with fail
 (with_reducible refine A.out.mono ?_);rintro e w1 ⟨rfl,g⟩;have d:=g.symm;subst d;clear g
 go_upto_block 0 with fail
 go_cut [10]from 36 to 84 (λov P=>O2 Z B w p r a nm F w.heap.size f T K L ov P)
 case first=>
  have d:=ar w (.cells #[.pointer (some ⟨p,0,none⟩),.string ⟨nm.toArray⟩,.int .i64 a] 167);have g:Hid (my Z B w p r nm F w.heap.size f T K (a:Int) [] F (.slice none 0 0) (w.alloc (.cells #[.pointer (some ⟨p,0,none⟩),.string ⟨nm.toArray⟩,.int .i64 a] 167))):=ae ⟨h.out.grow d,Sep.bO d,⟨ax _ _⟩,aAa _ _ _⟩;clear d
  go_wp2_with fail
  go_loopw [10,11] (λov nv wr=>O1 Z B w p r a nm F w.heap.size f T K L ov nv wr) (λ_ nv _=>a+L.length+1-(intOf nv).toNat)
  case atStart=>exact⟨a,[],L,F,rfl,rfl,rfl,g.out⟩
  case round=>
   obtain⟨n,l,A,F',rfl,c,d,g⟩:=hrel;have C:l.length+A.length=L.length:=by rw[d,aM]
   have o:=g.dK z.out h.out;obtain⟨U,V,t,X⟩:=g.log.cells;have j:=aii g.log y.len g.aS o (n:=n) (by omega) (by omega);obtain⟨J,M,Q⟩:=g.rows.slice;subst Q;have E:=ae g;have Y:=ae o;clear g o t;cases A with
   |nil=>
    rw[List.append_nil]at d;have g:f (bJ nm n)=none:=by rw[c,<-d];exact XI.out
    rw[g]at j;have C:=ae j;have o:=ae c;have R:=ae d;clear j c d g
    go_wp2_with fail
    (with_reducible refine C.out.mono ?_);rintro e w1 ⟨rfl,t⟩;have g:=ae (E.out.grow t);clear t;go_wp2;go_meet;exact⟨F',by rw[R.out];exact g.out⟩
   |cons q A=>
    have g:f (bJ nm n)=some (q,q.length):=by rw[c];exact Sh.out l.length q (by rw[d,xx (aw _),Nat.sub_self];rfl)
    rw[g]at j;have H:(mL aq q).2.2=0:=N.out q (by rw[d];simp);have oP:(nT l).length+(mL aq q).1.length<=1000000000000:=by
     have:(nT (l++[q])).length<=(nT L).length:=by rw[d,show l++q::A=(l++[q])++A by simp];simp[nT]
     rw[ain,aM]at this;omega
    have u:q.length<=1073741824:=by have:=h.out.len g;have:=h.out.total;have:=h.out.size;dsimp only at*;omega
    have C:=ae j;have o:=ae c;have S:=ae g;have R:=ae d;clear j c g d
    go_wp2_with fail
    (with_reducible refine C.out.mono ?_);rintro e w1 ⟨rfl,t⟩;have d:=E.out.grow t;obtain⟨k0,k1,k2,kl⟩:=d.log.cells;have ff:=bG d.log.self;obtain⟨N,g⟩:∃x,x=w1.setCell ⟨w.heap.size,2,none⟩ (.int .i64 n):=⟨_,rfl⟩
    have x:=d.set (aw _) n;rw[<-g]at x;have O:=ae g;have u:=ae x;clear t d E Y U V X x g
    go_upto_region 9 with fail
    rw[<-O.out];clear ff O k0 k1 k2 kl;refine cN (λW=>W.cell? ⟨w.heap.size,0,none⟩=some (.pointer (some ⟨p,0,none⟩))/\w.heap.size<W.heap.size) [6,0] (by kernel_rfl) (bB λ_ _ _ _ _ s=>s) (u.out.grow (ay N)).cells ?_;simp only[ct]
    repeat ((first|(apply az;rfl;rintro W ⟨U,V⟩;go_simp;with_reducible rfl)|(apply aA;rfl));simp only[ah,List.set])
    have g:=ay N;refine bw (by rfl) (by go_simp) (zU ((u.out.dK z.out h.out).grow g u.out.aS.base) (n:=n) (by have:=o.out;omega) (by have:=o.out;omega) (name:=nm) (by have:=y.len;omega)) ?_;rintro e X ⟨rfl,x⟩;have E:=g.trans x;refine⟨_,rfl,(u.out.grow E).cells,?_⟩
    try simp only[ah,List.set,aC]
    have O:=LV (u.out.aS.grow E) (bJ nm n);rw[S.out]at O;refine bw (by rfl) (by go_simp) O ?_;rintro e Y ⟨⟨bv,rfl,bD⟩,aa⟩;have iG:=E.trans aa;have Y:=u.out.grow iG;refine⟨_,rfl,Y.cells,?_⟩;have rS:=cE bD;obtain⟨ba,bc,rfl⟩:=rS.slice;have qD:=aeW rS (by omega);have ep:=ain l q;generalize mL aq q=RF at*;obtain⟨sm,sz,er⟩:=RF;dsimp only at qD H oP ep;subst H;have nJ:=ae qD;have oy:=ae ep;have H:=ae Y;clear qD ep rS bD Y iG E aa x g O u
    try simp only[ah,List.set,aC]
    repeat ((first|(apply az;rfl;rintro W ⟨U,V⟩;go_simp;with_reducible rfl)|(apply aA;rfl));simp only[ah,List.set])
    refine bg ?_
    go_wp2_with fail
    (with_reducible refine nJ.out.mono ?_);rintro e u ⟨u,rfl,E,O⟩;have Y:=H.out.grow O;obtain⟨u,w6,r1,u⟩:=Y.append E (.inr ⟨H.out.sep.size,λb b=>(H.out.aS.foot b).2⟩) (by omega);obtain⟨b,b,rfl⟩:=E.slice;obtain⟨b,b,rfl⟩:=u.rows.slice;have aa:=u.dK z.out h.out;have cU:=ae r1;have b:=ae u;have ab:=ae aa;clear r1 u Y E O H nJ aa
    go_wp2_with (at_builtin;refine fP rfl rfl rfl rfl cU.out ?_)
    refine cN (λW=>W.cell? ⟨w.heap.size,0,none⟩=some (.pointer (some ⟨p,0,none⟩))/\w.heap.size<W.heap.size) [6,0,0] (by kernel_rfl) (bB λ_ _ _ _ _ s=>s) (b.out.grow (ay w6)).cells ?_;simp only[ct]
    repeat ((first|(apply az;rfl;rintro W ⟨U,V⟩;go_simp;with_reducible rfl)|(apply aA;rfl));simp only[ah,List.set])
    have g:=ay w6;refine bw (by rfl) (by go_simp) (zU (ab.out.grow g b.out.aS.base) (n:=n) (by have:=o.out;omega) (by have:=o.out;omega) (name:=nm) (by have:=y.len;omega)) ?_;rintro e w7 ⟨rfl,E⟩;have Y:=g.trans E;refine⟨_,rfl,(b.out.grow Y).cells,?_⟩
    try simp only[ah,List.set,aC]
    have cW:=Y.trans (ar w7 (.cells #[.string (bJ nm n)] 9));have O:=b.out.grow cW;refine fK (by rfl) (λK G=>?_);go_simp;refine G _ _ ⟨O.cells,?_⟩;clear G K
    try simp only[ah,List.set,aC]
    have b:=LW O.aS (n:=bJ nm n) S.out (ax _ _);rw[afS S.out]at b;refine bw (by rfl) (by go_simp) b ?_;rintro e w9 ⟨rfl,S,G,H⟩;have u:=O.dl G H;have M9:=ae u;refine⟨_,rfl,u.cells,?_⟩;clear u G H b O cW Y E g
    try simp only[ah,List.set,aC]
    refine bg ?_;have Y:IntKind.i64.wrap ((n:Int)+1)=(n:Int)+1:=aQ _ (by have:=o.out;omega);go_wp2;go_roundw
    case rel=>refine⟨n+1,l++[q],A,S,by simp,by have:=o.out;rw[aM,List.length_singleton];omega,by rw[R.out];simp,?_⟩;have b:=M9.out;rw[show(a+((l++[q]).length-1):Nat)=n by have:=o.out;simp;omega,oy.out];rw[aM]at b;exact b
    case measure=>simp[intOf];have:=o.out;omega
 case rest=>
  obtain⟨D,d⟩:=hcut;obtain⟨J,M,Q⟩:=d.rows.slice;subst Q;have j:=aii d.log y.len d.aS (d.dK z.out h.out) (n:=a) (by omega) (by omega);have l:(f (bJ nm a)).isSome=true/\qP nm a f L=f/\(pg L)=L/\L.length≠0\/(f (bJ nm a)).isSome=false/\f (bJ nm a)=none/\qP nm a f L=f.set (bJ nm a) ([],0)/\(pg L).length=1/\L.length=0:=by
   unfold qP pg;by_cases b:L=[]
   .right;subst b;have:=XI.out;rw[iJ,Nat.add_zero]at this;exact⟨by rw[this];rfl,this,rfl,rfl,rfl⟩
   .left;have o:0<L.length:=List.length_pos_iff.2 b;have:=Sh.out 0 L[0] (ek o);rw[Nat.add_zero]at this;rw[if_neg b,if_neg b,this];exact⟨rfl,rfl,rfl,by omega⟩
  generalize b:(f (bJ nm a)).isSome=o at j l;have C:=ae j;have A:=ae d;have q:=ae l;clear j d l b
  go_wp2_with fail
  (with_reducible refine C.out.mono ?_);rintro e w1 ⟨rfl,t⟩;have O:=ae t;clear t
  go_upto_if 88 with fail
  go_cut []from 89 to 96 (λP=>∃F',my Z B w p r nm F w.heap.size (qP nm a f L) T (K+1) ((a+((pg L).length-1):Nat):Int) (nT L) F' (.slice J (nT L).length M) P)
  case first=>
   have d:=A.out.grow O.out;rcases q.out with⟨rfl,o,b,l⟩|⟨rfl,t,o,b,l⟩
   .have j:my Z B w p r nm F w.heap.size (qP nm a f L) T (K+1) ((a+((pg L).length-1):Nat):Int) (nT L) D (.slice J (nT L).length M) w1:=by rw[o,b];exact⟨d.aS.more (by omega),d.sep,d.log,d.rows⟩
    have f:=ae j;clear d o b l j;go_wp2;go_meet;exact⟨D,f.out⟩
   .have f:=ae d
    have B:=ae t;have D:=ae o;have r:=ae (ag b l);clear d t o b l
    go_wp2_with fail
    refine cN (λW=>W.cell? ⟨w.heap.size,0,none⟩=some (.pointer (some ⟨p,0,none⟩))/\w.heap.size<W.heap.size) [6,0] (by kernel_rfl) (bB λ_ _ _ _ _ s=>s) (f.out.grow (ay w1)).cells ?_;simp only[ct]
    repeat ((first|(apply az;rfl;rintro W ⟨U,V⟩;go_simp;with_reducible rfl)|(apply aA;rfl));simp only[ah,List.set])
    have g:=ay w1;refine bw (by rfl) (by go_simp) (zU ((f.out.dK z.out h.out).grow g f.out.aS.base) (n:=a) (by omega) (by omega) (name:=nm) (by have:=y.len;omega)) ?_;rintro e w7 ⟨rfl,E⟩;have o:=g.trans E;have d:=f.out.grow o;refine⟨_,rfl,d.cells,?_⟩
    try simp only[ah,List.set,aC]
    refine bw (by rfl) (by go_simp) (aij d.aS (n:=bJ nm a) (Ye y (by omega)) B.out) ?_;rintro e w9 ⟨rfl,S,G,H⟩;have u:=d.dl G H;rw[<-D.out]at u;have M9:=ae u;refine⟨_,rfl,u.cells,?_⟩;clear u G H d o E g
    try simp only[ah,List.set,aC]
    refine bg ?_;go_wp2;go_meet;exact⟨S,by have:=M9.out;rw[r.out.2]at this;rw[r.out.1];exact this⟩
  case rest=>
   obtain⟨o,d⟩:=hcut;have p:(pg L).length<=L.length+1/\0<(pg L).length:=by
    rcases q.out with⟨_,_,b,l⟩|⟨_,_,_,b,l⟩
    .rw[b];omega
    .rw[b];omega
   clear O q A C;generalize wc=N at*;obtain⟨ps,b⟩:∃ps,ps=nT L:=⟨_,rfl⟩
   obtain⟨m,j⟩:∃m,m=a+((pg L).length-1):=⟨_,rfl⟩
   rw[<-b,<-j]at d;rw[<-b];have f:=Yo.out N o m d.log d.aS (d.dK z.out h.out);obtain⟨k,g⟩:∃k,k=(pg L).length:=⟨_,rfl⟩
   rw[<-g]at f p j;have l:=ae f;have p:=ae d;have q:=ae b;have r:=ae g;have h:=ae j;clear f d b g
   go_wp2_with fail
   (with_reducible refine l.out.mono ?_);rintro e X ⟨nv,rfl,b,x⟩;have d:=p.out.grow x;rcases id b with⟨rfl,I⟩|⟨f,e,e,rfl,e⟩
   .exfalso;have g:=congrArg List.length I;rw[bA,List.length_range',iJ]at g;omega
   clear e;have e:((List.range' a k).map λn:Nat=>Value.int .i64 n).length=k:=by rw[bA,List.length_range']
   rw[e];rw[e]at b;have g:=ae d;have l:=ae b;have p:f<X.heap.size:=(b.lt rfl).2;obtain⟨p,s,t,t⟩:=d.log.cells;clear d b e j x p s
   go_wp2_with fail
   go_loopw [100] (λb wr=>∃i:Nat,b=.int .i64 (i:Int)/\i<=k/\wr=X) (λb _=>k-(intOf b).toNat)
   case atStart=>exact⟨0,rfl,aY _,rfl⟩
   case round=>
    obtain⟨i,rfl,b,b⟩:=hrel;subst b;have b:(0:Int)<=(i:Int):=by omega
    have Y:IntKind.i64.wrap ((i:Int)+1)=(i:Int)+1:=aQ _ (by omega);by_cases b:i<k
    .obtain⟨n,c⟩:∃n,n=a+i:=⟨_,rfl⟩
     have a:wr.cell? ⟨f,i,none⟩=some (.int .i64 n):=Row1.cells l.out rfl (by rw[c,gQ,List.getElem?_range' b];simp);have a:(i:Int)<(k:Int):=by omega
     have d:(n:Int)<=(m:Int):=by have:=h.out;omega
     clear c;go_wp2;go_roundw
     case rel=>exact⟨i+1,by simp,b,(by trivial)⟩
     case measure=>simp[intOf];omega
    .have a:(k:Int)<=(i:Int):=by omega
     go_wp2;refine bodyPost_ret (v:=.tuple #[.pointer (some ⟨w.heap.size,0,none⟩),.slice J ps.length M,.int .i64 0]) ?_ rfl ?_
     .simp[results,Tryz.results52,go_sem]
     .have a:=g.out
      refine⟨w.heap.size,_,o,rfl,aw _,a.aS,a.sep,?_,?_⟩
      .rw[<-r.out,<-h.out];exact a.log
      .rw[<-q.out];exact a.rows
end
section
def FL(F:Nat->Prop)(lb:Nat):Nat->Prop:=λb=>F b\/b=lb
theorem Sep.wide{F F':Nat->Prop}{w w':World}(a:Sep F w w' F')(lb:Nat):Sep (FL F lb) w w' (FL F' lb):=
 ⟨a.os,a.tape,a.output,a.size,λb c d=>a.out b c (λe=>d (.inl e)),λb c=>by
  rcases c with c|rfl
  .rcases a.foot b c with a|a
   .exact .inl (.inl a)
   .exact .inr a
  .exact .inl (.inr rfl)⟩
theorem Sep.wE(F:Nat->Prop)(w:World)(lb j:Nat)(v:Value):Sep (FL F lb) w (w.setCell ⟨lb,j,none⟩ v) (FL F lb):=
 ⟨rfl,rfl,rfl,by simp,λb _ a=>aN _ _ _ _ (λc=>a (.inr c)),λb a=>.inl a⟩
def qf(nm:List UInt8)(a:Nat)(f:Lk):Nat->Lk
 |0=>f
 |j+1=>(qf nm a f j).del (bJ nm (a+j))
def yw(L:List (List UInt8)):Nat:=(L.map (·.length)).sum
theorem Jd(nm:List UInt8)(a:Nat)(f:Lk){n:ByteArray}:∀j,(∀i,i<j->n≠bJ nm (a+i))->qf nm a f j n=f n
 |0,_=>rfl
 |j+1,h=>by rw[qf,afQ _ (h j (by omega)),Jd nm a f j (λi a=>h i (by omega))]
theorem air(nm:List UInt8)(a:Nat)(f:Lk):∀(j i:Nat),i<j->qf nm a f j (bJ nm (a+i))=none
 |j+1,i,h=>by
  rw[qf];by_cases b:i=j
  .rw[b,afP]
  .rw[afQ _ (λc=>b (by have:=EK c;omega)),air nm a f j i (by omega)]
theorem gU.drop{f:Lk}{a:Nat}{L:List (List UInt8)}(g:gU f a L)(j:Nat):gU (qf cy a f j) (a+j) (L.drop j):=by
 refine⟨λi e c=>?_,λn f b=>?_⟩
 .rw[Jd _ _ _ _ (λd d d=>by have:=EK d;omega),Nat.add_assoc];exact g.there (j+i) e (by rw[List.getElem?_drop]at c;exact c)
 .by_cases e:∃i,i<j/\n=bJ cy (a+i)
  .obtain⟨i,c,rfl⟩:=e;rw[air _ _ _ _ _ c]at b;cases b
  .rw[Jd _ _ _ _ (λi c d=>e ⟨i,c,d⟩)]at b;obtain⟨i,c,rfl⟩:=g.only n f b;have b:j<=i:=Nat.le_of_not_lt (λb=>e ⟨i,b,rfl⟩);exact⟨i-j,by rw[List.length_drop];omega,by rw[show a+j+(i-j)=a+i by omega]⟩
theorem oB.dl{Z B C:Nat}{w w':World}{p r:Nat}{f:Lk}{T K:Nat}{F F':Nat->Prop}(a:oB C w v ns)(c:Dl Z B w p r f T K F)(d:Sep F w w' F'):oB C w' v ns:=
 Row1.keep a (λe f=>by obtain⟨b,b⟩:=Row1.block a f;exact d.out e (af b) (c.apart b (by decide) (by decide) (by decide)))
structure Co(Z B:Nat)(w:World)(p r:Nat)(nm:List UInt8)(lb a m:Nat)(f:Lk)(T K:Nat)(L:List (List UInt8))(F:Nat->Prop)(C:Nat)(nv:Value)(k:Nat)(F':Nat->Prop)(wr:World):Prop where
 aS:Dl Z B wr p r (qf nm a f k) (T-yw (L.take k)) K F'
 log:eA wr lb p nm (m:Int)
 sep:Sep F w wr F'
 row:oB C wr nv (List.range' a L.length)
variable{N Z B C:Nat}{w wr w':World}{p r lb a m k b:Nat}{nm:List UInt8}{f:Lk}{T K:Nat}{F F' xH:Nat→Prop}{nv:Value}{L:List (List UInt8)}
theorem Co.grow(b:Co Z B w p r nm lb a m f T K L F C nv k F' wr)(c:Grow wr w'):Co Z B w p r nm lb a m f T K L F C nv k F' w':=
 ⟨b.aS.grow c,b.log.grow c,b.sep.trans (Sep.bO c),b.row.grow c⟩
theorem Co.step(b:Co Z B w p r nm lb a m f T K L F C nv k F' wr){q:List UInt8}(d:L[k]?=some q)(e:Dl Z B w' p r ((qf nm a f k).del (bJ nm (a+k))) (T-yw (L.take k)-q.length) K xH)(c:Sep F' wr w' xH):Co Z B w p r nm lb a m f T K L F C nv (k+1) xH w':=by
 refine⟨?_,b.log.dl b.aS c,b.sep.trans c,b.row.dl b.aS c⟩;have:yw (L.take (k+1))=yw (L.take k)+q.length:=by unfold yw;rw[List.take_add_one,d];simp
 rw[this,<-Nat.sub_sub];exact e
def aAn(Z B:Nat)(w:World)(p r:Nat)(nm:List UInt8)(lb a m:Nat)(f:Lk)(T K:Nat)(L:List (List UInt8))(F:Nat->Prop)(C b:Nat)(nv c:Value)(wr:World):Prop:=
 ∃(i:Nat)(F':Nat->Prop),c=.int .i64 (i:Int)/\i<=L.length/\Co Z B w p r nm lb a m f T K L F C nv (min i b) F' wr
theorem ais(c:nm=cy)(l:gU f a L)(d:Dl Z B w p r f T K F)(h:eA w lb p nm (m:Int))(o:df N B w)(j:K<1000000000)(g:a+L.length<=N)(q:a+L.length<=1000000)(k:m+1=a+L.length)(k:0<L.length)(k:b<L.length):
  Calls Tryz.prog 53 #[.pointer (some ⟨lb,0,none⟩),.int .i64 ((a+b:Nat):Int)] w λe w'=>e=.returned (.int .i64 0)/\MJ Z B w p r nm lb m F w' (qf nm a f b) (T-yw (L.take b)) K:=by
 have x:Cl nm:=c ▸ Jc;have s:∀(i:Nat)(k:List UInt8),L[i]?=some k->f (bJ nm (a+i))=some (k,k.length):=by subst c;exact l.there
 have t:Calls Tryz.prog 99 #[.pointer (some ⟨lb,0,none⟩)] w λe w'=>∃v,e=.returned v/\oB w.heap.size w' v (List.range' a L.length)/\Grow w w':=by subst c;exact aih h d o j l g q
 obtain⟨g,q⟩:∃g,g=a+b:=⟨_,rfl⟩
 rw[<-q];obtain⟨y,z,A,C⟩:=h.cells;have u:(g:Int)<=(m:Int):=by omega
 have D:=ae t;have E:=ae s;have u:=ae d;have G:=ae o;have H:=ae h;have v:=ae q;clear t d h s c o l q;go_enter Tryz.func53,Tryz.ntmps53
 go_wp2_with fail
 (with_reducible refine D.out.mono ?_);rintro e w1 ⟨nv,rfl,c,h⟩;rcases id c with⟨rfl,l⟩|⟨o,q,s,rfl,s⟩
 .exfalso;have:=congrArg List.length l;rw[bA,List.length_range',iJ]at this;omega
 have l:((List.range' a L.length).map λn:Nat=>Value.int .i64 n).length=L.length:=by rw[bA,List.length_range']
 rw[l];rw[l]at c;have t:Hid (Co Z B w p r nm lb a m f T K L F w.heap.size (.slice (some ⟨o,0,none⟩) L.length q) 0 F w1):=ae ⟨by have:=u.out.grow h;simpa[qf,yw]using this,H.out.grow h,Sep.bO h,c⟩;clear c s h l y z A C
 go_wp2_with fail
 go_loopw [16] (λc wr=>aAn Z B w p r nm lb a m f T K L F w.heap.size b (.slice (some ⟨o,0,none⟩) L.length q) c wr) (λc _=>L.length-(intOf c).toNat)
 case atStart=>exact⟨0,F,rfl,aY _,by rw[Nat.zero_min];exact t.out⟩
 case round=>
  obtain⟨i,r,rfl,c,c⟩:=hrel;have f:(0:Int)<=(i:Int):=by omega
  have f:IntKind.i64.wrap ((i:Int)+1)=(i:Int)+1:=aQ _ (by omega);by_cases h:i<L.length
  .have y:(i:Int)<(L.length:Int):=by omega
   obtain⟨n,l⟩:∃n,n=a+i:=⟨_,rfl⟩
   have q:wr.cell? ⟨o,i,none⟩=some (.int .i64 (n:Int)):=Row1.cells c.row rfl (by rw[l,gQ,List.getElem?_range' h];simp);have a:=(Row1.lt c.row rfl).2;have m:=ae l;by_cases a:i<b
   .have z:(n:Int)<(g:Int):=by have:=v.out;omega
    rw[Nat.min_eq_left (by omega)]at c;obtain⟨o,s,b,t⟩:=c.log.cells;have a:=ae c;clear c b l
    go_wp2_with fail
    refine cN (λW=>(W.cell? ⟨lb,0,none⟩=some (.pointer (some ⟨p,0,none⟩))/\W.cell? ⟨lb,1,none⟩=some (.string ⟨nm.toArray⟩))/\lb<W.heap.size) [9,0,0] (by kernel_rfl) (bB λ_ _ _ _ _ d=>d) (by obtain⟨b,d,_,f⟩:=(a.out.grow (ay wr)).log.cells;exact⟨⟨b,d⟩,f⟩) ?_;clear o s t q;simp only[ct]
    repeat ((first|(apply az;rfl;rintro W ⟨⟨o,o⟩,o⟩;go_simp;with_reducible rfl)|(apply aA;rfl));simp only[ah,List.set])
    have p:=ay wr;have s:=G.out.dl u.out a.out.sep;refine bw (by rfl) (by go_simp) (zU (s.grow p a.out.aS.base) (n:=n) (by have:=m.out;omega) (by have:=m.out;omega) (name:=nm) (by have:=x.len;omega)) ?_;rintro e o ⟨rfl,t⟩;have q:=p.trans t;refine⟨_,rfl,(by obtain⟨b,d,_,f⟩:=(a.out.grow q).log.cells;exact⟨⟨b,d⟩,f⟩),?_⟩
    try simp only[ah,List.set,aC]
    have u:=q.trans (ar o (.cells #[.string (bJ nm n)] 9));have o:=a.out.grow u;refine fK (by rfl) (λK j=>?_);go_simp;refine j _ _ ⟨(by obtain⟨b,d,_,f⟩:=o.log.cells;exact⟨⟨b,d⟩,f⟩),?_⟩;clear j K
    try simp only[ah,List.set,aC]
    have j:L[i]?=some L[i]:=ek h;have w:=WV o.aS (n:=bJ nm n) (q:=(L[i],L[i].length)) (by rw[m.out,Jd _ _ _ _ (λk k e=>by have:=EK e;omega)];exact E.out i _ j) (ax _ _);refine bw (by rfl) (by go_simp) w ?_;rintro e e ⟨rfl,A,k,x⟩;have e:=o.step j (by rw[<-m.out];exact k) x;have m:=ae e;refine⟨_,rfl,(by obtain⟨b,d,_,f⟩:=e.log.cells;exact⟨⟨b,d⟩,f⟩),?_⟩;clear e k x w o u q t p s j
    try simp only[ah,List.set,aC]
    refine bg ?_;go_wp2;go_roundw
    case rel=>exact⟨i+1,A,by simp,h,by rw[Nat.min_eq_left (by omega)];exact m.out⟩
    case measure=>simp[intOf];omega
   .have z:(g:Int)<=(n:Int):=by have:=v.out;omega
    rw[Nat.min_eq_right (by omega)]at c;have a:=ae c;clear c l;go_wp2;go_roundw
    case rel=>exact⟨i+1,r,by simp,h,by rw[Nat.min_eq_right (by omega)];exact a.out⟩
    case measure=>simp[intOf];omega
  .have y:(L.length:Int)<=(i:Int):=by omega
   rw[Nat.min_eq_right (by omega)]at c;have a:=ae c;clear c;go_wp2;go_ret;exact⟨rfl,r,a.out.aS,a.out.log,a.out.sep⟩
theorem aAp(g:Cl nm)(b:Dl Z B w p r f T K F)(c:eA w lb p nm (m:Int))(d:df N B w)(s:B<=lb){q:List UInt8}(h:f (bJ nm m)=some (q,q.length))(i:f (bJ nm (m+1))=none)(k:m+1<N)(l:m+1<999999):
  Calls Tryz.prog 76 #[.pointer (some ⟨lb,0,none⟩)] w λe w'=>e=.returned (.int .i64 0)/\∃F',Dl Z B w' p r (f.set (bJ nm (m+1)) ([],0)) T (K+1) F'/\eA w' lb p nm ((m+1:Nat):Int)/\Sep (FL F lb) w w' (FL F' lb):=by
 obtain⟨a,j⟩:∃a,a=m+1:=⟨_,rfl⟩
 rw[<-j]at i k l ⊢;obtain⟨t,u,v,y⟩:=c.cells;have z:¬(m:Int)=999999:=by omega
 have A:((m:Int)==999999)=false:=by simp;omega
 have k:=aim g d b c (by omega) (by omega) h;rw[afS h]at k;have l:=ae k;have C:=ae d;have D:=ae b;have E:=ae i;clear k c b d h i;go_enter Tryz.func76,Tryz.ntmps76
 go_wp2_with fail
 (with_reducible refine l.out.mono ?_);rintro e w1 ⟨rfl,h,l,d,i⟩;obtain⟨G,H,I,J⟩:=d.cells;have L:=bG d.self;have M:IntKind.i64.wrap ((m:Int)+1)=(a:Int):=(aQ _ (by omega)).trans (by omega);obtain⟨b,c⟩:∃x,x=w1.setCell ⟨lb,2,none⟩ (.int .i64 (a:Int)):=⟨_,rfl⟩
 have m:eA b lb p nm (a:Int):=by rw[c];exact d.set _
 have o:Dl Z B b p r f T K h:=by rw[c];exact l.Cm d _
 have q:Sep (FL F lb) w b (FL h lb):=by rw[c];exact(i.wide lb).trans (Sep.wE h w1 lb 2 _)
 have r:df N B b:=by rw[c];exact(C.out.dl D.out i).Cm s _
 have s:=ae c;have f:=ae m;have h:=ae o;have w:=ae q;have x:=ae r;have k:=ae j;clear i l d m o q r c j t u v y z A
 go_upto_region 5 with fail
 rw[<-s.out];clear L s G H I J M;refine cN (λW=>W.cell? ⟨lb,0,none⟩=some (.pointer (some ⟨p,0,none⟩))/\W.cell? ⟨lb,1,none⟩=some (.string ⟨nm.toArray⟩)/\W.cell? ⟨lb,2,none⟩=some (.int .i64 (a:Int))/\lb<W.heap.size) [12,0] (by kernel_rfl) (bB λ_ _ _ _ _ c=>c) (f.out.grow (ay b)).cells ?_;simp only[ct]
 repeat ((first|(apply az;rfl;rintro W ⟨j,l,m,o⟩;go_simp;with_reducible rfl)|(apply aA;rfl));simp only[ah,List.set])
 have c:=ay b;refine bw (by rfl) (by go_simp) (zU (x.out.grow c h.out.base) (n:=a) (by have:=k.out;omega) (by have:=k.out;omega) (name:=nm) (by have:=g.len;omega)) ?_;rintro e b ⟨rfl,i⟩;have b:=c.trans i;refine⟨_,rfl,(f.out.grow b).cells,?_⟩
 try simp only[ah,List.set,aC]
 refine bw (by rfl) (by go_simp) (aij (h.out.grow b) (n:=bJ nm a) (Ye g (by have:=k.out;omega)) (E.out)) ?_;rintro e a ⟨rfl,k,e,g⟩;have a:=(Sep.bO b).trans g;have d:=f.out.dl h.out a;have f:=ae (ag e (ag d (w.out.trans (a.wide lb))));refine⟨_,rfl,d.cells,?_⟩;clear e g d a b i c
 try simp only[ah,List.set,aC]
 repeat ((first|(apply az;rfl;rintro W ⟨j,l,m,o⟩;go_simp;with_reducible rfl)|(apply aA;rfl));simp only[ah,List.set])
 refine bg ?_;go_wp2;go_ret;exact⟨rfl,k,f.out⟩
end
end Go.Proofs.YtoolkdapflaeeaaGreatDoor
namespace Go.Proofs.YtoolkdapflaeeaaGreatDoor
open Go.RowKit Go.Gl Go.aF Mn
def ait(Z:Nat)(f:Lk)(T:Nat)(V:bM)(n:Nat)(q:List UInt8×Nat)(a:cO)(c:Int)(f':Lk)(T':Nat)(b:bM):Prop:=
 ((bH V a).1=0/\T+(bC aq (dP a)).length<=Z/\c=0/\f'=f.set (dt n) (q.1++bC aq (dP a),(q.1++bC aq (dP a)).length)/\T'=T+(bC aq (dP a)).length/\b=(bH V a).2)\/
 ((bH V a).1=0/\Z<T+(bC aq (dP a)).length/\c=5/\f'=f/\T'=T/\b=V)\/
 ((bH V a).1≠0/\c=(bH V a).1/\f'=f/\T'=T/\b=V)
def aAr(Z B:Nat)(w:World)(p r:Nat)(f:Lk)(T K:Nat)(F:Nat->Prop)(sb:Nat)(V:bM)(n:Nat)(q:List UInt8×Nat)(d:cO)(e:Ending)(w':World):Prop:=
 ∃(b:Int)(f':Lk)(T':Nat)(a:bM)(c:Value) (F':Nat->Prop),e=.returned (.int .i64 b)/\ait Z f T V n q d b f' T' a/\
 eH w' sb p c a n/\Own 0 w' c a.tabs/\Dl Z B w' p r f' T' (K+1) F'/\Sep (FL F sb) w w' (FL F' sb)
theorem aAs{N:Nat}{f:Lk}{V:bM}(g:eH w sb p tv V n)(c:Own B' w tv V.tabs)(G:V.tabs.length<=5000){d:cO}(j:uD w av d.add)(k:Ints w dv d.drop)(pV:d.add.length<=5000)(ir:d.drop.length<=10000)(l:jP d.add<=60000000)(l:(bH V d).1=0->BO d)(h:Dl Z B w p r f T K F)(hB:B<=sb)(m:df N B w)(hn:n<N)(X:n<1000000){q:List UInt8×Nat}(o:f (dt n)=some q):
  Calls Tryz.prog 63 #[.pointer (some ⟨sb,0,none⟩),.agg (dY av dv d.seq d.next d.wal)] w (aAr Z B w p r f T K F sb V n q d):=by
 have z:Grow w (w.alloc (.cells (dY av dv d.seq d.next d.wal) 148)):=ar _ _;have L:=ax w (.cells (dY av dv d.seq d.next d.wal) 148);have M:=g.grow z;have Y:=fB c z;have Z:=j.grow z;have iZ:=k.grow z;have H:=h.grow z;have EM:=m.grow z h.base;have s:=Rl.grow (r:=r) z h.base;have Mg:=ae s;have Eg:=ae z;obtain⟨P,ac,rfl,u⟩:=j;obtain⟨Q,R,rfl,j,j⟩:=k;obtain⟨S,U,rfl⟩:=km c;have ad:=ae l;have Hq:=ae o;clear z g c h m s u j l o;obtain⟨g,c⟩:∃x,x=bH V d:=⟨_,rfl⟩
 have j:gD V [d]=g:=by
  rw[Xv];by_cases D:(bH V d).1=0
  .rw[if_pos D,c];exact Prod.ext D.symm rfl
  .rw[if_neg D,c];exact Prod.ext rfl (ayd V d D).symm
 have J:=ae c;have aa:=ae j;clear c j;go_enter Tryz.func63,Tryz.ntmps63
 go_upto_region 1 with fail
 generalize w.alloc (.cells (dY (.slice P d.add.length ac) (.slice Q d.drop.length R) d.seq d.next d.wal) 148)=w1 at*;generalize w.heap.size=eb at*
 go_cut [5,6]from 7 to 16 (λpv j c=>∃(vb:Nat)(y:Value),pv=.pointer (some ⟨vb,0,none⟩)/\j=.int .i64 g.1/\c.heap[vb]?=some (.cells (bS y g.2.seq g.2.next g.2.wal) 85 (0,0))/\Own w1.heap.size c y g.2.tabs/\Grow w1 c)
 case first=>
  rename_i j K o s
  refine xA (λl k=>?_);have C:l.tmps[0]?=some (.pointer (some ⟨sb,0,none⟩)):=by rw[k];rfl
  have F3:l.tmps[3]?=some (.pointer (some ⟨eb,0,none⟩)):=by rw[k];rfl
  have A:l.tmps.size=52:=by rw[k];rfl
  have u:Hid (∀j c (vb:Nat) (y:Value),sF [8,9,10,11,12,13,14,7,15,16,5,6] l j->j.tmps[5]?=some (.pointer (some ⟨vb,0,none⟩))->j.tmps[6]?=some (.int .i64 g.1)->c.heap[vb]?=some (.cells (bS y g.2.seq g.2.next g.2.wal) 85 (0,0))->Own w1.heap.size c y g.2.tabs->Grow w1 c->K j c):=ae (λj c vb y ha H O l m c=>by refine s _ _ (o _ _ ?_);refine⟨j.tmps.getD 5 undef,j.tmps.getD 6 undef,j.tmps.getD 7 undef,j.tmps.getD 8 undef,j.tmps.getD 9 undef,j.tmps.getD 10 undef,j.tmps.getD 11 undef,j.tmps.getD 12 undef,j.tmps.getD 13 undef,j.tmps.getD 14 undef,j.tmps.getD 15 undef,j.tmps.getD 16 undef,⟨vb,y,by rw[gZ,H];rfl,by rw[gZ,O];rfl,l,m,c⟩,ha.fill.trans ?_⟩;subst k;kernel_rfl)
  clear k s o;refine xC (EJ w1.heap.size sb (.slice S V.tabs.length U) (.slice P d.add.length ac) (.slice Q d.drop.length R) V d g) (oA w1 g) nd [8,9,10,11,12,13,14,7,15,16,5,6] (by kernel_rfl) (by kernel_rfl) (by rw[A];rfl) EJ.keep ⟨ay w1,λh=>by cases h⟩ ?_ (λj k c=>?_);rotate_left
  .obtain⟨vb,y,H,O,l,m⟩:=c.world.2 (by rfl);obtain⟨v,o,s⟩:=c.slot 12 6 (by rfl) (by rfl);exact u.out j k vb y c.alike H (by rw[o];exact congrArg some s) l m c.world.1
  clear u;refine⟨?_,?_,?_,?_,?_,?_,?_,?_,?_,?_,?_,?_,?_,True.intro⟩
  .intro E a W c s m;have l:=c.sz A;have k:=c.world;have j:Grow w1 W:=k.1;have u:=fF c.closed (n:=8) (e:=11) (i:=0) (by kernel_rfl) s;have o:=c.got (by decide) C (by rw[l];decide);refine br rfl (by rfl) (λK' o=>?_);go_simp;exact o _ _ ⟨_,rfl,(λ_ _=>rfl),nd.refl _,oA.mf 0 (by decide) u j⟩
  .intro E a W c s m;have l:=c.sz A;have k:=c.world;have j:Grow w1 W:=k.1;have u:=fF c.closed (n:=8) (e:=11) (i:=1) (by kernel_rfl) s;have C:=aP (c.sv 0 8 rfl (aO m 0 (by kernel_rfl)) λ_ _ h=>h) (by rw[l];decide);obtain⟨_,_,_,_,_,_,I⟩:=(M.grow j).cells;refine br rfl (by rfl) (λK' o=>?_);go_simp;exact o _ _ ⟨_,rfl,(λ_ _=>rfl),nd.refl _,oA.mf 1 (by decide) u j⟩
  .intro E a W c s m;have l:=c.sz A;have k:=c.world;have j:Grow w1 W:=k.1;have u:=fF c.closed (n:=8) (e:=11) (i:=2) (by kernel_rfl) s;have C:=aP (c.sv 1 9 rfl (aO m 1 (by kernel_rfl)) λ_ _ h=>h) (by rw[l];decide);obtain⟨_,_,_,_,_,_,I⟩:=(M.grow j).cells;refine br rfl (by rfl) (λK' o=>?_);go_simp;exact o _ _ ⟨_,rfl,(λ_ _=>rfl),nd.refl _,oA.mf 2 (by decide) u j⟩
  .intro E a W c s m;have l:=c.sz A;have k:=c.world;have j:Grow w1 W:=k.1;have u:=fF c.closed (n:=8) (e:=11) (i:=3) (by kernel_rfl) s;have C:=aP (c.sv 2 10 rfl (aO m 2 (by kernel_rfl)) λ_ _ h=>h) (by rw[l];decide);obtain⟨_,c1,c2,c3,c4,_,I⟩:=(M.grow j).cells;refine br rfl (by rfl) (λK' o=>?_);go_simp;exact o _ _ ⟨_,rfl,(λ_ _=>rfl),nd.refl _,oA.mf 3 (by decide) u j⟩
  .intro E a W c s m;have l:=c.sz A;have k:=c.world;have j:Grow w1 W:=k.1;have u:=fF c.closed (n:=8) (e:=11) (i:=4) (by kernel_rfl) s;have C:=c.got (by decide) F3 (by rw[l];decide);have C:=j.heap L;obtain⟨K,e1,K,K,K⟩:=dI C;have lb:=af C;refine br rfl (by rfl) (λK' o=>?_);go_simp;exact o _ _ ⟨_,rfl,(λ_ _=>rfl),nd.refl _,oA.mf 4 (by decide) u j⟩
  .intro E a W c s m;have l:=c.sz A;have k:=c.world;have j:Grow w1 W:=k.1;have u:=fF c.closed (n:=8) (e:=11) (i:=5) (by kernel_rfl) s;have C:=aP (c.sv 4 12 rfl (aO m 4 (by kernel_rfl)) λ_ _ h=>h) (by rw[l];decide);have C:=agW W P d.add.length ac Q d.drop.length R d.seq d.next d.wal;refine br rfl (by rfl) (λK' o=>?_);go_simp;exact o _ _ ⟨_,rfl,(λ_ _=>⟨W.heap.size,rfl,ax _ _⟩),nd.grow (ar _ _),oA.mf 5 (by decide) u (j.trans (ar _ _))⟩
  .intro E a W c s m;have l:=c.sz A;have k:=c.world;have j:Grow w1 W:=k.1;have u:=fF c.closed (n:=8) (e:=11) (i:=6) (by kernel_rfl) s;have C:=aP (c.sv 3 11 rfl (aO m 3 (by kernel_rfl)) λ_ _ h=>h) (by rw[l];decide);obtain⟨v5,C,K,K,Sp⟩:=c.slot 5 13 rfl (aO m 5 (by kernel_rfl));subst K;have K:=aP C (by rw[l];decide);have C:=agx ahM (fB Y j) G (agX Sp (Z.grow j) (iZ.grow j)) (by simp) (by intro e G;rw[cZ.1 G];exact⟨pV,ir⟩);rw[aa.out]at C;refine ky rfl (by rfl) (by go_simp) C ?_;rintro e C ⟨y,rfl,G,C⟩;exact⟨_,rfl,_,rfl,(λ_ _=>⟨y,rfl,rK G j.size⟩),nd.grow C,oA.mf 6 (by decide) u (j.trans C)⟩
  .intro E a W c s m;have l:=c.sz A;have k:=c.world;have j:Grow w1 W:=k.1;have u:=fF c.closed (n:=8) (e:=11) (i:=7) (by kernel_rfl) s;obtain⟨K,K,y,q6,G⟩:=c.slot 6 14 rfl (aO m 6 (by kernel_rfl));subst q6;have aa:=aP K (by rw[l];decide);refine br rfl (by rfl) (λK' o=>?_);go_simp;exact o _ _ ⟨_,rfl,(λ_ _=>⟨y,rfl,G⟩),nd.refl _,oA.mf 7 (by decide) u j⟩
  .intro E a W c s m;have l:=c.sz A;have k:=c.world;have j:Grow w1 W:=k.1;have u:=fF c.closed (n:=8) (e:=11) (i:=8) (by kernel_rfl) s;obtain⟨v7,K,y,q7,G⟩:=c.slot 7 7 rfl (aO m 7 (by kernel_rfl));subst q7;have G7:=aP K (by rw[l];decide);refine br rfl (by rfl) (λK' o=>?_);go_simp;exact o _ _ ⟨_,rfl,(λ_ _=>⟨y,rfl,G⟩),nd.refl _,oA.mf 8 (by decide) u j⟩
  .intro E a W c s m;have l:=c.sz A;have k:=c.world;have j:Grow w1 W:=k.1;obtain⟨v7,K,y,q7,G⟩:=c.slot 7 7 rfl (aO m 7 (by kernel_rfl));subst q7;have G7:=aP K (by rw[l];decide);refine br rfl (by rfl) (λK' o=>?_);go_simp;exact o _ _ ⟨_,rfl,(λ_ _=>rfl),nd.refl _,oA.next k (by decide) (by decide)⟩
  .intro E a W c s m;have l:=c.sz A;have k:=c.world;have j:Grow w1 W:=k.1;have u:=fF c.closed (n:=8) (e:=11) (i:=10) (by kernel_rfl) s;refine br rfl (by rfl) (λK' o=>?_);go_simp;exact o _ (W.alloc (.cells (bS (.slice none 0 0) 0 0 0) 85)) ⟨_,rfl,(λ_ _=>⟨W.heap.size,_,rfl,j.size,ax _ _,rfl⟩),nd.grow (ar _ _),oA.mf 10 (by decide) u (j.trans (ar _ _))⟩
  .intro E a W c s m
   have l:=c.sz A;have k:=c.world;have j:Grow w1 W:=k.1;obtain⟨i,K,y,q8,G⟩:=c.slot 8 15 rfl (aO m 8 (by kernel_rfl));obtain⟨i,u,rfl⟩:=km G;subst q8;have aa:=aP K (by rw[l];decide);obtain⟨K,zQ,vb,cs,rT,RV,K,aa⟩:=c.slot 10 5 rfl (aO m 10 (by kernel_rfl));subst rT;have G5:=aP zQ (by rw[l];decide);obtain⟨x0,x1,x2,x3,rfl⟩:=azO aa;obtain⟨t0,t1,t2,t3⟩:=dJ K;have aa:=af K;have aa:=bG K;have cG:=BK K (.slice i g.2.tabs.length u) (.int .u64 g.2.seq) (.int .i64 g.2.next) (.int .i64 g.2.wal);have jM:=λ(aa:Nat)(hc:aa≠vb)=>IH (w:=W) hc (.slice i g.2.tabs.length u) (.int .u64 g.2.seq) (.int .i64 g.2.next) (.int .i64 g.2.wal)
   have w:=Ek G K (.slice i g.2.tabs.length u) (.int .u64 g.2.seq) (.int .i64 g.2.next) (.int .i64 g.2.wal);have G:=xV j RV (.slice i g.2.tabs.length u) (.int .u64 g.2.seq) (.int .i64 g.2.next) (.int .i64 g.2.wal);refine br rfl (by rfl) (λK' o=>?_);go_simp;refine o _ _ ⟨undef,rfl,(λ_ h=>by cases h),⟨λb arr t fz t ht=>?_,λb cs t hs=>?_⟩,⟨G,λ_=>⟨vb,_,zQ,RV,cG,w⟩⟩⟩
   .rw[jM b (pX t K ht)];exact t
   .by_cases e:b=vb
    .subst e;exact⟨_,cG,rfl⟩
    .exact⟨cs,(jM b e).trans t,hs⟩
  .intro E a W c s m;have l:=c.sz A;have k:=c.world;have j:Grow w1 W:=k.1;have a:=aP (c.sv 9 16 rfl (aO m 9 (by kernel_rfl)) λ_ _ h=>h) (by rw[l];decide);refine br rfl (by rfl) (λK' o=>?_);go_simp;exact o _ _ ⟨_,rfl,(λ_ _=>rfl),nd.refl _,oA.next k (by decide) (by decide)⟩
 case rest=>
 obtain⟨vb,y,rfl,rfl,a,l,C⟩:=hcut;have m:=C.heap L;have o:=M.grow C;have O:=H.grow C;have s:=EM.grow C H.base;have t:=Mg.out.trans (Rl.grow (r:=r) C H.base);have c:=ae o;have j:=ae O;have E:=ae s;have rQ:=ae t;have k:=ae m;have Re:=ae a;have aa:=ae l;have ab:=ae (Z.grow C);have G:=ae (rK (fB Y C) (aY _));have K:=ae (Eg.out.trans C);clear Eg;have Eu:=ae (iZ.grow C);clear m o O s t a l C L M Y Z iZ H EM Mg;by_cases D:g.1=0
 .have e1:(g.1 != 0)=false:=by simpa using D
  have a:=ae (ad.out (by rw[<-J.out];exact D));have t:=ae D;clear D
  go_upto_region 4 with fail
  refine oK (S4 sb p eb n (.slice P d.add.length ac) (.slice Q d.drop.length R) (.int .u64 d.seq) (.int .i64 d.next) (.int .i64 d.wal)) [(0,false),(1,false),(2,false),(3,false),(4,false),(5,false),(6,false),(7,false),(9,false),(8,true),(10,true),(11,true),(12,true),(13,true),(14,false)] (by kernel_rfl) (by kernel_rfl) (bB λ_ _ _ _ _ h=>h) (Jb (c.out.grow (ay _)) ((ay _).heap k.out)) ?_;simp only[cm,nth]
  repeat ((first|(apply az;rfl;rintro W ⟨⟨O,P,Q⟩,M,jR,nj,pn,wG,Aa⟩;go_simp;with_reducible rfl)|(apply aA;rfl));simp only[ah,List.set])
  have l:=ay wc;refine bw (by rfl) (by go_simp) (LS (E.out.grow l j.out.base) hn X) ?_;rintro e m ⟨rfl,R⟩;have o:=l.trans R;refine⟨_,rfl,Jb (c.out.grow o) (o.heap k.out),?_⟩
  try simp only[ah,List.set,aC]
  refine bw (by rfl) (by go_simp) (ayT a.out (ab.out.grow o) (Eu.out.grow o) (by omega)) ?_;rintro e a ⟨a,rfl,Y,Z⟩;have w:=o.trans Z;refine⟨_,rfl,Jb (c.out.grow w) (w.heap k.out),?_⟩
  try simp only[ah,List.set,aC]
  have xW:(dP d).length<=67108864:=by have:=agB d;omega
  refine bw (by rfl) (by go_simp) (DL (cE Y) xW) ?_;rintro e a ⟨v5,rfl,y,bm⟩;have A:=w.trans bm;refine⟨_,rfl,Jb (c.out.grow A) (A.heap k.out),?_⟩
  try simp only[ah,List.set,aC]
  obtain⟨s,C⟩:∃x,x=bC aq (dP d):=⟨_,rfl⟩
  rw[<-C]at y;have gL:s.length<=1000000000000:=by have m:=cF (dP d).length;rw[C,nG];omega
  have ad:=cE y;obtain⟨d,m,rfl⟩:=y.slice;have z:=ar a (.cells #[.slice d s.length m] 49);have a:=A.trans z;refine ud (by rfl) (tZ (v:=.slice d s.length m) rfl Tryz.underlying131 Tryz.zy rfl rfl rfl) (Jb (c.out.grow a) (a.heap k.out)) ?_
  try simp only[ah,List.set,aC]
  have d:=j.out.grow a;refine bw (by rfl) (by go_simp) (Yk d (afI X) (ax _ _) (ad.grow z) gL) ?_;rintro e w7 ⟨m,f7,T7,rfl,Jg,F7,wD,m⟩;have H:=(c.out.grow a).sep d m;have Ck:=(rQ.out.trans (Rl.grow (r:=r) a j.out.base)).trans (Rl.sep d m);have x:=((Rl.grow (r:=r) a j.out.base).trans (Rl.sep d m)).hold;have wH:=x.keep _ _ _ _ k.out (by unfold BP;decide);have ai:=x.keep _ _ _ _ Re.out (by unfold BP;decide);have kA:=Rj aa.out x;refine⟨_,rfl,Jb H wH,?_⟩
  try simp only[ah,List.set,aC]
  repeat ((first|(apply az;rfl;rintro W ⟨⟨O,P,Q⟩,M,jR,nj,pn,wG,Aa⟩;go_simp;with_reducible rfl)|(apply aA;rfl));simp only[ah,List.set])
  refine bg ?_;have nS:f.add (dt n) s=f.set (dt n) (q.1++s,q.2):=by unfold Lk.add;rw[Hq.out]
  have EP:=ae ((Sep.bO (F:=F) (K.out.trans a)).trans m);have ER:=ae (Rj G.out (((Rl.grow (r:=r) a j.out.base).trans (Rl.sep d m)).hold));rw[nS]at Jg;have q:=ae H;have s:=ae wD;have aj:=ae Ck;have ak:=ae ai;have am:=ae kA;have M:=ae C;have an:df N B w7:=E.out.keep (λb L=>((Rl.grow (r:=r) a j.out.base).trans (Rl.sep d m)).below.block b L);have B:=ae an;clear l R o Z w bm A z a d m H Ck x wH ai kA nS wD Y y ad C an xW gL c j E rQ k Re aa ab Eu e1 G K;rcases Jg with⟨rfl,a,rfl,rfl⟩|⟨rfl,b,rfl,rfl⟩
  rotate_left
  .have d:=ae b;clear b;go_wp2;go_ret;refine⟨5,f7,T7,V,.slice S V.tabs.length U,F7,rfl,.inr (.inl ⟨by rw[<-J.out];exact t.out,by rw[<-M.out];exact d.out,rfl,rfl,rfl,rfl⟩),q.out,ER.out,s.out,EP.out.wide sb⟩
  have R:=ae a;clear a
  go_upto_region 7 with fail
  obtain⟨c0,_,_,_,_,b,I⟩:=q.out.cells;refine cN (λW=>W.cell? ⟨sb,0,none⟩=some (.pointer (some ⟨p,0,none⟩))/\W.cell? ⟨sb,5,none⟩=some (.int .i64 (n:Int))/\sb<W.heap.size) [8,0,0] (by kernel_rfl) (bB λ_ _ _ _ _ h=>h) ⟨by simpa using c0,by simpa using b,by simpa using I⟩ ?_;simp only[ct];clear c0 b I
  repeat ((first|(apply az;rfl;rintro W ⟨O,P,Q⟩;go_simp;with_reducible rfl)|(apply aA;rfl));simp only[ah,List.set])
  have l:=ay w7;refine bw (by rfl) (by go_simp) (LS (B.out.grow l s.out.base) hn X) ?_;rintro e a ⟨rfl,x⟩;have o:=l.trans x;obtain⟨c0,_,_,_,_,b,I⟩:=(q.out.grow o).cells;refine⟨_,rfl,⟨c0,b,I⟩,?_⟩
  try simp only[ah,List.set,aC]
  have z:=ar a (.cells #[.string (dt n)] 9);have a:=o.trans z;obtain⟨y,_,_,_,_,A,C⟩:=(q.out.grow a).cells;refine ud (by rfl) (tZ (v:=.string (dt n)) rfl Tryz.underlying95 Tryz.QE rfl rfl rfl) ⟨y,A,C⟩ ?_
  try simp only[ah,List.set,aC]
  have h:=s.out.grow a;refine bw (by rfl) (by go_simp) (LW h (sN _ _ _) (ax _ _)) ?_;rintro e O ⟨rfl,d,v,k⟩;rw[QR]at v;have e:=(q.out.grow a).sep h k;have m:=(Rl.grow (r:=r) a s.out.base).trans (Rl.sep h k);have r:=m.hold.keep _ _ _ _ ak.out (by unfold BP;decide);have w:=Rj am.out m.hold;obtain⟨E,_,_,_,_,H,L⟩:=e.cells;refine⟨_,rfl,⟨E,H,L⟩,?_⟩
  try simp only[ah,List.set,aC]
  refine bg ?_;obtain⟨i,u,rfl⟩:=km w;obtain⟨N,N,N,N⟩:=dJ r;have N:=af r;have N:O.heap[sb]?=some (.cells (setCells p (.slice S V.tabs.length U) V n) 154 (0,0)):=e;have n:=bG N;obtain⟨_,n,n,n,n,_,n⟩:=e.cells;obtain⟨O,P,n⟩:=azP e v hB (.slice i g.2.tabs.length u) g.2;have Q:=ae (((((((EP.out.trans (Sep.bO a)).trans k).wide sb).trans (Sep.wE d _ sb 1 (.slice i g.2.tabs.length u))).trans (Sep.wE d _ sb 2 (.int .u64 g.2.seq))).trans (Sep.wE d _ sb 3 (.int .i64 g.2.next))).trans (Sep.wE d _ sb 4 (.int .i64 g.2.wal)));have p:=ae (ag O (ag P (ag ((aj.out.trans m).trans n) (Rj (rK w (aY _)) n.hold))));clear l x o z a h v k e m r w c0 b I y A C E H L N O P n q s aj ak am B;go_wp2;go_ret;refine⟨0,_,_,_,.slice i g.2.tabs.length u,d,rfl,.inl ⟨by rw[<-J.out];exact t.out,by rw[<-M.out];exact R.out,rfl,rfl,rfl,rfl⟩,?_⟩;rw[<-J.out,<-M.out];exact⟨p.out.1,p.out.2.2.2,p.out.2.1,Q.out⟩
 .have e1:(g.1 != 0)=true:=by simpa using D
  have t:=ae D;clear D;go_wp2;go_ret;exact⟨g.1,f,T,V,.slice S V.tabs.length U,F,rfl,.inr (.inr ⟨by rw[<-J.out];exact t.out,by rw[<-J.out],rfl,rfl,rfl⟩),c.out,G.out,j.out.more (by omega),(Sep.bO K.out).wide sb⟩
end Go.Proofs.YtoolkdapflaeeaaGreatDoor
namespace Go.Proofs.YtoolkdapflaeeaaGreatDoor
open Go.RowKit Go.Gl Mn
structure En where
 key:ByteArray
 seq:Nat
 gone:Bool
 val:List UInt8
instance:Inhabited En:=⟨⟨ByteArray.empty,0,false,[]⟩⟩
def eB(a b:En):Int:=dA (kJ a.key b.key) (jG b.seq a.seq)
def fY(a b:En):Prop:=a.key.data.toList<b.key.data.toList\/(a.key=b.key/\b.seq<a.seq)
def qg(a b:En):Prop:=a.key=b.key/\a.seq=b.seq
theorem Cu{a b:ByteArray}(c:a.data.toList=b.data.toList):a=b:=by apply ByteArray.ext;exact Array.toList_inj.1 c
theorem Ab(a b:En):eB a b<0↔fY a b:=by
 unfold eB dA fY;by_cases c:kJ a.key b.key=0
 .rw[if_pos c,Xd]
  have b:=(ID _ _).1 c;rw[jz,jz]at b;have d:=Cu b;constructor
  .intro a;exact .inr ⟨d,by omega⟩
  .rintro(a|⟨_,a⟩)
   .rw[b]at a;exact absurd a (List.lt_irrefl _)
   .omega
 .rw[if_neg c,QS,jz,jz]
  constructor
  .intro a;exact .inl a
  .rintro(a|⟨a,_⟩)
   .exact a
   .exact absurd ((ID _ _).2 (by rw[a])) c
theorem Cv(a b:En):eB a b=0↔qg a b:=by
 unfold eB dA qg;by_cases c:kJ a.key b.key=0
 .rw[if_pos c,Xe]
  have a:=(ID _ _).1 c;rw[jz,jz]at a;have b:=Cu a;constructor
  .intro a;exact⟨b,by omega⟩
  .intro a;omega
 .rw[if_neg c]
  constructor
  .intro a;exact absurd a c
  .intro a;exact absurd ((ID _ _).2 (by rw[a.1])) c
theorem Jj{a b c:En}(d:fY a b)(k:fY b c):fY a c:=by
 rcases d with d|⟨d,h'⟩
 .rcases k with k|⟨k,_⟩
  .exact .inl (List.lt_trans d k)
  .exact .inl (k ▸ d)
 .rcases k with k|⟨k,k'⟩
  .exact .inl (d ▸ k)
  .exact .inr ⟨d.trans k,by omega⟩
theorem Ac(a:En):¬fY a a:=by
 rintro(a|⟨_,a⟩)
 .exact List.lt_irrefl _ a
 .omega
theorem Yw{a b:En}(e:¬fY a b)(f:¬fY b a):qg a b:=by
 have g:¬a.key.data.toList<b.key.data.toList:=λc=>e (.inl c)
 have h:¬b.key.data.toList<a.key.data.toList:=λc=>f (.inl c)
 have d:=Cu (List.le_antisymm (List.not_lt.1 h) (List.not_lt.1 g));refine⟨d,?_⟩;have g:¬b.seq<a.seq:=λc=>e (.inr ⟨d,c⟩)
 have e:¬a.seq<b.seq:=λc=>f (.inr ⟨d.symm,c⟩)
 omega
theorem yB{a b c:En}(d:qg a b):fY a c↔fY b c:=by unfold fY;rw[d.1,d.2]
theorem aiJ{a b c:En}(d:qg a b):fY c a↔fY c b:=by unfold fY;rw[d.1,d.2]
def cx(l:List En):Prop:=l.Pairwise fY
theorem cx.nil:cx []:=List.Pairwise.nil
theorem uN{a:En}{l:List En}:cx (a::l)↔(∀b∈l,fY a b)/\cx l:=List.pairwise_cons
def gM(x:En)(l:List En):List En:=l.takeWhile (λa=>decide (eB a x<0))
def eI(x:En)(l:List En):List En:=l.dropWhile (λa=>decide (eB a x<0))
theorem uO(x:En)(l:List En):gM x l++eI x l=l:=List.takeWhile_append_dropWhile ..
theorem MR{x:En}{l:List En}:∀e∈gM x l,fY e x:=λe b=>by have:=List.all_takeWhile (p:=λe=>decide (eB e x<0)) (l:=l);have a:=List.all_eq_true.1 this e b;rw[decide_eq_true_eq,Ab]at a;exact a
theorem ES{x:En}:∀{l:List En},cx l->∀e∈eI x l,¬fY e x
 | [],_,e,b=>by cases b
 |a::l,h,e,b=>by
  unfold eI at b;rw[List.dropWhile_cons]at b;have d:=uN.1 h;by_cases c:eB a x<0
  .rw[if_pos (by simpa using c)]at b;exact ES d.2 e b
  .rw[if_neg (by simpa using c)]at b
   rw[Ab]at c;rcases bI.1 b with rfl|b
   .exact c
   .exact λa=>c (Jj (d.1 e b) a)
theorem Ss{x:En}{l:List En}(c:cx l):cx (gM x l)/\cx (eI x l)/\∀a∈gM x l,∀b∈eI x l,fY a b:=by
 have a:cx (gM x l++eI x l):=by rw[uO];exact c
 exact List.pairwise_append.1 a
def kR(x:En)(l:List En):List En:=
 gM x l++x::(match eI x l with| []=>[]|e::r=>if eB e x=0 then r else e::r)
theorem Yx{x e:En}{l:List En}(h:cx l):e∈kR x l↔e=x\/(e∈l/\¬qg e x):=by
 unfold kR;have ET:=uO x l;have lW:=MR (x:=x) (l:=l);have Ad:=ES (x:=x) h;have iX:∀e∈gM x l,¬qg e x:=λe he hs=>by have:=lW e he;rw[yB hs]at this;exact Ac _ this
 have ho:cx (eI x l):=(Ss h).2.1;have mC:e∈l↔e∈gM x l\/e∈eI x l:=by have h9:=dn (a:=e) (s:=gM x l) (t:=eI x l);rwa[ET]at h9
 rw[dn,bI,mC];generalize eI x l=hi at*;cases hi with
 |nil=>
  constructor
  .rintro(h|h|h)
   .exact .inr ⟨.inl h,iX e h⟩
   .exact .inl h
   .cases h
  .rintro(h|⟨h|h,_⟩)
   .exact .inr (.inl h)
   .exact .inl h
   .cases h
 |cons a r=>
  have eM:=uN.1 ho;simp only;by_cases hc:eB a x=0
  .rw[if_pos hc]
   rw[Cv]at hc;have hr:∀e∈r,¬qg e x:=λe he hs=>by have:=eM.1 e he;rw[yB hc,<-yB hs]at this;exact Ac _ this
   constructor
   .rintro(h|h|h)
    .exact .inr ⟨.inl h,iX e h⟩
    .exact .inl h
    .exact .inr ⟨.inr (fE _ h),hr e h⟩
   .rintro(h|⟨h|h,hs⟩)
    .exact .inr (.inl h)
    .exact .inl h
    .rcases bI.1 h with rfl|h
     .exact absurd hc hs
     .exact .inr (.inr h)
  .rw[if_neg hc]
   rw[Cv]at hc;have Su:fY x a:=by
    by_cases h1:fY x a
    .exact h1
    .exact absurd (Yw (Ad a (ej ..)) h1) hc
   have hr:∀e∈a::r,¬qg e x:=λe he hs=>by
    rcases bI.1 he with rfl|he
    .exact hc hs
    .have:=Jj Su (eM.1 e he);rw[<-yB hs]at this;exact Ac _ this
   constructor
   .rintro(h|h|h)
    .exact .inr ⟨.inl h,iX e h⟩
    .exact .inl h
    .exact .inr ⟨.inr h,hr e h⟩
   .rintro(h|⟨h|h,_⟩)
    .exact .inr (.inl h)
    .exact .inl h
    .exact .inr (.inr h)
theorem Yy{x:En}{l:List En}(d:cx l):cx (kR x l):=by
 unfold kR;have c:=uO x l;have g:=MR (x:=x) (l:=l);have j:=ES (x:=x) d;obtain⟨f,h,c⟩:=Ss (x:=x) d;generalize eI x l=k at*;have e:∀r:List En,cx r->(∀b∈r,fY x b)->cx (gM x l++x::r):=λr i c=>by
  refine List.pairwise_append.2 ⟨f,uN.2 ⟨c,i⟩,λa i b f=>?_⟩;rcases bI.1 f with rfl|f
  .exact g a i
  .exact Jj (g a i) (c b f)
 cases k with
 |nil=>exact e [] .nil (λ_ d=>by cases d)
 |cons a r=>
  have f:=uN.1 h;simp only;by_cases d:eB a x=0
  .rw[if_pos d];rw[Cv]at d;exact e r f.2 (λb c=>(yB d).1 (f.1 b c))
  .rw[if_neg d]
   rw[Cv]at d;have g:fY x a:=by
    by_cases i:fY x a
    .exact i
    .exact absurd (Yw (j a (ej ..)) i) d
   refine e (a::r) h (λb c=>?_);rcases bI.1 c with rfl|c
   .exact g
   .exact Jj g (f.1 b c)
end Go.Proofs.YtoolkdapflaeeaaGreatDoor
namespace Go.Proofs.YtoolkdapflaeeaaGreatDoor
open Go.RowKit Go.Gl Go.aF Mn
def qh(e:En):List UInt8:=bp e.key.data.toList++(aG e.seq++((if e.gone then 1 else 0)::bp e.val))
def bu(l:List En):List UInt8:=l.flatMap qh
theorem tz(a b:List En):bu (a++b)=bu a++bu b:=by simp[bu]
theorem aAy(e:En):bu [e]=qh e:=by simp[bu]
theorem aiK(e:En):0<(qh e).length:=by simp[qh];omega
theorem aAz{l:List En}(a:bu l=[]):l=[]:=by
 cases l with
 |nil=>rfl
 |cons b l=>have c:=congrArg List.length a;have a:=aiK b;rw[bu,List.flatMap_cons,aM,iJ]at c;omega
def eX(size:Nat):List En->List En->List (List En)
 |_,[]=>[]
 |cur,e::r=>if size<=(bu (cur++[e])).length\/r=[]then(cur++[e])::eX size [] r else eX size (cur++[e]) r
theorem MS(size:Nat):∀(l a:List En),l≠[]->(eX size a l).flatten=a++l
 | [],_,h=>absurd rfl h
 |e::r,a,_=>by
  unfold eX;by_cases a:r=[]
  .subst a;rw[if_pos (.inr rfl)];simp[eX]
  .split
   .rw[List.flatten_cons,MS size r [] a];simp
   .rw[MS size r _ a];simp
theorem MT(size:Nat):∀(l a:List En),∀g∈eX size a l,g≠[]
 | [],_,g,h=>by simp[eX]at h
 |e::r,a,g,h=>by
  unfold eX at h
  split at h
  .rcases bI.1 h with rfl|h
   .simp
   .exact MT size r [] g h
  .exact MT size r _ g h
def mD(g:List En):ByteArray:=match g with| []=>ByteArray.empty|e::_=>e.key
abbrev gG(g:List En):List UInt8:=bC aq (bu g)
def bZ(a:List (List En)):List UInt8:=a.flatMap gG
def kh:Nat->List (List En)->List UInt8
 |_,[]=>[]
 |at',g::gs=>bp (mD g).data.toList++(aG at'++(aG (gG g).length++kh (at'+(gG g).length) gs))
theorem MU(a b:List (List En)):bZ (a++b)=bZ a++bZ b:=by simp[bZ]
def jI(a b n:Nat):List UInt8:=cK 8 a++(cK 8 b++cK 8 n)
theorem Sv(a b c:Nat):(jI a b c).length=24:=by simp[jI,nD]
def eJ(a:List (List En)):List UInt8:=bZ a++bC aq (kh 0 a)
def ig(a:List (List En))(n:Nat)(b:List UInt8):List UInt8:=
 eJ a++(bC aq b++(jI (bZ a).length (eJ a).length n++cK 4 (eQ aq (jI (bZ a).length (eJ a).length n))))
def numOf(l:List UInt8):Nat:=l.foldr (λb v=>v*256+b.toNat) 0
theorem Sw:∀(k v:Nat),v<256^k->numOf (cK k v)=v
 |0,v,h=>by simp at h;subst h;rfl
 |k+1,v,h=>by
  have b:v/256<256^k:=by rw[Nat.pow_succ]at h;exact Nat.div_lt_of_lt_mul (by rw[Nat.mul_comm];exact h)
  have a:=Sw k (v/256) b;unfold numOf at a ⊢;rw[cK,List.foldr_cons,a,UInt8.toNat_ofNat_of_lt' (by simp[UInt8.size];omega)];omega
theorem aiL:∀(l:List UInt8),numOf l<256^l.length
 | []=>by simp[numOf]
 |b::l=>by have a:=aiL l;unfold numOf at a ⊢;rw[List.foldr_cons,dD,Nat.pow_succ];have:=b.toNat_lt;omega
def Yz(w:World)(B:Nat)(l:List UInt8)(v0 n:Nat)(bv a b:Value)(wr:World):Prop:=
 ∃(i v:Nat),b=.int .i64 i/\i<=n/\a=.int .u64 v/\v<18446744073709551616/\(∃a,aI B wr bv (l++a)/\a.length=i/\cK n v0=a++cK (n-i) v)/\Below B w wr/\B<=wr.heap.size
theorem aiM(h:aI B w bv l)(hB:B<=w.heap.size)(hl:l.length<=1000000000000)(v0:Nat)(hv:v0<18446744073709551616)(hn:n<=8):
  Calls Tryz.prog 160 #[bv,.int .u64 v0,.int .i64 n] w λe w'=>∃v,e=.returned v/\aI B w' v (l++cK n v0)/\Below B w w':=by
 have hst:Yz w B l v0 n bv (.int .u64 v0) (.int .i64 0) w:=⟨0,v0,rfl,by omega,rfl,hv,⟨[],by simpa using h,rfl,rfl⟩,bW _ _,hB⟩
 have bz:=ae hst;clear hst h;go_enter Tryz.func160,Tryz.ntmps160
 go_wp2_with fail
 go_loopw [0,1,8] (λbv vv iv wr=>Yz w B l v0 n bv vv iv wr) (λ_ _ iv _=>n-(intOf iv).toNat)
 case atStart=>exact bz.out
 case round=>
  obtain⟨i,v,rfl,hi,rfl,auv,⟨pre,hown,hpl,lW⟩,hg,DK⟩:=hrel;by_cases hlt:i<n
  .have eN:decide ((i:Int)<(n:Int))=true:=by simp;omega
   have fT:IntKind.i64.wrap ((i:Int)+1)=(i:Int)+1:=aQ _ (by omega);have hx:((v:Int)%256)=(((UInt8.ofNat (v%256)).toNat:Nat):Int):=by rw[UInt8.toNat_ofNat_of_lt' (by simp[UInt8.size];omega)];omega
   obtain⟨v',w',h1,h2,h3⟩:=Lc hown (UInt8.ofNat (v%256)) hx DK (by simp;omega);have cU:=ae h1;have hrel:Yz w B l v0 n v' (.int .u64 ((v:Int)/256)) (.int .i64 ((i:Int)+1)) w':=by refine⟨i+1,v/256,by simp,hlt,by simp,by omega,⟨pre++[UInt8.ofNat (v%256)],by rw[<-jL];exact h2,by simp;omega,?_⟩,Below.trans hg h3,aJ DK h3.size⟩;rw[lW,show n-i=(n-(i+1))+1 by omega,cK];simp
   have aR:=ae hrel;obtain⟨ba,bc,rfl⟩:=hown.slice;clear h1 h2 h3 hrel hown lW hpl hg hx
   go_wp2_with (at_builtin;refine fP rfl rfl rfl rfl cU.out ?_)
   go_roundw
   case rel=>exact aR.out
   case measure=>simp[intOf];omega
  .have fu:i=n:=by omega
   subst fu;have jn:cK i v0=pre:=by rw[lW];simp[cK]
   have kz:=hown;rw[<-jn]at kz;have ib:=ae kz;obtain⟨ba,bc,rfl⟩:=hown.slice;clear kz hown lW jn;go_wp2;go_ret;exact⟨_,rfl,ib.out,hg⟩
def aAA(w:World)(l:List UInt8)(a b:Value)(wr:World):Prop:=∃k:Nat,k<=l.length/\b=.int .i64 ((k:Int)-1)/\a=.int .u64 (numOf (l.drop k):Nat)/\wr=w
theorem aAB{v b:Nat}(a:v<72057594037927936)(a:b<256):bits .or .u64 ((v:Int)*256) (b:Int)=((v*256+b:Nat):Int):=by
 have a:v*256<18446744073709551616:=by omega
 have:=u64_or_nat (v*256) b a (by omega);rw[show((v*256:Nat):Int)=(v:Int)*256 by simp]at this;rw[this,nat_join 8 (v*256) b (by omega) (by omega)]
theorem Sx{l:List UInt8}(h:Bv w bv l)(a:l.length<=8):
  Calls Tryz.prog 146 #[bv] w λe w'=>e=.returned (.int .u64 (numOf l:Nat))/\w'=w:=by
 obtain⟨g,a,rfl,a,hm,hn,h⟩:=h;have i:=ae h;have a:IntKind.i64.wrap ((l.length:Int)-1)=(l.length:Int)-1:=aQ _ (by omega);clear h;go_enter Tryz.func146,Tryz.ntmps146
 go_wp2_with fail
 clear a
 go_loopw [3,4] (λc a wr=>aAA w l c a wr) (λ_ a _=>((intOf a)+1).toNat)
 case atStart=>exact⟨l.length,aw _,rfl,by simp[numOf],rfl⟩
 case round=>
  obtain⟨k,d,rfl,rfl,a⟩:=hrel;have c:=a.symm;subst c;clear a;cases k with
  |zero=>rw[show(((0:Nat):Int)-1)= -1 by rfl];go_wp2;go_ret;exact⟨by simp,rfl⟩
  |succ m=>
   rw[show(((m+1:Nat):Int)-1)=(m:Int)by omega];obtain⟨a,c⟩:∃a,l[m]?=some a:=⟨l[m],by simp[show m<l.length by omega]⟩
   obtain⟨b,o,rfl,lb,f⟩:∃b o,g=some ⟨b,o,none⟩/\b<w.heap.size/\∀(g:Nat)(k:UInt8),l[g]?=some k->w.cell? ⟨b,o+g,none⟩=some (.int .u8 k.toNat):=by
    rcases i.out with b|b
    .rw[b]at d;simp at d
    .exact b
   have b:=f m a c;have b:numOf (l.drop m)=numOf (l.drop (m+1))*256+a.toNat:=by obtain⟨d,e⟩:=dW.1 c;rw[nA d,e];rfl
   have d:=aiL (l.drop (m+1));have e:256^(l.drop (m+1)).length<=256^7:=Nat.pow_le_pow_right (by decide) (by rw[List.length_drop];omega);have g:=a.toNat_lt;have h:numOf (l.drop (m+1))<72057594037927936:=bF d (aJ e (by decide));generalize numOf (l.drop (m+1))=v at*;generalize a.toNat=x at*;have x1:=aAB h g;have a:(m:Int)<(l.length:Int):=by omega
   have a:(0:Int)<=(m:Int):=by omega
   have a:IntKind.u64.wrap ((v:Int)*256)=(v:Int)*256:=by simp[IntKind.wrap,IntKind.bits,IntKind.signed];omega
   have a:IntKind.i64.wrap ((m:Int)-1)=(m:Int)-1:=aQ _ (by omega);have a:=ae b;clear b f c d e;go_wp2;go_roundw
   case rel=>exact⟨m,by omega,rfl,by rw[a.out];simp,rfl⟩
   case measure=>simp[intOf]
end Go.Proofs.YtoolkdapflaeeaaGreatDoor
