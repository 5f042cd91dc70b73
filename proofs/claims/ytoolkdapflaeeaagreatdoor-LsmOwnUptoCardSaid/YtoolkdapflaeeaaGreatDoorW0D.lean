/- Helpers. -/
import Derived.Test.YtoolkdapflaeeaaGreatDoorW0C
import Derived.LaidEql
import Derived.Stop.Asserts
import Derived.Lib.IfaceEq
import Derived.RowKitTokens
import Derived.Test.YtoolkdapflaeeaaGreatDoorW05
import Derived.Deep.CutRange
import Derived.Deep.DeepCutAuto
set_option maxRecDepth 100000
set_option maxHeartbeats 16000000
set_option linter.unusedSimpArgs false
open Go
variable{A A' B B' C K K' T T' Z b db ha aX hm i i' j lb m mb n p qb r s sb seq tb tm wal:Nat}{F F' G G' M N:Nat→Prop}{W w w' w1 w2 w3:World}{arr cs:Array Value}{av bv dv lv pv tv v x0 x1 x2 x3 x4:Value}{ds:List Int}{e ty:TypeId}{fz:Nat × Nat}{k0 k1:ByteArray}{l nm:List UInt8}{xs:List Value}
namespace Go.Proofs.YtoolkdapflaeeaaGreatDoor
open Go.RowKit Go.Gl Go.aF Mn
section
structure Tr where
 db:Nat
 sb:Nat
 p:Nat
 r:Nat
 lb:Nat
 mb:Nat
 tm:Nat
 hm:Nat
 ha:Nat
 o:Od
 drv:Value
 ds:List Int
 tv:Value
 dv:Value
 V:bM
 seq:Nat
 m:Nat
 N:Nat->Prop
 F:Nat->Prop
 ns:List Nd
 g:Int->Option Value
 gm:Nat
 ld:Int->Option (Nat×List En)
 hh:Int->Option Value
 hn:Nat
def FT(t:Tr):Nat->Prop:=λb=>t.F b\/FM t.mb t.ha t.ns b\/b=t.db\/b=t.sb\/b=t.lb\/b=t.tm\/b=t.hm
structure cR(Z B Nn:Nat)(w:World)(t:Tr)(f:Lk)(T K:Nat):Prop where
 cell:fA w t.db t.sb t.o t.drv (.pointer (some ⟨t.lb,0,none⟩)) t.mb t.tm t.seq t.hm
 set:eH w t.sb t.p t.tv t.V ((0:Nat):Int)
 own:Mn.Own 0 w t.tv t.V.tabs
 log:eA w t.lb t.p cy (t.m:Int)
 mem:∃aX,ed t.N w t.mb t.ha t.ns aX t.dv t.ds
 tabs:eh w t.tm encI t.g t.gm
 load:∀k b l,t.ld k=some (b,l)->t.g k=some (.pointer (some ⟨b,0,none⟩))/\rp t.N w b l
 held:eh w t.hm Ov t.hh t.hn
 draws:Iw t.N w t.drv t.ds
 aS:Dl Z B w t.p t.r f T K t.F
 dK:df Nn B w
 apart:∀b,t.N b->b<w.heap.size/\¬FT t b
 base:∀b,FT t b->B<=b
 vt:¬t.F t.tm
 wX:¬t.F t.hm
 AW:t.tm≠t.hm
def Uj(ty:TypeId):Prop:=ty=125\/ty=165\/ty=5\/ty=181\/ty=176\/ty=287\/ty=93\/ty=154\/ty=167
instance(ty:TypeId):Decidable (Uj ty):=by unfold Uj;infer_instance
theorem eh.map{w:World}{enc:Int->Value}{g:Int->Option Value}(a:eh w r enc g m):w.heap[r]?≠some (.cells arr ty fz):=a.aaM arr ty fz
theorem ed.kind{w:World}{c:List Nd}(a:ed N w tb ha c aX dv ds)(d:FM tb ha c b):∃arr ty,w.heap[b]?=some (.cells arr ty (0,0))/\(ty=181\/ty=176\/ty=287):=by
 rcases d with rfl|rfl|⟨n,hn,rfl|rfl⟩
 .exact⟨_,_,a.self,.inl rfl⟩
 .exact⟨_,_,a.skip.ju.1,.inr (.inr rfl)⟩
 .exact⟨_,_,a.skip.node n hn,.inr (.inl rfl)⟩
 .obtain⟨b,r,e⟩:=ry hn;exact⟨_,_,a.skip.ju.2.at e,.inr (.inr rfl)⟩
variable{Z B Nn:Nat}{w w':World}{t:Tr}{f f':Lk}{T K T' K':Nat}
theorem cR.kind(a:cR Z B Nn w t f T K)(e:FT t b)(c:w.heap[b]?=some (.cells arr ty fz)):Uj ty:=by
 have h:w.heap[t.db]?=some (.cells (rh t.sb t.o t.drv (.pointer (some ⟨t.lb,0,none⟩)) t.mb t.tm t.seq t.hm) 93 (0,0)):=a.cell;have i:w.heap[t.sb]?=some (.cells (setCells t.p t.tv t.V ((0:Nat):Int)) 154 (0,0)):=a.set;have f:∀{j k:Array Value}{d g:TypeId}{l m:Nat×Nat},w.heap[b]?=some (.cells j d l)->w.heap[b]?=some (.cells k g m)->d=g:=λb d=>(cp (bh (b.symm.trans d))).2.1
 rcases e with e|e|rfl|rfl|rfl|rfl|rfl
 .by_cases b:ty=125
  .exact .inl b
  .by_cases d:ty=165
   .exact .inr (.inl d)
   .by_cases g:ty=5
    .exact .inr (.inr (.inl g))
    .exact absurd e (a.aS.apart c b d g)
 .obtain⟨aX,hm⟩:=a.mem;obtain⟨g,g,b,d⟩:=hm.kind e;rw[f c b];rcases d with rfl|rfl|rfl<;>decide
 .rw[f c h];decide
 .rw[f c i];decide
 .rw[f c a.log.self];decide
 .exact absurd c a.tabs.map
 .exact absurd c a.held.map
theorem cR.off(a:cR Z B Nn w t f T K)(c:w.heap[b]?=some (.cells arr ty fz))(d:¬Uj ty):¬FT t b:=λb=>d (a.kind b c)
structure NeT(t:Tr):Prop where
 yP:¬t.F t.db
 fsb:¬t.F t.sb
 flb:¬t.F t.lb
 fm:∀b,FM t.mb t.ha t.ns b->¬t.F b/\b≠t.db/\b≠t.sb/\b≠t.lb/\b≠t.tm/\b≠t.hm
 abc:t.db≠t.sb
 abd:t.db≠t.lb
 ana:t.sb≠t.lb
 abe:t.db≠t.tm
 anb:t.db≠t.hm
 abf:t.sb≠t.tm
 anc:t.sb≠t.hm
 abg:t.lb≠t.tm
 ane:t.lb≠t.hm
theorem cR.ne(c:cR Z B Nn w t f T K):NeT t:=by
 have f:w.heap[t.db]?=some (.cells (rh t.sb t.o t.drv (.pointer (some ⟨t.lb,0,none⟩)) t.mb t.tm t.seq t.hm) 93 (0,0)):=c.cell;have g:w.heap[t.sb]?=some (.cells (setCells t.p t.tv t.V ((0:Nat):Int)) 154 (0,0)):=c.set;have h:=c.log.self;have d:∀{i b:Nat}{m k:Array Value}{j a:TypeId}{n l:Nat×Nat},w.heap[i]?=some (.cells m j n)->w.heap[b]?=some (.cells k a l)->j≠a->i≠b:=λa o k e=>by subst e;exact k (cp (bh (a.symm.trans o))).2.1
 have k:∀{i:Nat}{m:Array Value}{j:TypeId}{n:Nat×Nat},w.heap[i]?=some (.cells m j n)->i≠t.tm:=λa e=>by subst e;exact c.tabs.map a
 have l:∀{i:Nat}{m:Array Value}{j:TypeId}{n:Nat×Nat},w.heap[i]?=some (.cells m j n)->i≠t.hm:=λa e=>by subst e;exact c.held.map a
 refine⟨c.aS.apart f (by decide) (by decide) (by decide),c.aS.apart g (by decide) (by decide) (by decide),c.aS.apart h (by decide) (by decide) (by decide),λb b=>?_,d f g (by decide),d f h (by decide),d g h (by decide),k f,l f,k g,l g,k h,l h⟩;obtain⟨aX,hm⟩:=c.mem;obtain⟨arr,ty,a,o⟩:=hm.kind b;rcases o with rfl|rfl|rfl
 .exact⟨c.aS.apart a (by decide) (by decide) (by decide),d a f (by decide),d a g (by decide),d a h (by decide),k a,l a⟩
 .exact⟨c.aS.apart a (by decide) (by decide) (by decide),d a f (by decide),d a g (by decide),d a h (by decide),k a,l a⟩
 .exact⟨c.aS.apart a (by decide) (by decide) (by decide),d a f (by decide),d a g (by decide),d a h (by decide),k a,l a⟩
theorem cR.lt(a:cR Z B Nn w t f T K)(c:FT t b):b<w.heap.size:=by
 rcases c with c|c|rfl|rfl|rfl|rfl|rfl
 .exact(a.aS.foot c).2
 .obtain⟨aX,hm⟩:=a.mem;exact hm.lt c
 .exact a.cell.cells.2.2.2.2.2.2.2
 .exact a.set.cells.2.2.2.2.2.2
 .exact a.log.cells.2.2.2
 .exact a.tabs.lt
 .exact a.held.lt
structure fJ(w:World)(t:Tr)(w':World)(t':Tr):Prop where
 sep:Sep (FT t) w w' (FT t')
 new:∀b,t'.N b->t.N b\/w.heap.size<=b
 db:t'.db=t.db
 sb:t'.sb=t.sb
 p:t'.p=t.p
 r:t'.r=t.r
 hm:t'.hm=t.hm
 tm:t'.tm=t.tm
 lb:t'.lb=t.lb
 o:t'.o=t.o
 drv:t'.drv=t.drv
 ds:t'.ds=t.ds
theorem fJ.refl(w:World)(t:Tr):fJ w t w t:=⟨Sep.refl _ _,λ_ a=>.inl a,rfl,rfl,rfl,rfl,rfl,rfl,rfl,rfl,rfl,rfl⟩
theorem fJ.trans{c d e:Tr}(a:fJ w1 c w2 d)(k:fJ w2 d w3 e):fJ w1 c w3 e:=
 ⟨a.sep.trans k.sep,λb c=>(k.new b c).elim (a.new b) (λb=>.inr (aJ a.sep.size b)),k.db.trans a.db,k.sb.trans a.sb,k.p.trans a.p,k.r.trans a.r,k.hm.trans a.hm,k.tm.trans a.tm,k.lb.trans a.lb,k.o.trans a.o,k.drv.trans a.drv,k.ds.trans a.ds⟩
theorem fJ.grow{b c:Tr}(a:fJ w1 b w2 c)(d:Grow w2 w3):fJ w1 b w3 c:=
 ⟨a.sep.trans (Sep.bO d),a.new,a.db,a.sb,a.p,a.r,a.hm,a.tm,a.lb,a.o,a.drv,a.ds⟩
theorem fJ.bO(t:Tr)(a:Grow w w'):fJ w t w' t:=(fJ.refl w t).grow a
theorem eH.same{V:bM}{n:Int}(a:eH w sb p tv V n)(b:w'.heap[sb]?=w.heap[sb]?):eH w' sb p tv V n:=b.trans a
theorem eA.same{last:Int}(a:eA w lb p nm last)(b:w'.heap[lb]?=w.heap[lb]?):eA w' lb p nm last:=⟨b.trans a.self⟩
theorem Db{l:List Tb}(c:Mn.Own A w v l)(d:∀(b:Nat)(a:Array Value),w.heap[b]?=some (.cells a 101 (0,0))->w'.heap[b]?=w.heap[b]?):Mn.Own A w' v l:=by
 refine xY c λb e=>?_
 obtain⟨a,f,_⟩:=sT c e;exact d b a f
theorem cR.grow(a:cR Z B Nn w t f T K)(c:Grow w w'):cR Z B Nn w' t f T K:=by obtain⟨aX,hm⟩:=a.mem;exact⟨a.cell.grow c,a.set.grow c,fB a.own c,a.log.grow c,⟨aX,hm.grow c⟩,a.tabs.grow c,λd b l e=>⟨(a.load d b l e).1,(a.load d b l e).2.kp (.bO c)⟩,a.held.grow c,a.draws.kp (.bO c),a.aS.grow c,a.dK.grow c a.aS.base,λb d=>⟨bF (a.apart b d).1 c.size,(a.apart b d).2⟩,a.base,a.vt,a.wX,a.AW⟩
theorem cR.yT(c:cR Z B Nn w t f T K)(d:∀b,G b->FT t b)(a:Sep G w w' G'):Kp t.N w w':=
 ⟨a.size,λb e f=>a.out b f (λa=>(c.apart b e).2 (d b a))⟩
theorem cR.OG(a:cR Z B Nn w t f T K)(d:∀b,G b->FT t b)(e:Sep G w w' G'):Mn.Own 0 w' t.tv t.V.tabs:=
 Db a.own (λb c c=>e.out b (af c) (λe=>a.off c (by decide) (d b e)))
theorem cR.Kf(a:cR Z B Nn w t f T K)(c:∀b,G b->FT t b)(d:Sep G w w' G'):df Nn B w':=
 a.dK.keep (λb e=>d.out b (bF e a.aS.base) (λd=>by have:=a.base b (c b d);omega))
theorem cR.Gf(a:cR Z B Nn w t f T K)(d:∀b,G b->FT t b)(e:Sep G w w' G'):∀k b l,t.ld k=some (b,l)->t.g k=some (.pointer (some ⟨b,0,none⟩))/\rp t.N w' b l:=
 λk b l c=>⟨(a.load k b l c).1,(a.load k b l c).2.kp (a.yT d e)⟩
theorem cR.Gg(a:cR Z B Nn w t f T K)(j:Dl Z B w' t.p t.r f' T' K' F')(d:Sep t.F w w' F'):cR Z B Nn w' {t with F:=F'} f' T' K'/\fJ w t w' {t with F:=F'}:=by
 have e:∀b,t.F b->FT t b:=λb c=>.inl c
 have n:=a.ne;obtain⟨aX,hm⟩:=a.mem;have g:∀b,FT {t with F:=F'} b->FT t b\/w.heap.size<=b:=λb c=>by
  rcases c with c|c
  .exact(d.foot b c).imp .inl id
  .exact .inl (.inr c)
 have i:∀b,FT t b->¬t.F b->¬F' b:=λb c k h=>by
  rcases d.foot b h with f|f
  .exact k f
  .have:=a.lt c;omega
 refine⟨⟨a.cell.keep (d.out _ (a.lt (.inr (.inr (.inl rfl)))) n.yP),a.set.same (d.out _ (a.lt (.inr (.inr (.inr (.inl rfl))))) n.fsb),a.OG e d,a.log.same (d.out _ (a.lt (.inr (.inr (.inr (.inr (.inl rfl)))))) n.flb),⟨aX,hm.keep (λb c=>d.out b (hm.lt c) (n.fm b c).1) (a.yT e d)⟩,
  a.tabs.keep (d.out _ a.tabs.lt a.vt),a.Gf e d,a.held.keep (d.out _ a.held.lt a.wX),a.draws.kp (a.yT e d),j,a.Kf e d,λb c=>⟨bF (a.apart b c).1 d.size,λh=>?_⟩,λb c=>?_,i _ (.inr (.inr (.inr (.inr (.inr (.inl rfl)))))) a.vt,i _ (.inr (.inr (.inr (.inr (.inr (.inr rfl)))))) a.wX,a.AW⟩,
  ⟨(d.mono e).tgt g,λb c=>.inl c,rfl,rfl,rfl,rfl,rfl,rfl,rfl,rfl,rfl,rfl⟩⟩
 .have f:=a.apart b c
  rcases g b h with d|d
  .exact f.2 d
  .omega
 .rcases g b c with d|d
  .exact a.base b d
  .exact aJ a.aS.base d
end
section
variable{Z B Nn:Nat}{w w' w'':World}{t:Tr}{f f':Lk}{T K T' K':Nat}
theorem Sep.AX{g:Nat}(a:GX g w w'):Sep (λb=>b=g) w w' (λb=>b=g):=by obtain⟨c,b,d,f,e⟩:=a;exact⟨c,b,d,f,λb a c=>e b a (λd=>c (by cases d;rfl)),λb a=>.inl a⟩
theorem cR.com(c:cR Z B Nn w t f T K){g:Value}{h:bM}(o:eH w' t.sb t.p g h ((0:Nat):Int))(p:Mn.Own 0 w' g h.tabs)(q:Dl Z B w' t.p t.r f' T' K' F')(d:Sep (FL t.F t.sb) w w' (FL F' t.sb))(_hsb:¬F' t.sb):
  cR Z B Nn w' {t with tv:=g,V:=h,F:=F'} f' T' K'/\fJ w t w' {t with tv:=g,V:=h,F:=F'}:=by
 have f:∀b,FL t.F t.sb b->FT t b:=λb a=>by
  rcases a with a|rfl
  .exact .inl a
  .exact .inr (.inr (.inr (.inl rfl)))
 have n:=c.ne;obtain⟨aX,hm⟩:=c.mem;have i:∀b,FT {t with tv:=g,V:=h,F:=F'} b->FT t b\/w.heap.size<=b:=λb a=>by
  rcases a with a|a
  .exact(d.foot b (.inl a)).imp (f b) id
  .exact .inl (.inr a)
 have m:∀b,FT t b->¬t.F b->b≠t.sb->¬F' b:=λb a j k l=>by
  rcases d.foot b (.inl l)with g|g
  .exact g.elim j k
  .have:=c.lt a;omega
 have h:∀b,FT t b->¬t.F b->b≠t.sb->w'.heap[b]?=w.heap[b]?:=λb a j k=>d.out b (c.lt a) (λg=>g.elim j k)
 refine⟨⟨c.cell.keep (h _ (.inr (.inr (.inl rfl))) n.yP n.abc),o,p,c.log.same (h _ (.inr (.inr (.inr (.inr (.inl rfl))))) n.flb (λe=>n.ana e.symm)),⟨aX,hm.keep (λb a=>h b (.inr (.inl a)) (n.fm b a).1 (n.fm b a).2.2.1) (c.yT f d)⟩,
  c.tabs.keep (h _ (.inr (.inr (.inr (.inr (.inr (.inl rfl)))))) c.vt (λe=>n.abf e.symm)),c.Gf f d,c.held.keep (h _ (.inr (.inr (.inr (.inr (.inr (.inr rfl)))))) c.wX (λe=>n.anc e.symm)),c.draws.kp (c.yT f d),q,c.Kf f d,λb a=>⟨bF (c.apart b a).1 d.size,λl=>?_⟩,λb a=>?_,m _ (.inr (.inr (.inr (.inr (.inr (.inl rfl)))))) c.vt (λe=>n.abf e.symm),m _ (.inr (.inr (.inr (.inr (.inr (.inr rfl)))))) c.wX (λe=>n.anc e.symm),c.AW⟩,
  ⟨(d.mono f).tgt i,λb a=>.inl a,rfl,rfl,rfl,rfl,rfl,rfl,rfl,rfl,rfl,rfl⟩⟩
 .have g:=c.apart b a
  rcases i b l with d|d
  .exact g.2 d
  .omega
 .rcases i b a with d|d
  .exact c.base b d
  .exact aJ c.aS.base d
theorem cR.Oz(c:cR Z B Nn w t f T K){g:Nat}(o:eA w' t.lb t.p cy (g:Int))(p:Dl Z B w' t.p t.r f' T' K' F')(d:Sep (FL t.F t.lb) w w' (FL F' t.lb)):
  cR Z B Nn w' {t with m:=g,F:=F'} f' T' K'/\fJ w t w' {t with m:=g,F:=F'}:=by
 have f:∀b,FL t.F t.lb b->FT t b:=λb a=>by
  rcases a with a|rfl
  .exact .inl a
  .exact .inr (.inr (.inr (.inr (.inl rfl))))
 have n:=c.ne;obtain⟨aX,hm⟩:=c.mem;have i:∀b,FT {t with m:=g,F:=F'} b->FT t b\/w.heap.size<=b:=λb a=>by
  rcases a with a|a
  .exact(d.foot b (.inl a)).imp (f b) id
  .exact .inl (.inr a)
 have m:∀b,FT t b->¬t.F b->b≠t.lb->¬F' b:=λb a j k l=>by
  rcases d.foot b (.inl l)with g|g
  .exact g.elim j k
  .have:=c.lt a;omega
 have h:∀b,FT t b->¬t.F b->b≠t.lb->w'.heap[b]?=w.heap[b]?:=λb a j k=>d.out b (c.lt a) (λg=>g.elim j k)
 refine⟨⟨c.cell.keep (h _ (.inr (.inr (.inl rfl))) n.yP n.abd),c.set.same (h _ (.inr (.inr (.inr (.inl rfl)))) n.fsb n.ana),c.OG f d,o,⟨aX,hm.keep (λb a=>h b (.inr (.inl a)) (n.fm b a).1 (n.fm b a).2.2.2.1) (c.yT f d)⟩,
  c.tabs.keep (h _ (.inr (.inr (.inr (.inr (.inr (.inl rfl)))))) c.vt (λe=>n.abg e.symm)),c.Gf f d,c.held.keep (h _ (.inr (.inr (.inr (.inr (.inr (.inr rfl)))))) c.wX (λe=>n.ane e.symm)),c.draws.kp (c.yT f d),p,c.Kf f d,λb a=>⟨bF (c.apart b a).1 d.size,λl=>?_⟩,λb a=>?_,m _ (.inr (.inr (.inr (.inr (.inr (.inl rfl)))))) c.vt (λe=>n.abg e.symm),m _ (.inr (.inr (.inr (.inr (.inr (.inr rfl)))))) c.wX (λe=>n.ane e.symm),c.AW⟩,
  ⟨(d.mono f).tgt i,λb a=>.inl a,rfl,rfl,rfl,rfl,rfl,rfl,rfl,rfl,rfl,rfl⟩⟩
 .have g:=c.apart b a
  rcases i b l with d|d
  .exact g.2 d
  .omega
 .rcases i b a with d|d
  .exact c.base b d
  .exact aJ c.aS.base d
theorem Bw.lt(a:Bw M w v l):Bw (λb=>M b/\b<w.heap.size) w v l:=by
 refine⟨a.1,?_⟩;rcases a.2 with c|c
 .exact .inl c
 .by_cases d:l=[]
  .exact .inl d
  .refine .inr λb e=>⟨c b e,?_⟩
   obtain⟨b,b,rfl,_,_,_,b⟩:=a.1;rcases b with b|⟨b',o,rfl,hlt,_⟩
   .exact absurd b d
   .cases e;exact hlt
theorem Es.lt{xs:List Ev}(c:Es M w v xs):Es (λb=>M b/\b<w.heap.size) w v xs:=by
 obtain⟨⟨d,e,f,g,h,i,a⟩,j⟩:=c;refine⟨⟨d,e,f,g,h,i,?_⟩,λc d=>(j c d).lt⟩;rcases a with a|⟨b,o,q1,q2,q3,q4⟩
 .exact .inl a
 .exact .inr ⟨b,o,q1,⟨q2,q3⟩,q3,q4⟩
theorem ve.inN{l:List En}(a:ve A w tb l)(c:∀b,A<=b->b<w.heap.size->N b)(e:cx l)(f:l.length<=1000000)(g:∀x∈l,x.val.length<=33554432):rp N w tb l:=by obtain⟨v,h,i,j,d,k,l,m⟩:=a;exact⟨⟨v,h,i,j,d,l,(m.es (M:=λb=>A<=b) (λb a=>a.elim (λx=>x.elim) id)).lt.mono (λb a=>c b a.1 a.2)⟩,c tb k (af d),e,f,g⟩
theorem cR.ldd(a:cR Z B Nn w t f T K){n:Nat}{l:List En}{tb:Nat}(i:TZ w t.tm t.g t.gm n l w' tb)(o:cx l)(p:l.length<=1000000)(q:∀x∈l,x.val.length<=33554432):
  cR Z B Nn w' {t with g:=tJ t.g (n:Int) (.pointer (some ⟨tb,0,none⟩)),gm:=t.gm+1,ld:=λk=>if k=(n:Int)then some (tb,l)else t.ld k,N:=λb=>t.N b\/(w.heap.size<=b/\b<w'.heap.size)} f T K/\
  fJ w t w' {t with g:=tJ t.g (n:Int) (.pointer (some ⟨tb,0,none⟩)),gm:=t.gm+1,ld:=λk=>if k=(n:Int)then some (tb,l)else t.ld k,N:=λb=>t.N b\/(w.heap.size<=b/\b<w'.heap.size)}:=by
 have d:=Sep.AX i.gx;have g:∀b,b=t.tm->FT t b:=λb c=>.inr (.inr (.inr (.inr (.inr (.inl c)))))
 have n:=a.ne;obtain⟨aX,hm⟩:=a.mem;have j:∀b,t.N b->t.N b\/(w.heap.size<=b/\b<w'.heap.size):=λb c=>.inl c
 have f:∀b,FT t b->b≠t.tm->w'.heap[b]?=w.heap[b]?:=λb c h=>d.out b (a.lt c) h
 have l:=a.yT g d;refine⟨⟨a.cell.keep (f _ (.inr (.inr (.inl rfl))) n.abe),a.set.same (f _ (.inr (.inr (.inr (.inl rfl)))) n.abf),a.OG g d,a.log.same (f _ (.inr (.inr (.inr (.inr (.inl rfl))))) n.abg),⟨aX,(hm.keep (λb c=>f b (.inr (.inl c)) (n.fm b c).2.2.2.2.1) l).mono j⟩,
  i.map,λk b n h=>?_,a.held.keep (f _ (.inr (.inr (.inr (.inr (.inr (.inr rfl)))))) (λe=>a.AW e.symm)),(a.draws.kp l).mono j,?_,a.Kf g d,λb c=>?_,a.base,a.vt,a.wX,a.AW⟩,
  ⟨(d.mono g).tgt (λb c=>.inl c),λb c=>c.imp id (λg=>g.1),rfl,rfl,rfl,rfl,rfl,rfl,rfl,rfl,rfl,rfl⟩⟩
 .dsimp only at h ⊢
  split at h
  .rename_i m
   cases h;exact⟨by unfold tJ;rw[if_pos m],i.sst.inN (λb g i=>.inr ⟨g,i⟩) o p q⟩
  .rename_i m
   obtain⟨g,i⟩:=a.load k b n h;exact⟨by unfold tJ;rw[if_neg m];exact g,(i.kp l).mono j⟩
 .obtain⟨g,h,i,j,k⟩:=a.aS;exact⟨g,h.keep d.size (λb c=>f b (.inl c) (λe=>a.vt (by rw[<-e];exact c))),i,j,k⟩
 .rcases c with c|c
  .exact⟨bF (a.apart b c).1 d.size,(a.apart b c).2⟩
  .exact⟨c.2,λb=>by have:=a.lt b;omega⟩
theorem cR.laid(d:cR Z B Nn w t f T K){ws:List Wr}{c:Nat->Prop}{j:List Nd}(g:Og t.N w t.db t.sb t.o t.drv (.pointer (some ⟨t.lb,0,none⟩)) t.mb t.tm (max t.seq s) t.hm t.ha t.ns t.dv t.ds s ws c j w'):
  cR Z B Nn w' {t with seq:=max t.seq s,ns:=j,N:=c} f T K/\fJ w t w' {t with seq:=max t.seq s,ns:=j,N:=c}:=by
 have h:=g.sep;have i:∀b,FL (FM t.mb t.ha t.ns) t.db b->FT t b:=λb a=>by
  rcases a with a|rfl
  .exact .inr (.inl a)
  .exact .inr (.inr (.inl rfl))
 have n:=d.ne;have u:=d.yT i h;have q:∀b,FT {t with seq:=max t.seq s,ns:=j,N:=c} b->FT t b\/w.heap.size<=b:=λb a=>by
  rcases a with a|a|a
  .exact .inl (.inl a)
  .exact(h.foot b (.inl a)).imp (i b) id
  .exact .inl (.inr (.inr a))
 have v:∀b,t.F b->¬FL (FM t.mb t.ha t.ns) t.db b:=λb a c=>by
  rcases c with c|rfl
  .exact(n.fm b c).1 a
  .exact n.yP a
 have k:∀b,FT t b->¬FL (FM t.mb t.ha t.ns) t.db b->w'.heap[b]?=w.heap[b]?:=λb a f=>h.out b (d.lt a) f
 have p:∀b,b≠t.db->(∀f,FM t.mb t.ha t.ns f->f≠b)->¬FL (FM t.mb t.ha t.ns) t.db b:=λb m o c=>by
  rcases c with c|c
  .exact o b c rfl
  .exact m c
 refine⟨⟨g.cell,d.set.same (k _ (.inr (.inr (.inr (.inl rfl)))) (p _ (λe=>n.abc e.symm) (λf j=>(n.fm f j).2.2.1))),d.OG i h,d.log.same (k _ (.inr (.inr (.inr (.inr (.inl rfl))))) (p _ (λe=>n.abd e.symm) (λf j=>(n.fm f j).2.2.2.1))),g.mem,
  d.tabs.keep (k _ (.inr (.inr (.inr (.inr (.inr (.inl rfl)))))) (p _ (λe=>n.abe e.symm) (λf j=>(n.fm f j).2.2.2.2.1))),λr b l s=>⟨(d.Gf i h r b l s).1,(d.Gf i h r b l s).2.mono g.sub⟩,d.held.keep (k _ (.inr (.inr (.inr (.inr (.inr (.inr rfl)))))) (p _ (λe=>n.anb e.symm) (λf j=>(n.fm f j).2.2.2.2.2))),(d.draws.kp u).mono g.sub,?_,d.Kf i h,λb a=>⟨(g.apart b a).1,λc=>?_⟩,λb a=>?_,d.vt,d.wX,d.AW⟩,
  ⟨(h.mono i).tgt q,g.new,rfl,rfl,rfl,rfl,rfl,rfl,rfl,rfl,rfl,rfl⟩⟩
 .obtain⟨e,f,i,j,l⟩:=d.aS;exact⟨e,f.keep h.size (λb a=>k b (.inl a) (v b a)),i,j,l⟩
 .rcases g.new b a with m|m
  .rcases c with c|c|c
   .exact(d.apart b m).2 (.inl c)
   .exact(g.apart b a).2 c
   .exact(d.apart b m).2 (.inr (.inr c))
  .rcases c with c|c|c
   .have:=d.lt (.inl c);omega
   .exact(g.apart b a).2 c
   .have:=d.lt (.inr (.inr c));omega
 .rcases q b a with o|o
  .exact d.base b o
  .exact aJ d.aS.base o
theorem cR.aFM(c:cR Z B Nn w t f T K){mb ha:Nat}{dv:Value}(p:ed (λb=>w.heap.size<=b/\b<w'.heap.size/\¬FM mb ha [] b) w' mb ha [] 0 dv t.ds)(g:Grow w w')(h:w.heap.size<=mb)(k:w.heap.size<=ha):
  cR Z B Nn (w'.setCell ⟨t.db,8,none⟩ (.pointer (some ⟨mb,0,none⟩))) {t with mb:=mb,ha:=ha,ns:=[],dv:=dv,N:=λb=>t.N b\/(w.heap.size<=b/\b<w'.heap.size/\¬FM mb ha [] b)} f T K/\
  fJ w t (w'.setCell ⟨t.db,8,none⟩ (.pointer (some ⟨mb,0,none⟩))) {t with mb:=mb,ha:=ha,ns:=[],dv:=dv,N:=λb=>t.N b\/(w.heap.size<=b/\b<w'.heap.size/\¬FM mb ha [] b)}:=by
 have a:=c.lt (b:=t.db) (.inr (.inr (.inl rfl)));have d:Sep (λb=>b=t.db) w (w'.setCell ⟨t.db,8,none⟩ (.pointer (some ⟨mb,0,none⟩))) (λb=>b=t.db):=
  ⟨g.os,g.tape,g.output,by simpa using g.size,λb a i=>(aN _ _ _ _ i).trans (g.block b a),λb a=>.inl a⟩
 have f:∀b,b=t.db->FT t b:=λb a=>.inr (.inr (.inl a))
 have n:=c.ne;have q:=c.yT f d;have m:∀b,t.N b->t.N b\/(w.heap.size<=b/\b<w'.heap.size/\¬FM mb ha [] b):=λb a=>.inl a
 have o:∀b,FM mb ha [] b->w.heap.size<=b:=λb a=>by
  rcases a with rfl|rfl|⟨_,j,_⟩
  .exact h
  .exact k
  .cases j
 have k:∀b,FT {t with mb:=mb,ha:=ha,ns:=[],dv:=dv,N:=λb=>t.N b\/(w.heap.size<=b/\b<w'.heap.size/\¬FM mb ha [] b)} b->FT t b\/w.heap.size<=b:=λb a=>by
  rcases a with a|a|a
  .exact .inl (.inl a)
  .exact .inr (o b a)
  .exact .inl (.inr (.inr a))
 have h:∀b,FT t b->b≠t.db->(w'.setCell ⟨t.db,8,none⟩ (.pointer (some ⟨mb,0,none⟩))).heap[b]?=w.heap[b]?:=λb a i=>d.out b (c.lt a) i
 have i:=c.cell.grow g;have g:Kp (λb=>w.heap.size<=b/\b<w'.heap.size/\¬FM mb ha [] b) w' (w'.setCell ⟨t.db,8,none⟩ (.pointer (some ⟨mb,0,none⟩))):=⟨by simp,λb a _=>aN _ _ _ _ (λe=>by have r:b=t.db:=e;omega)⟩
 refine⟨⟨Go.Gl.aK i 8 _,c.set.same (h _ (.inr (.inr (.inr (.inl rfl)))) (λe=>n.abc e.symm)),c.OG f d,c.log.same (h _ (.inr (.inr (.inr (.inr (.inl rfl))))) (λe=>n.abd e.symm)),⟨0,(p.keep (λb a=>aN _ _ _ _ (λe=>by have r:b=t.db:=e;have:=o b a;omega)) g).mono (λb a=>.inr a)⟩,
  c.tabs.keep (h _ (.inr (.inr (.inr (.inr (.inr (.inl rfl)))))) (λe=>n.abe e.symm)),λg b l i=>⟨(c.Gf f d g b l i).1,(c.Gf f d g b l i).2.mono m⟩,c.held.keep (h _ (.inr (.inr (.inr (.inr (.inr (.inr rfl)))))) (λe=>n.anb e.symm)),(c.draws.kp q).mono m,?_,c.Kf f d,λb a=>?_,λb a=>?_,c.vt,c.wX,c.AW⟩,
  ⟨(d.mono f).tgt k,λb a=>a.imp id (λj=>j.1),rfl,rfl,rfl,rfl,rfl,rfl,rfl,rfl,rfl,rfl⟩⟩
 .obtain⟨f,g,i,j,l⟩:=c.aS;exact⟨f,g.keep d.size (λb a=>h b (.inl a) (λe=>n.yP (by rw[<-e];exact a))),i,j,l⟩
 .rcases a with a|a
  .refine⟨bF (c.apart b a).1 d.size,λd=>?_⟩
   rcases k b d with e|e
   .exact(c.apart b a).2 e
   .have:=(c.apart b a).1;omega
  .refine⟨by simpa using a.2.1,λd=>?_⟩
   rcases d with d|d|d
   .have:=c.lt (.inl d);omega
   .exact a.2.2 d
   .have:=c.lt (.inr (.inr d));omega
 .rcases k b a with e|e
  .exact c.base b e
  .exact aJ c.aS.base e
end
end Go.Proofs.YtoolkdapflaeeaaGreatDoor
namespace Go.Proofs.YtoolkdapflaeeaaGreatDoor
open Go.RowKit Go.Gl Go.aF Mn Go.Extern.Stop Go.Stop Go.Extern
theorem Tryz.aFN(v:Value)(w:World):(Extern.ReflectliteType.typeOf #[.iface 38 v]).run Tryz.prog w=.ok (.iface 202 (.agg #[.pointer (some ⟨5,38,none⟩)])) w:=by kernel_rfl
theorem Tryz.aFO(w:World):(callFunc 279 #[.agg #[.pointer (some ⟨5,38,none⟩)]]).run Tryz.prog w=.ok (.value (.bool true)) w:=by kernel_rfl
theorem Tryz.aFP(v:Value)(w:World):(Go.method 492 202 v "Comparable").run Tryz.prog w=.ok (279,v) w:=by kernel_rfl
theorem Tryz.aFQ(v:Value)(a:TypeId)(w:World):(Instr.typeAssert (.iface 38 v) a 204 true).run Tryz.prog w=.ok (.tuple #[.nilIface,.bool false]) w:=run_typeAssert_lacksB Tryz.underlying204 (by kernel_rfl) (by kernel_rfl) v a w
theorem Tryz.aFR(v:Value)(a:TypeId)(w:World):(Instr.typeAssert (.iface 38 v) a 207 true).run Tryz.prog w=.ok (.tuple #[.nilIface,.bool false]) w:=run_typeAssert_lacksB Tryz.underlying207 (by kernel_rfl) (by kernel_rfl) v a w
theorem Tryz.aFS(v:Value)(a:TypeId)(w:World):(Instr.typeAssert (.iface 38 v) a 208 true).run Tryz.prog w=.ok (.tuple #[.nilIface,.bool false]) w:=run_typeAssert_lacksB Tryz.underlying208 (by kernel_rfl) (by kernel_rfl) v a w
theorem aFT(a b:Int)(w:World):
  Calls Tryz.prog 24 #[.iface 38 (.int .i64 a),.iface 38 (.int .i64 b)] w λe w'=>e=.returned (.bool (a==b))/\w'=w:=by
 have c:=@run_callFunc_extern Tryz.prog 55 _ Extern.ReflectliteType.typeOf Tryz.func55 (by kernel_rfl) (by kernel_rfl) (by kernel_rfl) (by kernel_rfl);have c:=Tryz.aFN;have c:=Tryz.aFO;have c:=Tryz.aFP;have c:=Tryz.aFQ;have c:=Tryz.aFR;have c:=Tryz.aFS;cases d:(a==b)with
 |true=>have c:=Lib.run_eql_iface_int (P:=Tryz.prog) w (t:=66) (tx:=38) (k:=.i64) (q:=.i64) a b Tryz.underlying66 (by kernel_rfl) Tryz.underlying38;rw[d]at c;go_enter Tryz.func24,Tryz.ntmps24;go_wp2;refine wp_loop_rounds 1 ?_;rw[rounds_succ];go_wp2;go_ret;exact⟨rfl,rfl⟩
 |false=>have c:=Lib.run_eql_iface_int (P:=Tryz.prog) w (t:=66) (tx:=38) (k:=.i64) (q:=.i64) a b Tryz.underlying66 (by kernel_rfl) Tryz.underlying38;rw[d]at c;go_enter Tryz.func24,Tryz.ntmps24;go_wp2;refine wp_loop_rounds 1 ?_;rw[rounds_succ];go_wp2;go_ret;exact⟨rfl,rfl⟩
theorem ang(a:Int)(w:World):
 Calls Tryz.prog 24 #[.iface 38 (.int .i64 a),.iface 38 (.int .i64 4)] w λe w'=>e=.returned (.bool (a==4))/\w'=w:=aFT a 4 w
end Go.Proofs.YtoolkdapflaeeaaGreatDoor
namespace Go.Proofs.YtoolkdapflaeeaaGreatDoor
open Go.RowKit Go.Gl Go.aF Mn
theorem aFU{N:Nat}(i:df N B w)(j:B<=w.heap.size){n:Nat}(q:n<N)(k:n<1000000)(a:Bv w bv (lJ n)):
  Calls Tryz.prog 136 #[bv] w λe w'=>e=.returned (.tuple #[.int .i64 n,.bool true])/\Grow w w':=by
 have u:=xQ a;have l:=ae (awp k w);have x:=Iz k;obtain⟨d,f,rfl⟩:=a.slice;have y:∀W,Bv W (.slice d (lJ n).length f) (lJ n)->(convert 49 9 (.slice d (lJ n).length f)).run Tryz.prog W=.ok (.string ⟨(lJ n).toArray⟩) W:=λW g=>xQ g
 have m:=ae a;have r:=ae i;clear a i;have z:decide ((n:Int)<=999999999)=true:=by simp;omega
 have A:decide ((0:Int)<=(n:Int))=true:=by simp
 go_enter Tryz.func136,Tryz.ntmps136
 go_wp2_with fail
 (with_reducible refine l.out.mono ?_);rintro e w1 ⟨rfl,o⟩;have b:=ae o;clear o l
 go_upto_region 2 with fail
 have c:=ay w1;refine oK (λW=>Bv W (.slice d (lJ n).length f) (lJ n)) [(0,false),(1,false),(2,false),(3,false),(4,false),(5,false),(6,false),(7,false),(8,false),(9,false),(10,false),(11,false),(12,false),(14,false),(15,false),(13,true),(16,false),(17,false),(18,false),(19,false)] (by kernel_rfl) (by kernel_rfl) (bB λ_ _ _ _ _ a=>a) (m.out.grow (b.out.trans c)) ?_;simp only[cm,nth]
 repeat ((first|(apply az;rfl;rintro W g;go_simp;with_reducible rfl)|(apply aA;rfl));simp only[ah,List.set])
 have s:B<=w1.heap.size:=aJ j b.out.size;refine bw (by rfl) (by go_simp) (((r.out.grow b.out j).grow c s) n q _ (λ_ _=>rfl)) ?_;rintro e w2 ⟨rfl,p⟩;have h:=(b.out.trans c).trans p;refine⟨_,rfl,m.out.grow h,?_⟩
 try simp only[ah,List.set,aC]
 repeat ((first|(apply az;rfl;rintro W g;go_simp;with_reducible rfl)|(apply aA;rfl));simp only[ah,List.set])
 refine bg ?_;have t:=ae h;clear h c p;go_wp2;exact bodyPost_ret (v:=.tuple #[.int .i64 (n:Int),.bool true]) (by simp[results,Tryz.results136,go_sem]) rfl ⟨rfl,t.out⟩
theorem Ul(w:World):Bv w (.slice none 0 0) []:=⟨none,0,rfl,aw _,aY _,λ_=>rfl,.inl rfl⟩
theorem aFV{N:Nat}{p:Nat}{f:Lk}{sb:Nat}{tv:Value}{V:bM}{m:Int}(a:eH w sb p tv V m)(d:Dl Z B w p r f T K F)(k:B<=sb)(g:df N B w)(l:0<N)(c:f uz=none)(m:f rH=none)(o:T+6<=Z):
  Calls Tryz.prog 89 #[.pointer (some ⟨sb,0,none⟩)] w λe w'=>e=.returned .nilIface/\eH w' sb p tv V 0/\(∃T' F',T'<=T+6/\Dl Z B w' p r (RX 0 [] f) T' (K+3) F')/\Rl B r w w':=by
 obtain⟨p,_,_,_,_,_,q⟩:=a.cells;have f:=LV d uz;rw[c]at f;have h:=ae f;have c:=ae d;have i:=ae a;have j:=ae g;clear d a g f;go_enter Tryz.func89,Tryz.ntmps89
 go_wp2_with fail
 (with_reducible refine h.out.mono ?_);rintro e w1 ⟨rfl,a⟩
 go_wp2_with fail
 (with_reducible refine(ang 4 w1).mono ?_);rintro e w2 ⟨rfl,d⟩;have f:=d.symm;subst f;clear d;have d:=(azK (n:=0) (i.out.grow a) (c.out.grow a) k (j.out.grow a c.out.base) l (by decide) (Ul w1) (by simp) (λb b=>by cases b) m (by simpa using o))
 have b:Calls Tryz.prog 135 #[.pointer (some ⟨sb,0,none⟩),.int .i64 0,.slice none 0 0] w1 _:=d;have f:=ae b;have g:=ae a;clear d b;have k:=ae c.out.base;have b:((4:Int)==4)=true:=rfl;rw[b];clear a h c i j p q
 go_wp2_with fail
 (with_reducible refine f.out.mono ?_);rintro e w3 ⟨rfl,b,⟨e,h,i,c⟩,d⟩;have a:=ae (ag b (ag c ((Rl.grow (r:=r) g.out k.out).trans d)));clear b c d f;go_wp2;go_ret;exact⟨rfl,a.out.1,⟨e,h,by simpa using i,a.out.2.1⟩,a.out.2.2⟩
theorem Dl.gx{f:Lk}(c:Dl Z B w p r f T K F)(g:w.heap[sb]?=some (.cells cs 154 fz))(h:GX sb w w'):Dl Z B w' p r f T K F:=by
 have i:=c.apart g (by decide) (by decide) (by decide);obtain⟨j,⟨k,l,m,d,a,n,o⟩,q,s,t⟩:=c;subst o;obtain⟨o,hm,u⟩:=a.map;obtain⟨_,_,_,v,x⟩:=h;have c:∀b,dH p r d b->w'.heap[b]?=w.heap[b]?:=λb h=>x b (a.Wn h).2 (λe=>i (by cases e;exact h))
 refine⟨j,⟨k,l,m,d,⟨(c p (.inl rfl)).trans a.self,⟨o,(c r (.inr (.inl rfl))).trans hm,u⟩,a.names,a.uj,a.uk,a.rows,λf e=>?_,a.base.1,a.base.2.1,aJ a.base.2.2 v⟩,n,rfl⟩,q,s,t⟩;have d:=a.files f e;exact⟨(c _ (.inr (.inr ⟨f,e,.inl rfl⟩))).trans d.cell,d.row.keep (λb g=>c b (.inr (.inr ⟨f,e,.inr g⟩))),d.base,d.sync⟩
theorem Row1.gx(b:Go.Gl.Row1 e B w v xs)(c:w.heap[sb]?=some (.cells cs 154 fz))(d:e≠154)(f:GX sb w w'):Go.Gl.Row1 e B w' v xs:=
 b.keep λa e=>by obtain⟨a,a⟩:=b.block e;rw[f.heap a (pX a c d),a]
theorem mM.gx{a:List (List UInt8)}(d:mM B w v a)(b:w.heap[sb]?=some (.cells cs 154 fz))(c:GX sb w w'):mM B w' v a:=by obtain⟨a,e,f,g⟩:=d;exact⟨a,Row1.gx e b (by decide) c,f,λi a p d e=>Row1.gx (g i a p d e) b (by decide) c⟩
theorem aFW{l:List Tb}(b:Mn.Own B w v l)(c:w.heap[sb]?=some (.cells cs 154 fz))(d:GX sb w w'):Mn.Own B w' v l:=xY b λa e=>by obtain⟨a,a,_⟩:=sT b e;rw[d.heap a (pX a c (by decide)),a]
theorem Rl.gx(c:w.heap[sb]?=some (.cells cs 154 fz))(a:B<=sb)(a:GX sb w w'):Rl B r w w':=by
 have d:=af c;obtain⟨g,h,i,j,d⟩:=a;refine⟨⟨g,h,i,j,λb arr t f a f=>?_,λb k a k _=>?_⟩,⟨g,h,i,j,λb a=>d b (by omega) (λe=>by cases e;omega)⟩⟩
 .rw[d b (af a) (λe=>?_)]
  .exact a
  .cases e;rw[c]at a;cases a;exact f (.inr (.inr (.inr rfl)))
 .rw[d b (af a) (λe=>?_)]
  .exact a
  .cases e;rw[c]at a;cases a;exact k _ _ _ rfl
theorem ani:∀(a:List cO){v V:bM},gD v a=(0,V)->V.tabs.length<=v.tabs.length+(a.map (λe=>e.add.length)).sum
 | [],v,V,h=>by simp only[gD,Prod.mk.injEq,true_and]at h;subst h;simp
 |e::a,v,V,h=>by
  unfold gD at h;by_cases b:(bH v e).1=0
  .rw[if_pos b]at h;have c:=ani a h;have a:=agw v e;simp only[cr,List.sum_cons];omega
  .rw[if_neg b]at h;exact absurd (congrArg Prod.fst h) b
structure OpI(Z B:Nat)(w3:World)(p r:Nat)(f:Lk)(T K:Nat)(F:Nat->Prop)(sb n:Nat)(rv:Value)(es:List cO)(V:bM)(i:Nat)(wr:World):Prop where
 gx:GX sb w3 wr
 set:∃tv U,eH wr sb p tv U n/\Mn.Own 0 wr tv U.tabs/\gD dw (es.take i)=(0,U)/\gD U (es.drop i)=(0,V)
def abi(Z B:Nat)(w3:World)(p r:Nat)(f:Lk)(T K:Nat)(F:Nat->Prop)(sb n:Nat)(b:Value)(a:List cO)(V:bM)(c d:Value)(e:World):Prop:=
 ∃i:Nat,c=.int .i64 i/\i<=a.length/\d=.int .i64 0/\OpI Z B w3 p r f T K F sb n b a V i e
theorem aFY{l:List Int}(a:BU B w v l):Ints w v l:=by
 rcases a with⟨b,c⟩|⟨g,h,i,b,c,d,e,f,f,f⟩
 .have k:l=[]:=by simpa using c
  subst k;rw[b];exact ayq w
 .rw[bA]at b e f
  refine⟨_,h,b,e,.inr ⟨g,0,rfl,af d,λj c b=>?_⟩⟩;have e:j<l.length:=by
   rcases Nat.lt_or_ge j l.length with a|a
   .exact a
   .rw[List.getElem?_eq_none a]at b;cases b
  have a:i.toList[j]?=some (.int .i64 c):=by have:=congrArg (λc=>c[j]?) f;simp only[List.getElem?_take,e,if_true,gQ,b,Option.map_some]at this;exact this
  rw[Nat.zero_add];simp only[World.cell?,d];rw[<-a];simp
theorem Kh{x:Nat}:∀{l:List Nat},x∈l->x<=l.sum
 |a::l,h=>by
  rcases bI.1 h with rfl|h
  .simp
  .have:=Kh h;simp;omega
theorem Mc{e:cO}{b:bM}:∀{a:List cO}{v W:bM},gD v a=(0,b)->(bH b e).1=0->W=(bH b e).2->gD v (a++(some e).toList)=(0,W)
 | [],v,W,h,h0,hp=>by simp only[gD,Prod.mk.injEq,true_and]at h;subst h;show gD v [e]=_;rw[Xv,if_pos h0,hp]
 |x::a,v,W,h,h0,hp=>by
  rw[gP];unfold gD at h ⊢;by_cases a:(bH v x).1=0
  .rw[if_pos a]at h ⊢;exact Mc h h0 hp
  .rw[if_neg a]at h;exact absurd (congrArg Prod.fst h) a
abbrev OpS(sb eb:Nat)(tv:Value)(a:bM)(x0 x1 x2 x3 x4:Value)(W:World):Prop:=
 (W.cell? ⟨sb,1,none⟩=some tv/\W.cell? ⟨sb,2,none⟩=some (.int .u64 a.seq)/\W.cell? ⟨sb,3,none⟩=some (.int .i64 a.next)/\W.cell? ⟨sb,4,none⟩=some (.int .i64 a.wal)/\sb<W.heap.size)/\
 (W.cell? ⟨eb,0,none⟩=some x0/\W.cell? ⟨eb,1,none⟩=some x1/\W.cell? ⟨eb,2,none⟩=some x2/\W.cell? ⟨eb,3,none⟩=some x3/\W.cell? ⟨eb,4,none⟩=some x4/\eb<W.heap.size)
theorem Um{eb:Nat}{V:bM}{n:Int}(b:eH W sb p tv V n)(a:W.heap[eb]?=some (.cells #[x0,x1,x2,x3,x4] 148 (0,0))):OpS sb eb tv V x0 x1 x2 x3 x4 W:=by obtain⟨_,c,d,e,f,_,g⟩:=b.cells;obtain⟨b,h,i,j,k⟩:=dI a;exact⟨⟨c,d,e,f,g⟩,b,h,i,j,k,af a⟩
theorem aFZ{a V:bM}{e:cO}{l:List cO}(b:gD a (e::l)=(0,V)):(bH a e).1=0/\gD (bH a e).2 l=(0,V)/\gD a [e]=(0,(bH a e).2):=by
 unfold gD at b;by_cases c:(bH a e).1=0
 .rw[if_pos c]at b;exact⟨c,b,by rw[Xv,if_pos c]⟩
 .rw[if_neg c]at b;exact absurd (congrArg Prod.fst b) c
theorem aGa{N:Nat}{f:Lk}{m:Int}(hS:eH w sb p (.slice none 0 0) dw m)(h:Dl Z B w p r f T K F)(hB:B<=sb)(hN:df N B w)(hn:n<N)(h6:n<1000000){q0 s1:Nat}(uF:f uz=some (lJ n,q0)){es:List cO}(abj:f (dt n)=some (cg aq (es.map dP),s1))(hes:∀e∈es,BO e/\e.drop.length<=10000/\(dP e).length<=67108864)(DM:(es.map (λe=>e.add.length)).sum<=5000)(xW:es.length<=1000000){V:bM}(hV:gD dw es=(0,V)):
  Calls Tryz.prog 89 #[.pointer (some ⟨sb,0,none⟩)] w λe w'=>e=.returned .nilIface/\(∃tv,eH w' sb p tv V n/\Mn.Own 0 w' tv V.tabs)/\(∃F',Dl Z B w' p r f T K F')/\Rl B r w w':=by
 obtain⟨c0,_,_,_,_,_,ls⟩:=hS.cells;have bq:=LV h uz;rw[uF]at bq;have hlen:=h.len abj;have hTZ:=h.total;have hZ:=h.size;have pU:=ae bq;have H:=ae h;have HS:=ae hS;have HN:=ae hN;have aGb:=ae abj;have HV:=ae hV;have Dc:=ae hes;clear h hS hN bq abj hV hes uF;go_enter Tryz.func89,Tryz.ntmps89
 go_wp2_with fail
 (with_reducible refine pU.out.mono ?_);rintro e w1 ⟨⟨v,rfl,hv⟩,hg1⟩;obtain⟨va,vc,rfl⟩:=hv.slice;have Hv:=ae hv;have eV:=ae hg1;clear hv hg1 pU
 go_wp2_with fail
 (with_reducible refine(ang 0 w1).mono ?_);rintro e w2 ⟨rfl,hw⟩;have hw':=hw.symm;subst hw';clear hw;have Un:=ae (aFU (HN.out.grow eV.out H.out.base) (aJ H.out.base eV.out.size) hn h6 (cE Hv.out));have eq4:((0:Int)==4)=false:=rfl;rw[eq4];clear c0 ls
 go_wp2_with fail
 (with_reducible refine Un.out.mono ?_);rintro e w2 ⟨rfl,hg2⟩;have iz:=eV.out.trans hg2;have lK:=ae (HS.out.grow iz);have H2:=ae (H.out.grow iz);have zZ:=ae (HN.out.grow iz H.out.base);have rQ:=ae (Rl.grow (r:=r) iz H.out.base);clear hg2 iz Un HS H HN eV Hv
 go_upto_region 7 with fail
 obtain⟨c0,_,_,_,_,_,ls⟩:=lK.out.cells;refine cN (λW=>W.cell? ⟨sb,0,none⟩=some (.pointer (some ⟨p,0,none⟩))/\sb<W.heap.size) [5,0] (by kernel_rfl) (bB λ_ _ _ _ _ h=>h) ⟨by simpa using c0,by simpa using ls⟩ ?_;simp only[ct];clear c0 ls
 repeat ((first|(apply az;rfl;rintro W ⟨hW0,hW1⟩;go_simp;with_reducible rfl)|(apply aA;rfl));simp only[ah,List.set])
 have hgd:=ay w2;refine bw (by rfl) (by go_simp) (LS (zZ.out.grow hgd H2.out.base) hn h6) ?_;rintro e w3 ⟨rfl,hg3⟩;have mq:=hgd.trans hg3;obtain⟨c0,_,_,_,_,_,ls⟩:=(lK.out.grow mq).cells;refine⟨_,rfl,⟨c0,ls⟩,?_⟩
 try simp only[ah,List.set,aC]
 have gA:=H2.out.grow mq;have bq:=LV gA (dt n);rw[aGb.out]at bq;refine bw (by rfl) (by go_simp) bq ?_;rintro e w4 ⟨⟨v,rfl,hv⟩,hg4⟩;obtain⟨xa,xc,rfl⟩:=hv.slice;have iG:=mq.trans hg4;obtain⟨d0,_,_,_,_,_,ld⟩:=(lK.out.grow iG).cells;refine⟨_,rfl,⟨d0,ld⟩,?_⟩
 try simp only[ah,List.set,aC]
 repeat ((first|(apply az;rfl;rintro W ⟨hW0,hW1⟩;go_simp;with_reducible rfl)|(apply aA;rfl));simp only[ah,List.set])
 refine bg ?_;have MC:=ae (lK.out.grow iG);have H4:=ae (H2.out.grow iG);have BV:=ae (rQ.out.trans (Rl.grow (r:=r) iG H2.out.base));have Hv:=ae hv;clear hgd hg3 mq hg4 iG gA bq hv c0 ls d0 ld lK H2 zZ rQ;have Dd:w4.heap[sb]?=some (.cells (setCells p (.slice none 0 0) dw m) 154 (0,0)):=MC.out;have ls4:=af Dd;have c5:w4.cell? ⟨sb,5,none⟩=some (.int .i64 m):=by simp[World.cell?,Dd]
 have f4:=bG Dd;have wB:eH (w4.setCell ⟨sb,5,none⟩ (.int .i64 (n:Int))) sb p (.slice none 0 0) dw n:=Go.Gl.aK Dd 5 _;have ja:=H4.out.IY Dd 5 (.int .i64 (n:Int));have uY:=BV.out.trans (Rl.set (r:=r) Dd hB 5 (.int .i64 (n:Int)));have Jq:aI w3.heap.size (w4.setCell ⟨sb,5,none⟩ (.int .i64 (n:Int))) (.slice xa (cg aq (es.map dP)).length xc) (cg aq (es.map dP)):=Row1.gx Hv.out Dd (by decide) (Go.Gl.jB _ _ _ _);have Ny:(cg aq (es.map dP)).length<=T:=hlen;have abk:=aeW (cE Jq) (by omega);have hw0:mL aq (cg aq (es.map dP))=(es.map dP,(cg aq (es.map dP)).length,0):=VW aq (es.map dP) (λx hx=>by obtain⟨e,he,rfl⟩:=aV.1 hx;exact(Dc.out e he).2.2);rw[hw0]at abk;have nJ:=ae abk;generalize (cg aq (es.map dP)).length=FL at*;have tj:=ae wB;have qN:=ae ja;have wC:=ae uY;clear wB ja uY Jq hw0 abk Ny Dd
 go_upto_region 11 with fail
 clear c5 f4 ls4;generalize w4.setCell ⟨sb,5,none⟩ (.int .i64 (n:Int))=w5 at*;clear MC H4 BV Hv
 go_wp2_with fail
 (with_reducible refine nJ.out.mono ?_);rintro e w6 ⟨rv,rfl,zY,dh⟩;obtain⟨ra,rc,oP⟩:=zY.slice;rw[bA]at oP;subst oP;have Ki:=ae (tj.out.grow dh);have Uo:=ae (qN.out.grow dh);have Up:=ae (wC.out.trans (Rl.grow (r:=r) dh qN.out.base));have Hrv:=ae zY;have bz:Hid (abi Z B w6 p r f T K F sb n (.slice ra es.length rc) es V (.int .i64 0) (.int .i64 0) w6):=ae ⟨0,rfl,aY _,rfl,GX.refl _ _,.slice none 0 0,dw,Ki.out,jh _ _ _ _,rfl,by simpa using HV.out⟩;clear dh zY nJ tj qN wC
 go_wp2_with fail
 go_loopw [61,4] (λiv ev wr=>abi Z B w6 p r f T K F sb n (.slice ra es.length rc) es V iv ev wr) (λiv _ _=>es.length-(intOf iv).toNat)
 case atStart=>exact bz.out
 case round=>
  obtain⟨i,rfl,hi,rfl,hI⟩:=hrel;obtain⟨tv,U,Uq,hown,hU1,OI⟩:=hI.set;obtain⟨ua,uc,rfl⟩:=km hown;have ym:w6.heap[sb]?=some _:=Ki.out;by_cases hlt:i<es.length
  .obtain⟨e,he⟩:∃e,es[i]?=some e:=⟨es[i],by simp[hlt]⟩
   obtain⟨_,_,e0,hh⟩:=(mM.gx Hrv.out ym hI.gx).rv;rw[bA]at e0;cases e0;obtain⟨b,o,rfl,hb,hcell⟩:∃b o,ra=some ⟨b,o,none⟩/\b<wr.heap.size/\∀(j:Nat)(x:List UInt8),(es.map dP)[j]?=some x->∃pv,wr.cell? ⟨b,o+j,none⟩=some pv/\Bv wr pv x:=by
    rcases hh with h1|h1
    .have:=congrArg List.length h1;rw[bA]at this;simp at this;subst this;simp at hlt
    .exact h1
   obtain⟨pv,oT,bD⟩:=hcell i (dP e) (by rw[gQ,he];rfl);obtain⟨vM,ir,hle⟩:=Dc.out e (dm he);have aGd:=ae (ayF vM bD (by omega));obtain⟨pa,pc,rfl⟩:=bD.slice;generalize (dP e).length=EL at*;have eN:(i:Int)<(es.length:Int):=by omega
   have bU:(0:Int)<=(i:Int):=by omega
   have fT:IntKind.i64.wrap ((i:Int)+1)=(i:Int)+1:=aQ _ (by omega);have HI:=ae hI;have HSr:=ae Uq;have gw:=ae hown;have HU:=ae (ag hU1 OI);have He:=ae he;clear hI Uq hown hU1 OI he hh hcell bD ym vM
   go_wp2_with fail
   (with_reducible refine aGd.out.mono ?_);rintro e' w7 ⟨tx,dx,rfl,htx,hdx,dF⟩;obtain⟨ta,tc,rfl⟩:=km htx;obtain⟨da,dc,pq⟩:=hdx.slice;rw[bA]at pq;subst pq;have Htx:=ae htx;have Hdx:=ae hdx;have Hg7:=ae dF;clear htx hdx dF hle
   go_upto_region 18 with fail
   have ai:=ar w7 (.cells (dY (.slice ta e.add.length tc) (.slice da e.drop.length dc) e.seq e.next e.wal) 148);have IM:=ax w7 (.cells (dY (.slice ta e.add.length tc) (.slice da e.drop.length dc) e.seq e.next e.wal) 148);have hsz:(w7.alloc (.cells (dY (.slice ta e.add.length tc) (.slice da e.drop.length dc) e.seq e.next e.wal) 148)).heap.size=w7.heap.size+1:=by simp
   generalize w7.alloc (.cells (dY (.slice ta e.add.length tc) (.slice da e.drop.length dc) e.seq e.next e.wal) 148)=wa at*;have hgb:=ar wa (.cells (bS (.slice none 0 0) 0 0 0) 85);have hv8:=ax wa (.cells (bS (.slice none 0 0) 0 0 0) 85);rw[hsz]at hv8;generalize wa.alloc (.cells (bS (.slice none 0 0) 0 0 0) 85)=w8 at*;have Cs:=ai.trans hgb;have ann:=hgb.heap IM;have tL:=Hg7.out.trans Cs;have OJ:=ae (HSr.out.grow tL);have ano:=ae (fB gw.out tL);have anp:=ae (azH (fB Htx.out Cs));have anq:=ae (aFY (Hdx.out.grow Cs));have OL:=ae ann;have Hv8:=ae hv8;have ans:=ae tL;have aOJ:wr.heap.size<=w7.heap.size:=Hg7.out.size;generalize w7.heap.size=eb at*;clear ai IM hsz hgb hv8 Cs ann tL Htx Hdx Hg7;refine cN (OpS sb eb (.slice ua U.tabs.length uc) U (.slice ta e.add.length tc) (.slice da e.drop.length dc) (.int .u64 e.seq) (.int .i64 e.next) (.int .i64 e.wal)) [5,0,3] (by kernel_rfl) (bB λ_ _ _ _ _ h=>h) (Um (OJ.out.grow (ay _)) ((ay _).heap OL.out)) ?_;simp only[ct]
   repeat ((first|(apply az;rfl;rintro W ⟨⟨hW0,hW1,hW2,hW3,jR⟩,nj,pn,wG,Aa,Gh,ant⟩;go_simp;with_reducible rfl)|(apply aA;rfl));simp only[ah,List.set])
   have hgd:=ay w8;have ai:=ar w8.drew (.cells (dY (.slice ta e.add.length tc) (.slice da e.drop.length dc) e.seq e.next e.wal) 148);have qx:=hgd.trans ai;have hq:=ax w8.drew (.cells (dY (.slice ta e.add.length tc) (.slice da e.drop.length dc) e.seq e.next e.wal) 148);have hrun:=agW w8.drew ta e.add.length tc da e.drop.length dc e.seq e.next e.wal;have ul:U.tabs.length<=5000:=by
    have h1:=ani _ HU.out.1;have h2:((es.take i).map (λe=>e.add.length)).sum<=(es.map (λe=>e.add.length)).sum:=by
     conv=>rhs;rw[<-List.take_append_drop i es,dS,List.sum_append]
     omega
    have h3:dw.tabs.length=0:=rfl;omega
   have pV:e.add.length<=5000:=by have h2:e.add.length<=(es.map (λe=>e.add.length)).sum:=Kh (aV.2 ⟨e,dm He.out,rfl⟩);omega
   have hdr:es.drop i=e::es.drop (i+1):=by rw[nA hlt];have:=He.out;rw[ek hlt]at this;rw[bh this]
   obtain⟨hu0,hu1,Lu⟩:=aFZ (hdr ▸ HU.out.2);obtain⟨AP,Cq⟩:∃x,x=(bH U e).2:=⟨_,rfl⟩
   rw[<-Cq]at hu1 Lu;have Hu0:=ae hu0;have Hu1:=ae hu1;have fC:=ae Cq;clear hu0 hu1 Cq;refine fK (by rfl) (λK hK=>?_);go_simp;refine hK _ _ ⟨Um (OJ.out.grow qx) (qx.heap OL.out),?_⟩;clear hK K
   try simp only[ah,List.set,aC]
   have hap:=agx ahM (fB ano.out qx) ul (agX hq (anp.out.grow qx) (anq.out.grow qx)) (by simp) (by intro x hx;rw[cZ.1 hx];exact⟨pV,ir⟩);rw[Lu]at hap;refine bw (by rfl) (by go_simp) hap ?_;rintro e' w9 ⟨cH,rfl,ho,py⟩;have cW:=qx.trans py;refine⟨_,rfl,Um (OJ.out.grow cW) (cW.heap OL.out),?_⟩
   try simp only[ah,List.set,aC]
   repeat ((first|(apply az;rfl;rintro W ⟨⟨hW0,hW1,hW2,hW3,jR⟩,nj,pn,wG,Aa,Gh,ant⟩;go_simp;with_reducible rfl)|(apply aA;rfl));simp only[ah,List.set])
   obtain⟨ya,yc,rfl⟩:=km ho;have Gi:=cW.heap Hv8.out;have Kj:=OJ.out.grow cW;have yU:=cW.heap OL.out;obtain⟨t0,t1,t2,t3⟩:=dJ Gi;have XB:=af Gi;have XC:=bG Gi;have cG:=BK Gi (.slice ya AP.tabs.length yc) (.int .u64 AP.seq) (.int .i64 AP.next) (.int .i64 AP.wal);have jM:=λ(c:Nat)(hc:c≠eb+1)=>IH (w:=w9) hc (.slice ya AP.tabs.length yc) (.int .u64 AP.seq) (.int .i64 AP.next) (.int .i64 AP.wal)
   have anx:=Ek (rK ho (aY _)) Gi (.slice ya AP.tabs.length yc) (.int .u64 AP.seq) (.int .i64 AP.next) (.int .i64 AP.wal);have abt:=xV (ans.out.trans cW) (show wr.heap.size<=eb+1 by omega) (.slice ya AP.tabs.length yc) (.int .u64 AP.seq) (.int .i64 AP.next) (.int .i64 AP.wal);have OM:sb≠eb+1:=λh=>by have anz:w9.heap[sb]?=some _:=Kj;rw[h,Gi]at anz;cases anz
   have hSA:=HSr.out.grow abt;have hbA:=(jM eb (by omega)).trans yU;have opA:=ae (Um hSA hbA);have HSA:=ae hSA;have anD:=ae abt;have anE:=ae anx;have Aj:=ae cG;clear jM cG anx abt hSA hbA Gi Kj yU cW py qx ai hgd hq hrun hdr OM ul pV;refine fK (by rfl) (λK hK=>?_);go_simp;refine hK _ _ ⟨opA.out,?_⟩;clear hK K
   try simp only[ah,List.set,aC]
   repeat ((first|(apply az;rfl;rintro W ⟨⟨hW0,hW1,hW2,hW3,jR⟩,nj,pn,wG,Aa,Gh,ant⟩;go_simp;with_reducible rfl)|(apply aA;rfl));simp only[ah,List.set])
   refine bg ?_;clear opA t0 t1 t2 t3 XB XC;generalize (((w9.setCell ⟨eb+1,0,none⟩ (.slice ya AP.tabs.length yc)).setCell ⟨eb+1,1,none⟩ (.int .u64 AP.seq)).setCell ⟨eb+1,2,none⟩ (.int .i64 AP.next)).setCell ⟨eb+1,3,none⟩ (.int .i64 AP.wal)=wb at*;clear ho hap Lu OL Hv8 OJ ano anp anq ans;have Ur:wb.heap[sb]?=some (.cells (setCells p (.slice ua U.tabs.length uc) U n) 154 (0,0)):=HSA.out;obtain⟨_,c1,c2,c3,c4,_,ot⟩:=HSA.out.cells;have fsb:=bG Ur;obtain⟨y0,y1,y2,y3⟩:=dJ Aj.out;have OO:=af Aj.out;have aR:Hid (abi Z B w6 p r f T K F sb n (.slice (some ⟨b,o,none⟩) es.length rc) es V (.int .i64 ((i:Int)+1)) (.int .i64 0) ((((wb.setCell ⟨sb,1,none⟩ (.slice ya AP.tabs.length yc)).setCell ⟨sb,2,none⟩ (.int .u64 AP.seq)).setCell ⟨sb,3,none⟩ (.int .i64 AP.next)).setCell ⟨sb,4,none⟩ (.int .i64 AP.wal))):=by
    have h2:=Go.Gl.aK Ur 1 (.slice ya AP.tabs.length yc);have h3:=Go.Gl.aK h2 2 (.int .u64 AP.seq);have h4:=Go.Gl.aK h3 3 (.int .i64 AP.next);have h5:=Go.Gl.aK h4 4 (.int .i64 AP.wal);have hgx:GX sb wb ((((wb.setCell ⟨sb,1,none⟩ (.slice ya AP.tabs.length yc)).setCell ⟨sb,2,none⟩ (.int .u64 AP.seq)).setCell ⟨sb,3,none⟩ (.int .i64 AP.next)).setCell ⟨sb,4,none⟩ (.int .i64 AP.wal)):=
     (((Go.Gl.jB _ _ _ _:GX sb _ _).trans (Go.Gl.jB _ _ _ _)).trans (Go.Gl.jB _ _ _ _)).trans (Go.Gl.jB _ _ _ _)
    refine ae ⟨i+1,rfl,hlt,rfl,(HI.out.gx.trans (GX.of anD.out)).trans hgx,.slice ya AP.tabs.length yc,AP,h5,aFW anE.out Ur hgx,?_,Hu1.out⟩;rw[List.take_add_one,He.out];have:=HU.out.1;have hz:=Hu0.out;have hp:=fC.out;exact Mc this hz hp
   clear Ur HSA anD anE Aj HI HSr gw HU He Hu0 Hu1 fC;go_wp2;go_roundw
   case rel=>exact aR.out
   case measure=>simp[intOf];omega
  .obtain rfl:i=es.length:=by omega
   have hUV:U=V:=by rw[List.drop_length]at OI;simpa[gD]using OI
   subst hUV;have hx:w6.heap[sb]?=some (.cells (setCells p (.slice none 0 0) dw n) 154 (0,0)):=Ki.out;have aZ:=ae (ag (Dl.gx Uo.out hx hI.gx) (ag (Up.out.trans (Rl.gx (r:=r) hx hB hI.gx)) (ag Uq hown)));clear hI Uq hown hU1 OI hx Hrv Ki Uo Up HV;have bU:¬((es.length:Int)<(es.length:Int)):=by omega
   go_wp2;go_ret;exact⟨rfl,⟨_,aZ.out.2.2.1,aZ.out.2.2.2⟩,⟨_,aZ.out.1⟩,aZ.out.2.1⟩
end Go.Proofs.YtoolkdapflaeeaaGreatDoor
namespace Go.Proofs.YtoolkdapflaeeaaGreatDoor
open Go.RowKit Go.Gl Go.aF Go.Sort Mn
theorem Us{n:ByteArray}:∀{V:Vw},dz n V≠none↔n∈V.map (·.1)
 | []=>by simp[dz]
 |e::V=>by rw[fV,cr,bI,<-Us (V:=V)];by_cases a:n=e.1<;>simp[a]
theorem aGf{c:Type}{m:c}:∀{l:List c},l.Nodup->m∈l->(∀x∈l,x=m)->l=[m]
 | [],_,h,_=>by cases h
 |a::t,hn,_,h=>by
  have ha:a=m:=h a (by simp);subst ha;cases t with
  |nil=>rfl
  |cons b t=>have c:b=a:=h b (by simp);subst c;exact absurd (by simp) (List.nodup_cons.1 hn).1
theorem filter_one{V:Vw}(a:oh V){P:ByteArray->Bool}{m:ByteArray}(h1:dz m V≠none)(b:P m=true)(c:∀k,P k=true->dz k V≠none->k=m):(V.map (·.1)).filter P=[m]:=
 aGf (List.Pairwise.filter _ a) (List.mem_filter.2 ⟨Us.1 h1,b⟩) (λa b=>by obtain⟨d,e⟩:=List.mem_filter.1 b;exact c a e (Us.2 d))
abbrev De:ByteArray:=⟨#[109,97,110,105,102,101,115,116,45]⟩
def Ut(f:Lk)(n:Nat):Prop:=f (dt n)≠none/\∀a:ByteArray,Lib.hasPrefix a.data.toList sL=true->f a≠none->a=dt n
theorem Uu(n:Nat):Lib.hasPrefix (dt n).data.toList sL=true:=by show Lib.hasPrefix (sL++fN n) sL=true;unfold Lib.hasPrefix;simp
theorem aGg{f:Lk}(o:Dl Z B w p r f T K F)(M:K<1000000000)(c:Ut f n)(q:w.heap[qb]?=some (.cells #[.string De] 9 (0,0))):
  Calls Tryz.prog 33 #[.pointer (some ⟨p,0,none⟩),.slice (some ⟨qb,0,none⟩) 1 1] w λe w'=>∃g a,e=.returned (.slice (some ⟨g,0,none⟩) 1 a)/\w'.cell? ⟨g,0,none⟩=some (.string (dt n))/\g<w'.heap.size/\Grow w w':=by
 obtain⟨N,d,rfl,_,t⟩:=o;have u:=d.names;obtain⟨O,P,Q,h,x,rfl,rfl⟩:=d;have i:=afs x (by simp[vw]at t;omega) De q;have y:pick (λs=>Lib.hasPrefix s.data.toList De.data.toList) (h.map Fe.aB)=(((vw h).map (·.1)).filter λs=>Lib.hasPrefix s.data.toList De.data.toList).map λs=>s.data.toList:=by unfold pick;rw[WR,List.filter_map,List.filter_map,fh,fh];rfl
 rw[y,filter_one u (m:=dt n) c.1 (Uu n) (λz A C=>c.2 z A C)]at i;refine i.mono ?_;rintro e w' ⟨v,rfl,D,E⟩;rcases D.2 with⟨rfl,G⟩|⟨g,a,b,rfl,R,j,S,U,V,k⟩
 .cases G
 .refine⟨g,a,rfl,?_,af j,E⟩
  have l:(b.toList.take 1)[0]?=some (.string (dt n)):=by
   have:b.toList.take (1*1)=[Value.string (dt n)]:=by have H:([dt n].map (λs:ByteArray=>s.data.toList)).mergeSort (λI J=>decide (I<=J))=[(dt n).data.toList]:=List.mergeSort_singleton _;rw[H]at k;exact k
   rw[this];rfl
  rw[List.getElem?_take]at l;have L:b[0]?=some (.string (dt n)):=by simpa using l
  simp[World.cell?,j,L]
theorem aGh(n:Nat)(w:World):Calls Tryz.prog 91 #[.string (dt n),.string De] w λe w'=>e=.returned (.string ⟨(fN n).toArray⟩)/\w'=w:=by
 refine(afH (dt n) De w).mono ?_;rintro e w' ⟨a,b⟩;refine⟨?_,b⟩;have b:Lib.trimPrefix (dt n).data.toList De.data.toList=fN n:=by show Lib.trimPrefix (sL++fN n) sL=fN n;unfold Lib.trimPrefix Lib.hasPrefix;simp
 rw[b]at a;exact a
def aGi(Z B:Nat)(w1:World)(p r:Nat)(sb:Nat)(Q:bM->Nat->Lk->Nat->Nat->Prop)(e:Ending)(w':World):Prop:=
 e=.returned .nilIface/\∃tv a n f' T' K' F',eH w' sb p tv a (n:Nat)/\Mn.Own 0 w' tv a.tabs/\Dl Z B w' p r f' T' K' F'/\Rl B r w1 w'/\Ut f' n/\Q a n f' T' K'
theorem anF{N:Nat}{f:Lk}(g:Dl Z B w p r f T K F)(h:df N B w){Q:bM->Nat->Lk->Nat->Nat->Prop}(i:∀V n f' T' K',Q V n f' T' K'->n<N/\n<1000000/\K'<1000000000)(j:∀w1 sb,Grow w w1->w.heap.size<=sb->eH w1 sb p (.slice none 0 0) dw 0->Calls Tryz.prog 89 #[.pointer (some ⟨sb,0,none⟩)] w1 (aGi Z B w1 p r sb Q)):
  Calls Tryz.prog 48 #[.pointer (some ⟨p,0,none⟩)] w λe w'=>∃sb,e=.returned (.tuple #[.pointer (some ⟨sb,0,none⟩),.nilIface])/\B<=sb/\∃tv V n f' T' K' F',eH w' sb p tv V (n:Nat)/\Mn.Own 0 w' tv V.tabs/\Dl Z B w' p r f' T' K' F'/\Rl B r w w'/\Q V n f' T' K':=by
 have c:=ar w (.cells (setCells p (.slice none 0 0) dw 0) 154);have k:eH (w.alloc (.cells (setCells p (.slice none 0 0) dw 0) 154)) w.heap.size p (.slice none 0 0) dw 0:=ax w _;have a:=ae (j _ w.heap.size c (aw _) k);have d:=g.base;have f:=ae c;have l:=ae h;have m:=ae i;clear c k j g h i;go_enter Tryz.func48,Tryz.ntmps48
 go_upto_region 2 with fail
 have c:w.alloc (.cells (setCells p (.slice none 0 0) dw 0) 154)=w.alloc (.cells #[.pointer (some ⟨p,0,none⟩),.slice none 0 0,.int .u64 0,.int .i64 0,.int .i64 0,.int .i64 0] 154):=rfl;rw[c]at a f;clear c;generalize w.alloc (.cells #[.pointer (some ⟨p,0,none⟩),.slice none 0 0,.int .u64 0,.int .i64 0,.int .i64 0,.int .i64 0] 154)=w1 at*;have j:B<=w.heap.size:=d;obtain⟨sb,c⟩:∃g,g=w.heap.size:=⟨_,rfl⟩
 rw[<-c]at j;have g:=ae (Rl.grow (r:=r) f.out d);rw[<-c]at a ⊢;clear c d
 go_wp2_with fail
 (with_reducible refine a.out.mono ?_);rintro e w2 ⟨rfl,tv,V,n,f',T',K',F',k,o,p,d,q,h⟩;have i:=ae k;have s:=ae o;have c:=ae p;have t:=ae (g.out.trans d);have w:=ae q;have x:=ae h;obtain⟨y,u,z⟩:=m.out _ _ _ _ _ h;have v:=ae (l.out.keep (w':=w2) (λb A=>(g.out.trans d).below.block b A));clear k o p d q h a f g l m;obtain⟨p,_,_,_,_,_,f⟩:=i.out.cells;have a:=ar w2 (.cells #[.string De] 9);have d:=ae (aGg (c.out.grow a) z w.out (ax _ _));have g:=ae a;clear a
 go_wp2_with fail
 (with_reducible refine d.out.mono ?_);rintro e w3 ⟨a,a,rfl,w,z,h⟩;have a:=g.out.trans h;have k:=ae (i.out.grow a);have l:=ae (fB s.out a);have b:=ae (c.out.grow a);have m:=ae (t.out.trans (Rl.grow (r:=r) a c.out.base));have o:=ae (v.out.grow a c.out.base);clear g p f h a i s c t v d;have g:=ae (aGh n w3);have h:=ae (afG u w3)
 go_wp2_with fail
 refine wp_loop_rounds 2 ?_;rw[rounds_succ]
 go_wp2_with fail
 (with_reducible refine g.out.mono ?_);rintro e a ⟨rfl,a⟩;have c:=a.symm;subst c;clear a
 go_wp2_with fail
 (with_reducible refine h.out.mono ?_);rintro e a ⟨rfl,a⟩;have c:=ae (k.out.grow a);have i:=ae (fB l.out a);have d:=ae (b.out.grow a);have p:=ae (m.out.trans (Rl.grow (r:=r) a b.out.base));have q:=ae (LS (o.out.grow a b.out.base) y u);have s:(n:Int)<=999999999:=by omega
 clear a k l b m o g h w z
 go_wp2_with fail
 (with_reducible refine q.out.mono ?_);rintro e a ⟨rfl,a⟩;obtain⟨_,_,_,_,_,b,f⟩:=(c.out.grow a).cells;have b:=ae (c.out.grow a);have e:=ae (fB i.out a);have f:=ae (d.out.grow a);have g:=ae (p.out.trans (Rl.grow (r:=r) a d.out.base));clear a c i d p q
 go_wp2_with fail
 rw[rounds_succ];go_wp2;go_ret2;exact⟨sb,rfl,j,tv,V,n,f',T',K',F',b.out,e.out,f.out,g.out,x.out⟩
theorem Uv:∀{V:Vw},oh V->∀e∈V,dz e.1 V=some e.2
 |e0::V,hN,e,he=>by
  rw[fV];rcases bI.1 he with rfl|a
  .rw[if_pos rfl]
  .rw[if_neg (hN.head e a)];exact Uv hN.tail e a
theorem aGl{V:Vw}(c:oh V){n:ByteArray}{b:List UInt8}(d:dz n V=some (b,s))(f:s=b.length):pP n b.length V=V:=by
 unfold pP;refine(jf (g:=id) λe g=>?_).trans (List.map_id V);by_cases a:e.1=n
 .rw[if_pos a];have b:=Uv c e g;rw[a,d]at b;obtain⟨c,c,c⟩:=e;cases b;subst f;simp only[id,iA]
 .rw[if_neg a];rfl
theorem aby{picks:List Int}{V:Vw}(c:oh V)(d:∀e∈V,e.2.2=e.2.1.length):∀(a:List (List UInt8)) (i:Nat),BC picks i a V=V
 | [],_=>rfl
 |n::a,i=>by
  unfold BC;cases f:dz ⟨n.toArray⟩ V with
  |none=>exact aby c d a (i+1)
  |some g=>
   obtain⟨b,s⟩:=g;have g:s=b.length:=by obtain⟨e,h,k⟩:=aV.1 (Us.1 (show dz ⟨n.toArray⟩ V≠none by rw[f];simp));have j:=Uv c e h;rw[k,f]at j;have k:=d e h;rw[<-bh j]at k;exact k
   have e:xM picks i b.length s=b.length:=by have:=aft picks i (Nat.le_of_eq g);omega
   show BC picks (i+1) a (pP _ (xM picks i b.length s) V)=V;rw[e,aGl c f g];exact aby c d a (i+1)
theorem aGm{f:Lk}(b:Dl Z B w p r f T K F)(a:K<1000000000)(g:∀n q,f n=some q->q.2=q.1.length){picks:List Int}(h:Iv w pv picks)(i:picks≠[]->WG F pv):
  Calls Tryz.prog 38 #[.pointer (some ⟨p,0,none⟩),pv] w λe w'=>e=.returned (.tuple #[])/\pR Z B w p r F w' f T K:=by
 obtain⟨f,a,rfl,rfl,c⟩:=b;have d:=a.names;have j:∀e∈f,e.2.2=e.2.1.length:=λe b=>g e.1 e.2 (Uv d e b)
 obtain⟨f,g,k,l,l,rfl,rfl⟩:=a;refine(awg l (by omega) (by simp[vw]at c;omega) h i).mono ?_;rintro e w' ⟨b,e,h,i,a⟩;rw[aby d j]at a;exact⟨b,_,⟨_,⟨f,by rw[a];exact g,k,e,h,rfl,rfl⟩,by rw[a],by rw[a],by rw[a];exact c⟩,i⟩
theorem anK(Z:Nat)(w:World)(h1:1<=Z)(a:Z<=1073741824):
  Calls Tryz.prog 20 #[.int .i64 (Z:Int)] w λe w'=>e=.returned (.tuple #[.pointer (some ⟨w.heap.size+1,0,none⟩),.int .i64 0])/\(∃F,Dl Z w.heap.size w' (w.heap.size+1) w.heap.size (λ_=>none) 0 0 F)/\Grow w w':=by
 refine(ave (Z:Int) w (by omega) (by omega)).mono ?_;rintro e w' ⟨rfl,a,b⟩;exact⟨rfl,⟨_,[],⟨by omega,aY _,0,[],a,rfl,rfl⟩,rfl,rfl,aw _⟩,b⟩
end Go.Proofs.YtoolkdapflaeeaaGreatDoor
namespace Go.Proofs.YtoolkdapflaeeaaGreatDoor
open Go.RowKit Go.Gl Go.aF Mn
abbrev nr(a:List cO):List UInt8:=cg aq (a.map dP)
theorem aGo(a:List cO)(e:cO):nr (a++[e])=nr a++bC aq (dP e):=by simp[nr,cg]
abbrev gW(size:Nat)(l:List En):List UInt8:=ig (eX size [] l) l.length (eC l)
abbrev kZ(b:Nat×List Wr):List UInt8:=jw b.1 b.2
abbrev jy(a:List (List (Nat×List Wr))):List (List (List UInt8)):=a.map (List.map kZ)
def aH(a:List (List (Nat×List Wr))):List En:=a.flatten.foldl (λl b=>fO b.1 b.2 l) []
structure rq(l:List En):Prop where
 ord:cx l
 gone:Ai l
 ok:∀x∈l,CR x
structure OP(b:Nat×List Wr):Prop where
 seq:b.1<18446744073709551616
 len:b.2.length<=100000
 bytes:bj b.2<=50000000
 keys:∀y∈b.2,y.key.size<=65535/\y.val.length<=33554432
theorem rq.put{l:List En}(a:rq l){x:En}(c:CR x)(d:x.gone=true->x.val=[]):rq (kR x l):=by
 refine⟨Yy a.ord,λe b=>?_,λe b=>?_⟩
 .rcases(Yx a.ord).1 b with rfl|⟨h1,_⟩
  .exact d
  .exact a.gone e h1
 .rcases(Yx a.ord).1 b with rfl|⟨h1,_⟩
  .exact c
  .exact a.ok e h1
theorem aGp{y:Wr}(a:s<18446744073709551616)(b:y.key.size<=65535/\y.val.length<=33554432):CR (gI s y)/\((gI s y).gone=true->(gI s y).val=[]):=by
 refine⟨⟨b.1,a,?_⟩,λa=>?_⟩
 .unfold gI;dsimp only;split
  .exact aY _
  .exact b.2
 .unfold gI at a ⊢;dsimp only at a ⊢;rw[if_pos a]
theorem rq.lay{s:Nat}(a:s<18446744073709551616):∀{ws:List Wr}{l:List En},(∀y∈ws,y.key.size<=65535/\y.val.length<=33554432)->rq l->rq (fO s ws l)
 | [],_,_,h=>h
 |y::ws,l,hk,h=>by obtain⟨b,c⟩:=aGp a (hk y (ej ..));rw[ajB];exact rq.lay a (λa d=>hk a (fE _ d)) (h.put b c)
theorem aGq:rq []:=⟨List.Pairwise.nil,λ_ a=>(by cases a),λ_ a=>(by cases a)⟩
theorem anL:∀{a:List (Nat×List Wr)} {l:List En},(∀b∈a,OP b)->rq l->rq (a.foldl (λl b=>fO b.1 b.2 l) l)
 | [],_,_,h=>h
 |b::a,l,hb,h=>by have a:=hb b (ej ..);rw[List.foldl_cons];exact anL (λb c=>hb b (fE _ c)) (h.lay a.seq a.keys)
theorem aGr{a:List (List (Nat×List Wr))}(c:∀b∈a.flatten,OP b):rq (aH a):=anL c aGq
theorem OQ(a:List (List (Nat×List Wr)))(c:List (Nat×List Wr))(b:Nat×List Wr):aH (a++[c++[b]])=fO b.1 b.2 (aH (a++[c])):=by simp[aH]
theorem OS(a:List (List (Nat×List Wr))):aH (a++[[]])=aH a:=by simp[aH]
structure di where
 V:bM
 LL:List (List (Nat×List Wr))
 aB:Int->List En
 es:List cO
structure yV(size:Nat)(f:Lk)(s:di):Prop where
 cur:f uz=some (lJ 0,(lJ 0).length)
 Kk:f (dt 0)=some (nr s.es,(nr s.es).length)
 tmp:f rH=none
 one:Ut f 0
 all:gD dw s.es=(0,s.V)
 good:Good s.V
 Kl:∀e∈s.es,BO e/\e.drop.length<=10000/\(dP e).length<=67108864
 tabs:∀x∈s.V.tabs,f (eR x.file.toNat)=some (gW size (s.aB x.file),(gW size (s.aB x.file)).length)
 only:∀k:ByteArray,Lib.hasPrefix k.data.toList JJ=true->f k≠none->∃x∈s.V.tabs,k=eR x.file.toNat
 aB:∀x∈s.V.tabs,s.aB x.file≠[]/\rq (s.aB x.file)
 files:∀x∈s.V.tabs,x.file<s.V.next
theorem Km{p q:List UInt8}{a b:UInt8}(c:Lib.hasPrefix l (a::p)=true)(d:a≠b):Lib.hasPrefix l (b::q)=false:=by
 cases l with
 |nil=>rfl
 |cons a l=>simp only[Lib.hasPrefix,List.isPrefixOf,Bool.and_eq_true,beq_iff_eq,Bool.and_eq_false_iff,beq_eq_false_iff_ne]at c ⊢;exact .inl (λe=>d (c.1.trans e.symm))
theorem anM:vp=119:: [97,108,45]:=by decide
theorem anN(a:Lib.hasPrefix l JJ=true):Lib.hasPrefix l vp=false:=by rw[anM];exact Km a (by decide)
theorem anO(a:Lib.hasPrefix l sL=true):Lib.hasPrefix l vp=false:=by rw[anM];exact Km (p:=[97,110,105,102,101,115,116,45]) a (by decide)
theorem abz:Lib.hasPrefix (uz).data.toList vp=false:=by decide
theorem anP:Lib.hasPrefix (rH).data.toList vp=false:=by decide
theorem OT(n:Nat):Lib.hasPrefix (eR n).data.toList JJ=true:=by unfold eR JJ Lib.hasPrefix;simp[List.isPrefixOf]
theorem abA(m n:Nat):eR m≠dt n:=λe=>by have c:=OT m;rw[e]at c;have d:=Km (b:=109) (q:=[97,110,105,102,101,115,116,45]) (a:=116) (p:=[45]) c (by decide);have a:=Uu n;exact absurd (d.symm.trans a) (by decide)
theorem anQ(b:eR m=eR n):m=n:=by
 have a:=congrArg (λc=>c.data.toList) b;simp only[eR,List.toList_toArray]at a;have b:=List.append_cancel_left a;have:dt m=dt n:=by unfold dt;rw[b]
 exact awq this
theorem yV.abB{size:Nat}{f f':Lk}{s:di}(a:yV size f s)(b:∀n:ByteArray,Lib.hasPrefix n.data.toList vp=false->f' n=f n):yV size f' s:=by refine⟨(b _ abz).trans a.cur,(b _ (CZ 0)).trans a.Kk,(b _ anP).trans a.tmp,⟨by rw[b _ (CZ 0)];exact a.one.1,λc d e=>a.one.2 c d (by rw[<-b c (anO d)];exact e)⟩,a.all,a.good,a.Kl,λf g=>(b _ (wV _)).trans (a.tabs f g),λc d e=>a.only c d (by rw[<-b c (anN d)];exact e),a.aB,a.files⟩
def cf(s:di)(seq:Nat)(D:Nat)(k0 k1:ByteArray)(wal:Nat):cO:=⟨[⟨s.V.next,0,k0,k1,(D:Int)⟩],[],(seq:Int),s.V.next+1,(wal:Int)⟩
def lh(s:di)(a:cO):di:=⟨(bH s.V a).2,[[]],λb=>if b=s.V.next then aH s.LL else s.aB b,s.es++[a]⟩
theorem aGs(l:List Tb):l.filter (iY [])=l:=List.filter_eq_self.2 (λ_ _=>rfl)
theorem OU{s:di}{D:Nat}(h0:(bH s.V (cf s seq D k0 k1 wal)).1=0):(bH s.V (cf s seq D k0 k1 wal)).2.tabs.Perm (s.V.tabs++[⟨s.V.next,0,k0,k1,(D:Int)⟩]):=by have a:=El h0;rw[a.tabs];have a:=BH (s.V.tabs.filter (iY (cf s seq D k0 k1 wal).drop)++(cf s seq D k0 k1 wal).add);refine a.trans ?_;rw[show(cf s seq D k0 k1 wal).drop=[]from rfl,aGs];exact List.Perm.refl _
theorem anR{s:di}{seq D wal:Nat}{k0 k1:ByteArray}:(dP (cf s seq D k0 k1 wal)).length<=100+k0.size+k1.size:=by
 have a:=agB (cf s seq D k0 k1 wal);have a:(cf s seq D k0 k1 wal).add.length=1:=rfl;have a:(cf s seq D k0 k1 wal).drop.length=0:=rfl;have a:jP (cf s seq D k0 k1 wal).add=k0.size+k1.size:=by simp[jP,cf]
 omega
theorem anS{s:di}{D:Nat}(a:Good s.V)(b:seq<18446744073709551616)(h0:k0.size<=65535)(h1:k1.size<=65535)(ha:(bH s.V (cf s seq D k0 k1 wal)).1=0):BO (cf s seq D k0 k1 wal):=by
 have b:jP (cf s seq D k0 k1 wal).add=k0.size+k1.size:=by simp[jP,cf]
 refine ayi a (El ha) ⟨?_,?_⟩ (by simp[cf]) (by simp[cf]) (by omega)
 .show(0:Int)<=(seq:Int);omega
 .show(seq:Int)<18446744073709551616;omega
theorem anT{s:di}(a:0<=s.V.next):dA (s.V.next+1) s.V.next=s.V.next+1:=by unfold dA;rw[if_neg (by omega)]
theorem yV.flush{size:Nat}{f f':Lk}{s:di}(d:yV size f s){n D:Nat}(t:s.V.next=(n:Int))(w:seq<18446744073709551616)(_hD:D=(gW size (aH s.LL)).length)(h0:k0.size<=65535)(h1:k1.size<=65535)(ha:(bH s.V (cf s seq D k0 k1 wal)).1=0)(x:aH s.LL≠[])(hm:rq (aH s.LL))(j:∀k:ByteArray,Lib.hasPrefix k.data.toList vp=false->f' k=((f.set (eR n) (gW size (aH s.LL),(gW size (aH s.LL)).length)).set (dt 0) (nr (s.es++[cf s seq D k0 k1 wal]),(nr (s.es++[cf s seq D k0 k1 wal])).length)) k):
  yV size f' (lh s (cf s seq D k0 k1 wal)):=by
 have f:=OU ha;have l:∀c,c∈(lh s (cf s seq D k0 k1 wal)).V.tabs↔c∈s.V.tabs\/c=⟨s.V.next,0,k0,k1,(D:Int)⟩:=λc=>by show c∈(bH s.V (cf s seq D k0 k1 wal)).2.tabs↔_;rw[f.mem_iff,dn,cZ]
 have y:(lh s (cf s seq D k0 k1 wal)).V.next=s.V.next+1:=by show(bH s.V (cf s seq D k0 k1 wal)).2.next=_;rw[(El ha).next];exact anT (by omega)
 have u:∀c∈s.V.tabs,(lh s (cf s seq D k0 k1 wal)).aB c.file=s.aB c.file:=λc f=>if_neg (by have:=d.files c f;omega)
 have v:(lh s (cf s seq D k0 k1 wal)).aB s.V.next=aH s.LL:=if_pos rfl;have z:∀c∈s.V.tabs,eR c.file.toNat≠eR n:=λc f e=>by have g:=anQ e;have h:=d.files c f;have h:=(d.good.tabs c f).file.1;omega
 refine⟨?_,?_,?_,?_,?_,?_,?_,λc f=>?_,λk i h=>?_,λc f=>?_,λc f=>?_⟩
 .rw[j _ abz,iC _ (Ne.symm (WL 0)),iC _ (λe=>by have:=OT n;rw[<-e]at this;revert this;decide)];exact d.cur
 .rw[j _ (CZ 0),sN];rfl
 .rw[j _ anP,iC _ (Ne.symm (QP 0)),iC _ (λe=>by have:=OT n;rw[<-e]at this;revert this;decide)];exact d.tmp
 .refine⟨by rw[j _ (CZ 0),sN];simp,λk i h=>?_⟩
  rw[j k (anO i)]at h;by_cases e:k=dt 0
  .exact e
  .rw[iC _ e]at h
   by_cases m:k=eR n
   .exfalso;have r:=Km (b:=109) (q:=[97,110,105,102,101,115,116,45]) (a:=116) (p:=[45]) (OT n) (by decide);rw[<-m]at r;exact absurd (r.symm.trans i) (by decide)
   .rw[iC _ m]at h;exact d.one.2 k i h
 .have:=Mc d.all ha (W:=(bH s.V (cf s seq D k0 k1 wal)).2) rfl;simpa[lh]using this
 .exact agI d.good ha ⟨by show(0:Int)<=(seq:Int);omega,by show(seq:Int)<18446744073709551616;omega⟩
 .intro e o
  rcases dn.1 o with o|o
  .exact d.Kl e o
  .rw[cZ.1 o];exact⟨anS d.good w h0 h1 ha,by simp[cf],by have:=@anR s seq D wal k0 k1;omega⟩
 .rw[j _ (wV _),iC _ (abA _ _)]
  rcases(l c).1 f with g|rfl
  .rw[iC _ (z c g),u c g];exact d.tabs c g
  .dsimp only;rw[v,t,Int.toNat_natCast,sN]
 .rw[j k (anN i)]at h
  by_cases e:k=dt 0
  .exfalso;rw[e]at i;have r:=Km (b:=116) (q:=[45]) (a:=109) (p:=[97,110,105,102,101,115,116,45]) (Uu 0) (by decide);exact absurd (r.symm.trans i) (by decide)
  .rw[iC _ e]at h
   by_cases m:k=eR n
   .exact⟨_,(l _).2 (.inr rfl),by dsimp only;rw[t,Int.toNat_natCast];exact m⟩
   .rw[iC _ m]at h;obtain⟨c,a,b⟩:=d.only k i h;exact⟨c,(l c).2 (.inl a),b⟩
 .rcases(l c).1 f with g|rfl
  .rw[u c g];exact d.aB c g
  .dsimp only;rw[v];exact⟨x,hm⟩
 .rw[y]
  rcases(l c).1 f with g|rfl
  .have:=d.files c g;omega
  .dsimp only;omega
theorem anU:∀(a:List (Nat×List Wr)) (l:List En),costs (a.foldl (λl b=>fO b.1 b.2 l) l)<=costs l+16*(a.map λb=>b.2.length).sum+(a.map λb=>bj b.2).sum/\(a.foldl (λl b=>fO b.1 b.2 l) l).length<=l.length+(a.map λb=>b.2.length).sum
 | [],l=>⟨aw _,aw _⟩
 |b::a,l=>by obtain⟨c,c⟩:=anU a (fO b.1 b.2 l);obtain⟨a,a⟩:=Oe b.1 l b.2;rw[List.foldl_cons];simp only[cr,List.sum_cons];omega
theorem abC(l:List Nat)(i:Nat):(l.take i).sum<=l.sum:=by
 conv=>rhs;rw[<-List.take_append_drop i l,List.sum_append]
 omega
structure wZ(A C i:Nat)(s:di):Prop where
 pB:(aH s.LL).length+(s.V.tabs.map λx=>(s.aB x.file).length).sum<=A
 cost:costs (aH s.LL)+(s.V.tabs.map λx=>costs (s.aB x.file)).sum<=C
 yX:0<=s.V.wal
 wal:s.V.wal+(s.LL.length:Int)<=(i:Int)
 Gk:0<=s.V.next
 next:s.V.next<=(i:Int)
 el:s.es.length<=i
 adds:(s.es.map λe=>e.add.length).sum<=i
 Gm:∀b∈s.LL.flatten,OP b
 Kn:s.LL.flatten.length<=i
 OV:(s.LL.flatten.map λb=>b.2.length).sum<=A
 OW:(s.LL.flatten.map λb=>bj b.2).sum<=C
theorem wZ.more{b:Nat}{s:di}(a:wZ A C i s)(c:A<=A')(d:C<=b)(hi:i<=i'):wZ A' b i' s:=
 ⟨aJ a.pB c,aJ a.cost d,a.yX,by have:=a.wal;omega,a.Gk,by have:=a.next;omega,aJ a.el hi,aJ a.adds hi,a.Gm,aJ a.Kn hi,aJ a.OV c,aJ a.OW d⟩
theorem wZ.flush{i size:Nat}{f:Lk}{s:di}(a:wZ A C i s)(g:yV size f s){D wal:Nat}(ha:(bH s.V (cf s seq D k0 k1 wal)).1=0)(c:(wal:Int)+1<=(i+1:Nat)):wZ A C (i+1) (lh s (cf s seq D k0 k1 wal)):=by
 have j:=OU ha;have d:(lh s (cf s seq D k0 k1 wal)).V=(bH s.V (cf s seq D k0 k1 wal)).2:=rfl;have c:=agI g.good ha;have h:aH (lh s (cf s seq D k0 k1 wal)).LL=[]:=rfl;have i:∀(f:List En->Nat),((lh s (cf s seq D k0 k1 wal)).V.tabs.map λc=>f ((lh s (cf s seq D k0 k1 wal)).aB c.file)).sum=(s.V.tabs.map λc=>f (s.aB c.file)).sum+f (aH s.LL):=λf=>by
  rw[d,(j.map _).sum_nat,dS,List.sum_append];congr 1
  .congr 1
   refine jf λc j=>?_
   show f (if c.file=s.V.next then aH s.LL else s.aB c.file)=_;rw[if_neg (by have:=g.files c j;omega)]
  .simp[lh]
 have c:(bH s.V (cf s seq D k0 k1 wal)).2.wal=dA (wal:Int) s.V.wal:=(El ha).wal;have f:(bH s.V (cf s seq D k0 k1 wal)).2.next=s.V.next+1:=by rw[(El ha).next];exact anT a.Gk
 have g:=a.yX;have g:=a.wal;have g:dA (wal:Int) s.V.wal=wal\/dA (wal:Int) s.V.wal=s.V.wal:=by unfold dA;split<;>simp
 refine⟨?_,?_,?_,?_,?_,?_,?_,?_,λb b=>?_,aY _,aY _,aY _⟩
 .have:=a.pB;rw[h,i List.length];simp only[iJ];omega
 .have:=a.cost;rw[h,i costs];simp only[costs,List.map_nil,List.sum_nil]at*;omega
 .rw[d,c];rcases g with e|e<;>rw[e]<;>omega
 .rw[d,c]
  have c:(lh s (cf s seq D k0 k1 wal)).LL.length=1:=rfl;rw[c];unfold dA;split
  .rename_i c;omega
  .omega
 .rw[d,f];have:=a.Gk;omega
 .rw[d,f];have:=a.next;omega
 .have:=a.el;simp[lh];omega
 .have:=a.adds;simp[lh,cf];omega
 .simp[lh]at b
section
def cJ(s:di):List En:=aH s.LL++(s.V.tabs.map λa=>s.aB a.file).flatten
def pD(s:di):Nat:=(s.LL.flatten.map (·.1)).foldl max s.V.seq.toNat
structure cY(Z B Nn A C i:Nat)(w:World)(t:Tr)(f:Lk)(T K:Nat)(s:di):Prop where
 tree:cR Z B Nn w t f T K
 V:t.V=s.V
 gX:yV t.o.block.toNat f s
 log:gU f s.V.wal.toNat (gO (jy s.LL))
 sync:∀n q,f n=some q->q.2=q.1.length
 lim:wZ A C i s
 mem:t.ns.map (λn=>n.x.e)=aH s.LL
 m:(t.m:Int)+1=s.V.wal+(s.LL.length:Int)
 ne:s.LL≠[]
 ld:∀x∈s.V.tabs,∃b,t.ld x.file=some (b,s.aB x.file)
 opt:sw t.o
 seq:t.seq=pD s
 rr:t.seq<=i
 vu:qQ (cJ s)
 top:∀e∈cJ s,e.seq<=t.seq
 K:K<=10*i
variable{Z B Nn A C i:Nat}{w w':World}{t:Tr}{f:Lk}{T K:Nat}{s:di}
theorem cY.grow(a:cY Z B Nn A C i w t f T K s)(b:Grow w w'):cY Z B Nn A C i w' t f T K s:={a with tree:=a.tree.grow b}
theorem cY.yY(a:cY Z B Nn A C i w t f T K s):rq (aH s.LL):=aGr a.lim.Gm
theorem foldl_max:∀(l:List Nat)(a:Nat),a<=l.foldl max a/\∀x∈l,x<=l.foldl max a
 | [],a=>⟨aw _,λ_ b=>by cases b⟩
 |y::l,a=>by
  obtain⟨b,b⟩:=foldl_max l (max a y);rw[List.foldl_cons];refine⟨by omega,λx a=>?_⟩;rcases bI.1 a with rfl|a
  .omega
  .exact b x a
theorem cY.aGt(a:cY Z B Nn A C i w t f T K s):0<=s.V.seq/\s.V.seq<=(t.seq:Int):=by have b:=(foldl_max (s.LL.flatten.map (·.1)) s.V.seq.toNat).1;have b:=a.seq;unfold pD at b;have b:=a.gX.good.seq.1;omega
theorem cY.last(c:cY Z B Nn A C i w t f T K s):∃a b,s.LL=a++[b]/\t.m=s.V.wal.toNat+a.length/\f (bJ cy t.m)=some (cg aq (b.map kZ),(cg aq (b.map kZ)).length)/\f (bJ cy (t.m+1))=none:=by
 obtain⟨a,b,d⟩:∃a b,s.LL=a++[b]:=⟨_,_,(List.dropLast_concat_getLast c.ne).symm⟩
 have hm:=c.m;have e:=c.lim.yX;rw[d]at hm;simp only[aM,dD,iJ]at hm;have e:t.m=s.V.wal.toNat+a.length:=by omega
 have f:=c.log;rw[d]at f;refine⟨a,b,d,e,?_,?_⟩
 .rw[e];exact f.there a.length _ (by simp)
 .rw[e];exact f.none (.inr (by simp;omega))
theorem anW{D:Nat}(a:∀x∈s.V.tabs,x.file<s.V.next)(ha:(bH s.V (cf s seq D k0 k1 wal)).1=0):∀e,e∈cJ (lh s (cf s seq D k0 k1 wal))↔e∈cJ s:=by
 have c:=OU ha;intro e;unfold cJ;rw[show aH (lh s (cf s seq D k0 k1 wal)).LL=[]from rfl,iK,dn,List.mem_flatten,List.mem_flatten];have e:∀x∈s.V.tabs,(lh s (cf s seq D k0 k1 wal)).aB x.file=s.aB x.file:=λx b=>if_neg (by have:=a x b;omega)
 have f:(lh s (cf s seq D k0 k1 wal)).aB s.V.next=aH s.LL:=if_pos rfl;constructor
 .rintro⟨l,d,a⟩
  obtain⟨x,b,rfl⟩:=aV.1 d;rcases dn.1 (c.mem_iff.1 b)with h2|h2
  .rw[e x h2]at a;exact .inr ⟨_,aV.2 ⟨x,h2,rfl⟩,a⟩
  .rw[cZ.1 h2]at a;dsimp only at a;rw[f]at a;exact .inl a
 .rintro(a|⟨l,d,a⟩)
  .exact⟨_,aV.2 ⟨⟨s.V.next,0,k0,k1,(D:Int)⟩,c.mem_iff.2 (nz _ (List.mem_singleton_self _)),rfl⟩,by dsimp only;rw[f];exact a⟩
  .obtain⟨x,b,rfl⟩:=aV.1 d;exact⟨_,aV.2 ⟨x,c.mem_iff.2 (jg _ b),rfl⟩,by rw[e x b];exact a⟩
theorem qQ.congr{a b:List En}(d:qQ a)(c:∀e,e∈b↔e∈a):qQ b:=λa e b f g=>d a ((c a).1 e) b ((c b).1 f) g
theorem OX:∀l:List En,(bu l).length<=costs l+15*l.length
 | []=>by simp[bu]
 |e::l=>by
  have a:=OX l;have a:=ox e.key.data.toList;have a:=ox e.val;have a:=cF e.seq;have a:e.key.data.toList.length=e.key.size:=by rw[ia];rfl
  have a:bu (e::l)=qh e++bu l:=by simp[bu]
  rw[a];simp only[qh,aM,dD,costs,cr,List.sum_cons,iH]at*;omega
theorem wZ.aGu(a:wZ A C i s):wZ A C (i+1) s:=a.more (aw _) (aw _) (Nat.le_succ i)
theorem cY.more(a:cY Z B Nn A C i w t f T K s)(hi:i<=i'):cY Z B Nn A C i' w t f T K s:=
 {a with lim:=a.lim.more (aw _) (aw _) hi,rr:=aJ a.rr hi,K:=by have:=a.K;omega}
def sA(f:Lk):Prop:=∀n a,f n=some a->a.2=a.1.length
theorem sA.set{f:Lk}(b:sA f)(n:ByteArray)(x:List UInt8):sA (f.set n (x,x.length)):=λm c a=>by
 unfold Lk.set at a
 split at a
 .cases a;rfl
 .exact b m c a
theorem sA.del{f:Lk}(b:sA f)(n:ByteArray):sA (f.del n):=λm c a=>by
 unfold Lk.del at a
 split at a
 .cases a
 .exact b m c a
theorem sA.qf{f:Lk}(b:sA f)(nm:List UInt8)(a:Nat):∀j,sA (qf nm a f j)
 |0=>b
 |j+1=>(b.qf nm a j).del _
theorem tN{k:ByteArray}(a:Lib.hasPrefix k.data.toList vp=false)(n:Nat):k≠bJ cy n:=λe=>by rw[e]at a;exact absurd (a.symm.trans (Sg n)) (by decide)
theorem cY.put(a:cY Z B Nn A C i w t f T K s){w':World}{b:Tr}{f':Lk}(e:cR Z B Nn w' b f' T' K')(g:b.V=t.V)(d:b.o=t.o)(h:b.ns=t.ns)(hm:b.m=t.m)(j:b.ld=t.ld)(c:b.seq=t.seq)(k:f'=f)(f:K'<=K+10):cY Z B Nn A C (i+1) w' b f' T' K' s:=by subst k;exact⟨e,by rw[g];exact a.V,by rw[d];exact a.gX,a.log,a.sync,a.lim.aGu,by rw[h];exact a.mem,by rw[hm];exact a.m,a.ne,by rw[j];exact a.ld,by rw[d];exact a.opt,by rw[c];exact a.seq,by rw[c];have:=a.rr;omega,a.vu,by rw[c];exact a.top,by have:=a.K;omega⟩
theorem aGv(a:List (List (Nat×List Wr))):gO (jy (a++[[]]))=gO (jy a)++[[]]:=by simp[cg]
theorem AY(a:List (List (Nat×List Wr))):(gO (jy a)).length=a.length:=by simp
theorem abE(V:bM)(a:List (List (Nat×List Wr)))(b:Int->List En)(c:List cO):cJ ⟨V,a++[[]],b,c⟩=cJ ⟨V,a,b,c⟩:=by unfold cJ;rw[OS]
theorem aGw(V:bM)(a:List (List (Nat×List Wr)))(b:Int->List En)(c:List cO):pD ⟨V,a++[[]],b,c⟩=pD ⟨V,a,b,c⟩:=by unfold pD;simp
theorem cY.aGx(a:cY Z B Nn A C i w t f T K s){w':World}{c:Tr}{f':Lk}(g:cR Z B Nn w' c f' T' K')(h:c.V=t.V)(d:c.o=t.o)(j:c.ns=t.ns)(hm:c.m=t.m+1)(k:c.ld=t.ld)(e:c.seq=t.seq)(l:f'=f.set (bJ cy (t.m+1)) ([],0))(m:K'<=K+10):cY Z B Nn A C (i+1) w' c f' T' K' {s with LL:=s.LL++[[]]}:=by
 subst l;have c:=a.m;have c:=a.lim.yX;have c:=a.lim;refine⟨g,by rw[h];exact a.V,?_,?_,sA.set a.sync _ [],?_,?_,?_,by simp,by rw[k];exact a.ld,by rw[d];exact a.opt,?_,by rw[e];have:=a.rr;omega,?_,?_,by have:=a.K;omega⟩
 .rw[d];have d:=a.gX.abB (f':=f.set (bJ cy (t.m+1)) ([],0)) (λn f=>iC _ (tN f _) _);exact⟨d.cur,d.Kk,d.tmp,d.one,d.all,d.good,d.Kl,d.tabs,d.only,d.aB,d.files⟩
 .have d:=a.log.Oz;rw[AY,show s.V.wal.toNat+s.LL.length=t.m+1 from by omega]at d;dsimp only;rw[aGv];exact d
 .exact⟨by dsimp only;rw[OS];exact c.pB,by dsimp only;rw[OS];exact c.cost,c.yX,by have:=c.wal;simp only[aM,dD,iJ];omega,c.Gk,by have:=c.next;dsimp only;omega,by have:=c.el;dsimp only;omega,by have:=c.adds;dsimp only;omega,λb d=>c.Gm b (by simpa using d),by have:=c.Kn;simp;simp at this;omega,by have:=c.OV;simpa using this,by have:=c.OW;simpa using this⟩
 .dsimp only;rw[OS,j];exact a.mem
 .rw[hm];simp only[aM,dD,iJ];omega
 .rw[aGw,e];exact a.seq
 .rw[abE];exact a.vu
 .rw[abE,e];exact a.top
theorem cY.aGy(a:cY Z B Nn A C i w t f T K s){w':World}{c:Tr}{f':Lk}{n:Nat}{b:Nat}(d:s.V.next=(n:Int))(m:t.seq<18446744073709551616)(h0:k0.size<=65535)(h1:k1.size<=65535)(ha:(bH s.V (cf s t.seq (gW t.o.block.toNat (aH s.LL)).length k0 k1 (t.m+1))).1=0)(o:aH s.LL≠[])(p:cR Z B Nn w' c f' T' K')(q:c.V=(bH s.V (cf s t.seq (gW t.o.block.toNat (aH s.LL)).length k0 k1 (t.m+1))).2)(l:c.o=t.o)(r:c.ns=[])(hm:c.m=t.m+1)(u:c.ld=λk=>if k=(n:Int)then some (b,aH s.LL)else t.ld k)(g:c.seq=t.seq)(h:f'=qf cy s.V.wal.toNat (((f.set (eR n) (gW t.o.block.toNat (aH s.LL),(gW t.o.block.toNat (aH s.LL)).length)).set (bJ cy (t.m+1)) ([],0)).set (dt 0) (nr s.es++bC aq (dP (cf s t.seq (gW t.o.block.toNat (aH s.LL)).length k0 k1 (t.m+1))),(nr s.es++bC aq (dP (cf s t.seq (gW t.o.block.toNat (aH s.LL)).length k0 k1 (t.m+1)))).length)) s.LL.length)(f:K'<=K+10):cY Z B Nn A C (i+1) w' c f' T' K' (lh s (cf s t.seq (gW t.o.block.toNat (aH s.LL)).length k0 k1 (t.m+1))):=by
 obtain⟨c,f⟩:∃c,c=cf s t.seq (gW t.o.block.toNat (aH s.LL)).length k0 k1 (t.m+1):=⟨_,rfl⟩
 have c:=a.m;have c:=a.lim.yX;have i:=a.lim;have c:=a.aGt;have c:=El ha;have f:0<s.LL.length:=List.length_pos_iff.2 a.ne;have v:yV t.o.block.toNat f' (lh s (cf s t.seq (gW t.o.block.toNat (aH s.LL)).length k0 k1 (t.m+1))):=by
  refine a.gX.flush d m rfl h0 h1 ha o a.yY (λk f=>?_);rw[h,Jd _ _ _ _ (λj _=>tN f _),aGo];unfold Lk.set;split
  .rfl
  .rw[if_neg (tN f _)]
 have j:(bH s.V (cf s t.seq (gW t.o.block.toNat (aH s.LL)).length k0 k1 (t.m+1))).2.wal=((t.m+1:Nat):Int):=by rw[c.wal];show dA ((t.m+1:Nat):Int) s.V.wal=_;unfold dA;rw[if_neg (by omega)]
 have o:(bH s.V (cf s t.seq (gW t.o.block.toNat (aH s.LL)).length k0 k1 (t.m+1))).2.seq=(t.seq:Int):=by
  rw[c.seq];show dA (t.seq:Int) s.V.seq=_;unfold dA;split
  .rename_i c;omega
  .rfl
 have k:=anW a.gX.files ha;have m:∀c∈s.V.tabs,c.file≠(n:Int):=λc f=>by have:=a.gX.files c f;omega
 refine⟨p,q,by rw[l];exact v,?_,?_,i.flush a.gX ha ?_,by rw[r];rfl,?_,by simp[lh],λc f=>?_,by rw[l];exact a.opt,?_,by rw[g];have:=a.rr;omega,a.vu.congr k,λe l=>by rw[g];exact a.top e ((k e).1 l),by have:=a.K;omega⟩
 .have e:=(((a.log.Uf (wV n) (gW t.o.block.toNat (aH s.LL),(gW t.o.block.toNat (aH s.LL)).length)).Oz).Uf (CZ 0) (nr s.es++bC aq (dP (cf s t.seq (gW t.o.block.toNat (aH s.LL)).length k0 k1 (t.m+1))),(nr s.es++bC aq (dP (cf s t.seq (gW t.o.block.toNat (aH s.LL)).length k0 k1 (t.m+1)))).length)).drop s.LL.length
  rw[AY,show s.V.wal.toNat+s.LL.length=t.m+1 from by omega]at e;rw[h];show gU _ (bH s.V _).2.wal.toNat (gO (jy [[]]));rw[j,Int.toNat_natCast];have k:(gO (jy s.LL)++[[]]).drop s.LL.length=gO (jy [[]]):=by rw[List.drop_append_of_le_length (by rw[AY];exact aw _),List.drop_eq_nil_of_le (by rw[AY];exact aw _)];simp[cg]
  rw[k]at e;exact e
 .rw[h];exact((((sA.set a.sync _ _).set _ []).set _ _).qf _ _ _)
 .have:=i.wal;omega
 .rw[hm];show((t.m+1:Nat):Int)+1=(bH s.V _).2.wal+_;rw[j];rfl
 .rw[u]
  rcases dn.1 ((OU ha).mem_iff.1 f)with h2|h2
  .obtain⟨e,f⟩:=a.ld c h2;refine⟨e,?_⟩;dsimp only;rw[if_neg (m c h2),f];show _=some (e,if c.file=s.V.next then aH s.LL else s.aB c.file);rw[if_neg (by rw[d];exact m c h2)]
  .rw[cZ.1 h2];refine⟨b,?_⟩;dsimp only;rw[if_pos d];show _=some (b,if s.V.next=s.V.next then aH s.LL else _);rw[if_pos rfl]
 .rw[g];show t.seq=pD _;unfold pD;show t.seq=([]:List Nat).foldl max (bH s.V _).2.seq.toNat;rw[o];simp
end
section
theorem fA.drv{w:World}{o:Od}{drv:Value}(a:fA w db sb o drv lv mb tm seq hm):w.cell? ⟨db,6,none⟩=some drv:=by unfold fA at a;simp[World.cell?,a]
theorem anY{l:List En}{k:ByteArray}(a:l[j]?.map En.key=some k):k.size<=costs l:=by
 cases c:l[j]? with
 |none=>rw[c]at a;cases a
 |some d=>rw[c]at a;cases a;obtain⟨a,b,e⟩:=ry (dm c);rw[e,TH];simp only[costs,iH,cr,List.sum_cons];omega
def aGA(Z B Nn A C i:Nat)(w:World)(t:Tr)(T:Nat)(s:di)(e:Ending)(w':World):Prop:=
 ∃(c:Nat)(a:Tr)(f':Lk)(T' K':Nat)(b:di),e=.returned (.int .i64 (c:Int))/\fJ w t w' a/\cY Z B Nn A C (i+1) w' a f' T' K' b/\(∀d,d∈cJ b↔d∈cJ s)/\a.seq=t.seq/\a.hh=t.hh/\a.hn=t.hn/\
  b.V.tabs.length<=s.V.tabs.length+1/\
  (c=0\/c=5/\(Z<T+(gW t.o.block.toNat (aH s.LL)).length+(2*costs (aH s.LL)+200)\/∃k0 k1,(aH s.LL)[0]?.map En.key=some k0/\(aH s.LL)[(aH s.LL).length-1]?.map En.key=some k1/\(bH s.V (cf s t.seq (gW t.o.block.toNat (aH s.LL)).length k0 k1 (t.m+1))).1≠0))/\
  T'<=T+(gW t.o.block.toNat (aH s.LL)).length+(2*costs (aH s.LL)+200)/\(aH b.LL=[]\/T'=T/\aH b.LL=aH s.LL)
theorem aGB{B:Nat}{x:En}{v:Array Value}(a:Ra B x v W):∃y,v=#[.agg (cd y)]/\y.e=x/\nU N B W y:=by obtain⟨c,rfl,a⟩:=a;refine⟨⟨x,c⟩,rfl,rfl,cE a,.inr (λb b=>.inr ⟨(a.lt b).1,?_⟩)⟩;obtain⟨c,d⟩:=a.block b;exact⟨c,_,d,rfl⟩
theorem anZ{B:Nat}(x:En)(v:Array Value):OwnFrom B (λ(_:Unit) W=>Ra B' x v W):=by rintro _ W a a ⟨c,d,a⟩ e f;refine⟨c,d,a.keep (λb c=>?_)⟩;obtain⟨b,b⟩:=a.block c;rw[si e f b,b]
theorem aGC{w:World}{l:List En}{e:Ending}(d:NJ N w l e w1 180)(_hN:∀b,N b->b<w.heap.size)(f:l.length<=1000000000)(i:∀x∈l,x.val.length<=1000000000000):
  ∃a,e=.returned (.func (.func 180) #[] #[.pointer (some ⟨a,0,none⟩)])/\Grow w w1/\Calls Tryz.prog 58 #[.func (.func 180) #[] #[.pointer (some ⟨a,0,none⟩)]] w1 λe w'=>∃v c,e=.returned v/\c.map Ev.e=l/\cQ w1.heap.size NF w' v c/\Grow w1 w':=by
 obtain⟨a,c,v,j,k,h,g,l,m⟩:=d;refine⟨a,j,m,?_⟩;have j:Es (λb=>(N b\/w.heap.size<=b)/\b<w1.heap.size) w1 v c:=(l.es (M:=λb=>N b\/w.heap.size<=b) (λb a=>a)).lt;have c:=(ZA j (by rw[<-g,bA]at f;exact f) (λj l=>i _ (by rw[<-g];exact aV.2 ⟨j,l,rfl⟩)) h ⟨.inr k,af h⟩).1;rw[g]at c;refine(akx (N:=NF) (λx:En=>x) (enters_of Tryz.func180 (by kernel_rfl) rfl) c (λb a=>a.2) (λb a=>a.elim) (λx v W d=>aGB d) (λx v=>anZ x v) f).mono ?_;rintro e w' ⟨a,b,c,d,e,f⟩;exact⟨a,b,c,by rw[d,List.map_id'],e,f⟩
theorem getLast_map{l:List En}{a:List Ev}(b:a.map Ev.e=l)(i:Nat):l[i]?=(a[i]?).map Ev.e:=by rw[<-b,gQ]
variable{Z B Nn A C i:Nat}{w:World}{t:Tr}{f:Lk}{T K:Nat}{s:di}
def Ux(Z B Nn:Nat)(w:World)(t:Tr)(f:Lk)(T K:Nat)(q:List UInt8×Nat)(e:cO)(g:Value)(b:World):Prop:=
 ∃(c:Int)(f':Lk)(T':Nat)(a:bM)(d:Value) (F':Nat->Prop),g=.int .i64 c/\ait Z f T t.V 0 q e c f' T' a/\cR Z B Nn b {t with tv:=d,V:=a,F:=F'} f' T' (K+1)/\fJ w t b {t with tv:=d,V:=a,F:=F'}
theorem aGD(b:cR Z B Nn w t f T K)(d:t.V.tabs.length<=5000){a:cO}(g:uD w av a.add)(h:Ints w dv a.drop)(i:a.add.length<=5000)(j:a.drop.length<=10000)(k:jP a.add<=60000000)(l:(bH t.V a).1=0->BO a)(m:0<Nn){q:List UInt8×Nat}(n:f (dt 0)=some q):
  Calls Tryz.prog 63 #[.pointer (some ⟨t.sb,0,none⟩),.agg (dY av dv a.seq a.next a.wal)] w λe w'=>∃c,e=.returned c/\Ux Z B Nn w t f T K q a c w':=by
 refine(aAs b.set b.own d g h i j k l b.aS (b.base t.sb (.inr (.inr (.inr (.inl rfl))))) b.dK m (by omega) n).mono ?_;rintro e w' ⟨f,f',T',a,c,F',rfl,g,d,h,e,i⟩;have j:w'.heap[t.sb]?=some (.cells (setCells t.p c a ((0:Nat):Int)) 154 (0,0)):=d;obtain⟨k,l⟩:=b.com d h e i (e.apart j (by decide) (by decide) (by decide));exact⟨_,rfl,f,f',T',a,c,F',rfl,g,k,l⟩
theorem aoa(c:cY Z B Nn A C i w t f T K s)(hA:A<=100000)(hC:C<=1000000)(hi:i+3<=Nn)(xe:i<=900000)(dG:s.V.tabs.length<=4999):
  Calls Tryz.prog 37 #[.pointer (some ⟨t.db,0,none⟩)] w (aGA Z B Nn A C i w t T s):=by
 obtain⟨aX,cM⟩:=c.tree.mem;have ki:t.ns.length=(aH s.LL).length:=by rw[<-c.mem,bA]
 obtain⟨n,hn⟩:∃n:Nat,s.V.next=(n:Int):=⟨s.V.next.toNat,by have:=c.lim.Gk;omega⟩
 have Uy:n<=i:=by have:=c.lim.next;omega
 have ku:=c.yY;have Js:(aH s.LL).length<=A:=by have:=c.lim.pB;omega
 have bo:costs (aH s.LL)<=C:=by have:=c.lim.cost;omega
 have OZ:=OX (aH s.LL);have bq:∀x∈aH s.LL,x.val.length<=33554432:=λx J=>(ku.ok x J).val
 obtain⟨gp,bs,pE,hm,oL,bt⟩:=c.last;have Pa:t.m+1<=i:=by have k:=c.m;have Q:=c.lim.wal;omega
 have bz:t.seq<18446744073709551616:=by have:=c.rr;omega
 have qC:f (eR n)=none:=by
  cases dq:f (eR n)with
  |none=>rfl
  |some bD=>obtain⟨x,J,jb⟩:=c.gX.only _ (OT n) (by rw[dq];simp);have Q:=anQ jb;have R:=c.gX.files x J;have Y:=(c.gX.good.tabs x J).file.1;omega
 have tP:=c.opt;obtain⟨y,bE⟩:∃y:Nat,t.o.block=(y:Int):=⟨t.o.block.toNat,by have:=tP.1.2.2.1;omega⟩
 have JV:1<=y:=by have:=tP.1.2.2.1;omega
 have Te:y<=67108864:=by have:=tP.1.2.2.2;omega
 have ep:t.o.block.toNat=y:=by omega
 have Uz:=c.V;have D:=c.tree.own;rw[Uz]at D;have ao:=c.tree.set;rw[Uz]at ao;have ap:∀b,t.N b->b<w.heap.size:=λb S=>(c.tree.apart b S).1
 have vo:=Yb ao D (by omega);have aE:=λ(W:World)(p:Grow w W)=>aDS (cM.grow p) (λb S=>bF (ap b S) p.size) (by rw[ki];omega)
 rw[c.mem]at aE;obtain⟨q,_,r,U,_,_,_,d⟩:=c.tree.cell.cells;have Gn:=ae (fJ.refl w t);have o:=ae c;have qX:=ae (aFb cM);have dr:=ae ap;have Iu:=ae ki;have Hn:=ae hn;have Pc:=ae Uy;have Gp:=ae ku;have UA:=ae Js;have bK:=ae bo;have bL:=ae OZ;have bN:=ae bq;have Hm:=ae hm;have du:=ae oL;have dx:=ae bt;have Pd:=ae Pa;have bQ:=ae bz;have QN:=ae qC;have sf:=ae (ag bE (ag JV (ag Te ep)));have HV:=ae Uz;have CW:=ae vo;have gB:=ae aE;have E:=ae (ag hA (ag hC (ag hi (ag xe dG))));have Dh:=ae pE;clear cM c hn Uy ku Js bo OZ bq hm oL bt Pa bz qC tP bE JV Te ep Uz D ao ap vo aE hA hC hi xe dG pE;go_enter Tryz.func37,Tryz.ntmps37
 go_wp2_with fail
 (with_reducible refine qX.out.mono ?_);rintro e w1 ⟨rfl,rfl⟩;by_cases hz:t.ns.length=0
 .have e0:((t.ns.length:Int)==0)=true:=by simp[hz]
  have Hz:=ae hz;clear hz ki;go_wp2;go_ret;exact⟨0,t,f,T,K,s,rfl,Gn.out,o.out.more (Nat.le_succ i),λx=>Iff.rfl,rfl,rfl,rfl,Nat.le_succ _,.inl rfl,by omega,.inr ⟨rfl,rfl⟩⟩
 have e0:((t.ns.length:Int)==0)=false:=beq_eq_false_iff_ne.2 (by omega);have Hz:=ae hz;clear hz ki;have dy:=λ(tv:Value)(W:World)=>aES tv s.V.seq s.V.next s.V.wal W
 rw[Hn.out]at dy;have vo:=CW.out;rw[Hn.out]at vo;have bR:=ae vo;obtain⟨s0,_⟩:=o.out.tree.set.cells;have ot:t.sb<w1.heap.size:=o.out.tree.set.cells.2.2.2.2.2.2;clear vo CW
 go_wp2_with fail
 (with_reducible refine bR.out.mono ?_);rintro e w2 ⟨v2,rfl,_,aF⟩;clear q r U d s0 ot;obtain⟨q,_,r,U,_,_,_,d⟩:=(o.out.tree.grow aF).cell.cells;have eG:=ae aF;clear aF
 go_wp2_with fail
 (with_reducible refine(gB.out w2 eG.out).mono ?_);rintro e w3 rD;obtain⟨Bl,rfl,bT,NK⟩:=aGC rD (λb S=>bF (dr.out b S) eG.out.size) (by have:=UA.out;have:=E.out.1;omega) (λx J=>by have:=bN.out x J;omega);have mi:=eG.out.trans bT;have Tf:=ae NK;clear q r U d rD NK;obtain⟨q,_,r,U,_,_,_,d⟩:=(o.out.tree.grow mi).cell.cells;have CO:=ae mi;clear mi bT
 go_wp2_with fail
 (with_reducible refine Tf.out.mono ?_);rintro e w4 ⟨v4,L,rfl,M,bU,bV⟩;clear Tf;have qU:=CO.out.trans bV;have yZ:=o.out.tree.grow qU;have g:Es (λb=>w3.heap.size<=b) w4 v4 L:=bU.es (λb S=>S.elim (λx=>x.elim) id);have Gq:L.length=(aH s.LL).length:=by rw[<-M,bA]
 have Di:aH s.LL≠[]:=λe=>by have k:=Iu.out;rw[e]at k;exact Hz.out k
 have bY:0<L.length:=by rw[Gq];exact List.length_pos_iff.2 Di
 obtain⟨y0,mI⟩:∃G,L[0]?=some G:=⟨L[0],by simp[bY]⟩
 obtain⟨y1,AR⟩:∃G,L[L.length-1]?=some G:=⟨L[L.length-1],by rw[ek (by omega)]⟩
 have Ko:∀G∈L,CR G.e:=λG hy=>Gp.out.ok _ (by rw[<-M];exact aV.2 ⟨G,hy,rfl⟩)
 have jZ:y0.e.key.size<=65535:=(Ko y0 (dm mI)).key;have lV:y1.e.key.size<=65535:=(Ko y1 (dm AR)).key;have vS:(aH s.LL)[0]?.map En.key=some y0.e.key:=by rw[getLast_map M,mI];rfl
 have gz:(aH s.LL)[(aH s.LL).length-1]?.map En.key=some y1.e.key:=by rw[<-Gq,getLast_map M,AR];rfl
 have ai:=E.out;have aL:=UA.out;have aR:=bK.out;have aT:=bL.out;have uQ:=Pc.out;have aU:=aFe (N:=Nn) (lvl:=0) (n:=n) yZ.cell yZ.set yZ.aS yZ.dK (by omega) (by omega) QN.out g (λb S hF=>by have k:=(o.out.tree.aS.foot hF).2;have Q:=CO.out.size;omega) (by rw[Gq];omega) (by rw[M];exact Gp.out.ord) (by rw[M];exact Gp.out.gone) sf.out.1 sf.out.2.1 sf.out.2.2.1
  (λG hy=>⟨(Ko G hy).key,(Ko G hy).seq,(Ko G hy).val⟩) (by rw[M,Gq];omega) (by rw[M,Gq];have:=amM (size:=y) Di (by omega) (by omega);omega) mI AR
 rw[M,Gq]at aU;have ca:=ae aU;have Hk:=ae (ag jZ (ag lV (ag vS gz)));have oZ:=ae Di;have cb:(gW y (aH s.LL)).length<=300000000:=amM (size:=y) Di (by omega) (by omega);have ea:=ae cb;obtain⟨va,vc,rfl⟩:=g.slice;have xj:=ae yZ;have Ox:=ae qU;obtain⟨a,hD⟩:∃a,a=gW y (aH s.LL):=⟨_,rfl⟩
 have HD:=ae hD;generalize y0.e.key=k0 at*;generalize y1.e.key=k1 at*;clear yZ g Gq Di bY mI AR Ko jZ lV vS gz ai aL aR aT uQ aU cb qU bU M bV q r U d hD CO gB bR qX;obtain⟨q,_,r,U,_,_,_,d⟩:=xj.out.cell.cells
 go_wp2_with fail
 (with_reducible refine ca.out.mono ?_);rintro e w5 hp;clear ca q r U d;rw[show ig (eX y [] (aH s.LL)) (aH s.LL).length (eC (aH s.LL))=a from HD.out.symm]at hp;rcases hp with⟨cc,rfl,F5,ja,aj⟩|⟨oU,rfl,F5,ja,aj⟩
 rotate_left
 .obtain⟨tQ,AZ⟩:=xj.out.Gg ja aj;have UB:=ae tQ;have dB:=ae ((fJ.bO t Ox.out).trans AZ);have Oy:=ae oU;clear tQ AZ ja aj oU;go_wp2;go_ret;refine⟨5,{t with F:=F5},f,T,K+1,s,rfl,dB.out.grow (ar _ _),o.out.put (UB.out.grow (ar _ _)) rfl rfl rfl rfl rfl rfl rfl (by omega),λx=>Iff.rfl,rfl,rfl,rfl,Nat.le_succ _,.inr ⟨rfl,.inl ?_⟩,by omega,.inr ⟨rfl,rfl⟩⟩;rw[sf.out.2.2.2,<-HD.out];have:=Oy.out;omega
 obtain⟨tQ,AZ⟩:=xj.out.Gg ja aj;have aZ:=ar w5 (.cells #[.int .i64 (n:Int),.int .i64 0,.string k0,.string k1,.int .i64 (a.length:Int)] 101);have eW:=ax w5 (.cells #[.int .i64 (n:Int),.int .i64 0,.string k0,.string k1,.int .i64 (a.length:Int)] 101);have tR:=tQ.grow aZ;have Pe:=ae (((fJ.bO t Ox.out).trans AZ).grow aZ);have MQ:=ae cc;clear ja aj AZ tQ cc;have ce:eA (w5.alloc (.cells #[.int .i64 (n:Int),.int .i64 0,.string k0,.string k1,.int .i64 (a.length:Int)] 101)) t.lb t.p cy (t.m:Int):=tR.log;have Ag:(f.set (eR n) (a,a.length)) (bJ cy t.m)=some (cg aq (bs.map kZ),(cg aq (bs.map kZ)).length):=by rw[iC _ (Ne.symm (tN (wV n) _))];exact du.out
 have ch:(f.set (eR n) (a,a.length)) (bJ cy (t.m+1))=none:=by rw[iC _ (Ne.symm (tN (wV n) _))];exact dx.out
 have ci:=aAp Jc tR.aS ce tR.dK (tR.base t.lb (.inr (.inr (.inr (.inr (.inl rfl)))))) Ag ch (by have:=Pd.out;have:=E.out;omega) (by have:=Pd.out;have:=E.out;omega);have yQ:fA (w5.alloc (.cells #[.int .i64 (n:Int),.int .i64 0,.string k0,.string k1,.int .i64 (a.length:Int)] 101)) t.db t.sb t.o t.drv (.pointer (some ⟨t.lb,0,none⟩)) t.mb t.tm t.seq t.hm:=tR.cell;obtain⟨q,_,r,U,_,_,_,d⟩:=yQ.cells;have ck:=ae ci;have ba:=ae tR;have mW:=ae eW;clear ce Ag ch ci yQ tR eW aZ
 go_upto_region 5 with fail
 generalize w5.alloc (.cells #[.int .i64 (n:Int),.int .i64 0,.string k0,.string k1,.int .i64 (a.length:Int)] 101)=w6 at*;generalize w5.heap.size=h at*
 go_wp2_with fail
 (with_reducible refine ck.out.mono ?_);rintro e H ⟨rfl,F7,wD,Tl,pZ⟩;obtain⟨cl,bb⟩:=ba.out.Oz Tl wD pZ;have EP:=ae (Pe.out.trans bb);have cn:H.heap[h]?=some (.cells #[.int .i64 (n:Int),.int .i64 0,.string k0,.string k1,.int .i64 (a.length:Int)] 101 (0,0)):=(bb.sep.out h (af mW.out) (ba.out.off mW.out (by decide))).trans mW.out;have ER:=ae cl;have Kq:=ae cn;clear ck Pe wD Tl pZ bb cl cn q r U d
 go_upto_region 9 with fail
 have l:=ay H;have S9:∀W,Grow H W->(W.cell? ⟨t.db,0,none⟩=some (.pointer (some ⟨t.sb,0,none⟩))/\W.cell? ⟨t.db,7,none⟩=some (.pointer (some ⟨t.lb,0,none⟩))/\W.cell? ⟨t.db,10,none⟩=some (.int .u64 (t.seq:Int))/\t.db<W.heap.size)/\(W.cell? ⟨h,0,none⟩=some (.int .i64 (n:Int))/\W.cell? ⟨h,1,none⟩=some (.int .i64 0)/\W.cell? ⟨h,2,none⟩=some (.string k0)/\W.cell? ⟨h,3,none⟩=some (.string k1)/\W.cell? ⟨h,4,none⟩=some (.int .i64 (a.length:Int))/\h<W.heap.size):=λW p=>by have hC:fA W t.db t.sb t.o t.drv (.pointer (some ⟨t.lb,0,none⟩)) t.mb t.tm t.seq t.hm:=(ER.out.grow p).cell;obtain⟨q,_,r,_,_,bc,_,d⟩:=hC.cells;obtain⟨r0,r1,r2,r3,r4⟩:=dI (p.heap Kq.out);exact⟨⟨q,r,bc,d⟩,r0,r1,r2,r3,r4,af (p.heap Kq.out)⟩
 have Kr:=ae S9;clear S9;have Le:IntKind.i64.wrap ((n:Int)+1)=(n:Int)+1:=aQ _ (by have:=Pc.out;have:=E.out;omega);have co:∀W qb,Grow H W->W.heap[qb]?=some (.cells #[.int .i64 (n:Int),.int .i64 0,.string k0,.string k1,.int .i64 (a.length:Int)] 101 (0,0))->
   Calls Tryz.prog 63 #[.pointer (some ⟨t.sb,0,none⟩),.agg (dY (.slice (some ⟨qb,0,none⟩) 1 1) (.slice none 0 0) (t.seq:Int) ((n:Int)+1) ((t.m+1:Nat):Int))] W λe w'=>∃I,e=.returned I/\Ux Z B Nn H {{t with F:=F5}with m:=t.m+1,F:=F7} ((f.set (eR n) (a,a.length)).set (bJ cy (t.m+1)) ([],0)) (T+a.length) (K+1+1) (nr s.es,(nr s.es).length) (cf s t.seq a.length k0 k1 (t.m+1)) I w':=λW qb p hq=>by
  obtain⟨O,g⟩:∃O,O=cf s t.seq a.length k0 k1 (t.m+1):=⟨_,rfl⟩
  have e1:O.seq=(t.seq:Int):=by rw[g];rfl
  have e2:O.next=(n:Int)+1:=by rw[g];show s.V.next+1=_;rw[Hn.out]
  have e3:O.wal=((t.m+1:Nat):Int):=by rw[g];rfl
  have e4:O.add=[⟨s.V.next,0,k0,k1,(a.length:Int)⟩]:=by rw[g];rfl
  have e5:O.drop=[]:=by rw[g];rfl
  have hA:uD W (.slice (some ⟨qb,0,none⟩) 1 1) O.add:=by
   rw[e4];refine⟨_,_,rfl,.inr ⟨qb,0,rfl,af hq,λi x J aa ec z=>?_⟩⟩;cases i with
   |zero=>
    simp only[List.getElem?_cons_zero,Option.some.injEq]at J;subst J;rw[Hn.out]at z;obtain⟨r0,r1,r2,r3,r4⟩:=dI hq
    match aa,z with
    |0,z=>cases z;exact r0
    |1,z=>cases z;exact r1
    |2,z=>cases z;exact r2
    |3,z=>cases z;exact r3
    |4,z=>cases z;exact r4
   |succ i=>simp at J
  have hD:Ints W (.slice none 0 0) O.drop:=by rw[e5];exact⟨none,0,rfl,aw _,.inl rfl⟩
  have hk:jP O.add=k0.size+k1.size:=by rw[e4];simp[jP]
  have S:=E.out;have tS:=Hk.out;have D:t.V=s.V:=HV.out;have hc:=aGD (ER.out.grow p) (by dsimp only;rw[D];omega) hA hD (by rw[e4];simp) (by rw[e5];simp) (by rw[hk];omega) (λha=>by
   dsimp only at ha;rw[D,g]at ha;rw[g];exact anS o.out.gX.good bQ.out tS.1 tS.2.1 ha) (by omega) (q:=(nr s.es,(nr s.es).length)) (by
   rw[iC _ (tN (CZ 0) _),iC _ (Ne.symm (abA _ _))];exact o.out.gX.Kk)
  rw[e1,e2,e3]at hc;refine hc.mono ?_;rintro e w' ⟨I,rfl,aa,f',T',V',cH,F',k,Q,R,Y⟩;rw[<-g];exact⟨I,rfl,aa,f',T',V',cH,F',k,Q,R,(fJ.bO _ p).trans Y⟩
 have bd:=ae co;clear co;have yA:∀u I,Ux Z B Nn H {{t with F:=F5}with m:=t.m+1,F:=F7} ((f.set (eR n) (a,a.length)).set (bJ cy (t.m+1)) ([],0)) (T+a.length) (K+1+1) (nr s.es,(nr s.es).length) (cf s t.seq a.length k0 k1 (t.m+1)) I u->(u.cell? ⟨t.db,0,none⟩=some (.pointer (some ⟨t.sb,0,none⟩))/\u.cell? ⟨t.db,7,none⟩=some (.pointer (some ⟨t.lb,0,none⟩))/\u.cell? ⟨t.db,10,none⟩=some (.int .u64 (t.seq:Int))/\t.db<u.heap.size)/\(u.cell? ⟨h,0,none⟩=some (.int .i64 (n:Int))/\u.cell? ⟨h,1,none⟩=some (.int .i64 0)/\u.cell? ⟨h,2,none⟩=some (.string k0)/\u.cell? ⟨h,3,none⟩=some (.string k1)/\u.cell? ⟨h,4,none⟩=some (.int .i64 (a.length:Int))/\h<u.heap.size):=by rintro u I ⟨aa,f',T',V',cH,F',k,Q,R,Y⟩;have hC:fA u t.db t.sb t.o t.drv (.pointer (some ⟨t.lb,0,none⟩)) t.mb t.tm t.seq t.hm:=R.cell;obtain⟨q,_,r,_,_,bc,_,d⟩:=hC.cells;have hr:=(Y.sep.out h (af Kq.out) (ER.out.off Kq.out (by decide))).trans Kq.out;obtain⟨r0,r1,r2,r3,r4⟩:=dI hr;exact⟨⟨q,r,bc,d⟩,r0,r1,r2,r3,r4,af hr⟩
 have be:=ae yA;clear yA
 go_cut [6]from 40 to 58 (λI u=>Ux Z B Nn H {{t with F:=F5}with m:=t.m+1,F:=F7} ((f.set (eR n) (a,a.length)).set (bJ cy (t.m+1)) ([],0)) (T+a.length) (K+1+1) (nr s.es,(nr s.es).length) (cf s t.seq a.length k0 k1 (t.m+1)) I u)
 case first=>
  refine Zh (λW=>(W.cell? ⟨t.db,0,none⟩=some (.pointer (some ⟨t.sb,0,none⟩))/\W.cell? ⟨t.db,7,none⟩=some (.pointer (some ⟨t.lb,0,none⟩))/\W.cell? ⟨t.db,10,none⟩=some (.int .u64 (t.seq:Int))/\t.db<W.heap.size)/\(W.cell? ⟨h,0,none⟩=some (.int .i64 (n:Int))/\W.cell? ⟨h,1,none⟩=some (.int .i64 0)/\W.cell? ⟨h,2,none⟩=some (.string k0)/\W.cell? ⟨h,3,none⟩=some (.string k1)/\W.cell? ⟨h,4,none⟩=some (.int .i64 (a.length:Int))/\h<W.heap.size)) [(0,false),(1,false),(2,false),(3,false),(4,false),(6,false),(7,false),(8,false),(9,false),(10,false),(11,false),(12,false),(13,false),(14,false),(15,false)] 5 16 [(16,true),(17,false),(18,true),(19,false)] [(5,true),(17,false),(18,true),(19,false)] (by kernel_rfl) (by kernel_rfl) (bB λ_ _ _ _ _ c=>c) (Kr.out _ l) ?_;simp only[cm,nth]
  repeat ((first|(apply az;rfl;rintro W ⟨⟨ab,ad,ak,am⟩,jR,nj,pn,wG,Aa,Gh⟩;go_simp;with_reducible rfl)|(apply aA;rfl));simp only[ah,List.set])
  have bf:=ar H.drew (.cells #[.int .i64 (n:Int),.int .i64 0,.string k0,.string k1,.int .i64 (a.length:Int)] 101);have cW:=l.trans bf;have cq:=ayo H.drew n 0 k0 k1 a.length;have hq:=ax H.drew (.cells #[.int .i64 (n:Int),.int .i64 0,.string k0,.string k1,.int .i64 (a.length:Int)] 101);have nu:∀W,Grow H W->eA W t.lb t.p cy ((t.m+1:Nat):Int):=λW p=>(ER.out.grow p).log
  refine bg (Zi ?_ ?_)
  .simp only[cm,nth]
   refine fK (by rfl) (λK hK=>?_);go_simp;refine hK _ _ ⟨Kr.out _ cW,?_⟩;clear hK K
   try simp only[ah,List.set,aC]
   refine bw (by rfl) (by go_simp) (Ym (nu _ cW)) ?_;rintro e w9 ⟨rfl,rfl⟩;refine⟨_,rfl,Kr.out _ cW,?_⟩
   try simp only[ah,List.set,aC]
   repeat ((first|(apply az;rfl;rintro W ⟨⟨ab,ad,ak,am⟩,jR,nj,pn,wG,Aa,Gh⟩;go_simp;with_reducible rfl)|(apply aA;rfl));simp only[ah,List.set])
   refine bw (by rfl) (by go_simp) (bd.out _ _ cW hq) ?_;rintro e wa ⟨I,rfl,V⟩;refine⟨_,rfl,be.out _ _ V,?_⟩;have bi:=ae V;clear V cq bf l hq cW
   try simp only[ah,List.set,aC]
   repeat ((first|(apply az;rfl;rintro W ⟨⟨ab,ad,ak,am⟩,jR,nj,pn,wG,Aa,Gh⟩;go_simp;with_reducible rfl)|(apply aA;rfl));simp only[ah,List.set])
   refine bg ?_
   go_wp2_with fail
   go_meet;exact bi.out
  .simp only[cm,nth]
   refine bw (by rfl) (by go_simp) (Ym (nu _ l)) ?_;rintro e w9 ⟨rfl,rfl⟩;refine⟨_,rfl,Kr.out _ l,?_⟩
   try simp only[ah,List.set,aC]
   refine fK (by rfl) (λK hK=>?_);go_simp;refine hK _ _ ⟨Kr.out _ cW,?_⟩;clear hK K
   try simp only[ah,List.set,aC]
   repeat ((first|(apply az;rfl;rintro W ⟨⟨ab,ad,ak,am⟩,jR,nj,pn,wG,Aa,Gh⟩;go_simp;with_reducible rfl)|(apply aA;rfl));simp only[ah,List.set])
   refine bw (by rfl) (by go_simp) (bd.out _ _ cW hq) ?_;rintro e wa ⟨I,rfl,V⟩;refine⟨_,rfl,be.out _ _ V,?_⟩;have bi:=ae V;clear V cq bf l hq cW
   try simp only[ah,List.set,aC]
   repeat ((first|(apply az;rfl;rintro W ⟨⟨ab,ad,ak,am⟩,jR,nj,pn,wG,Aa,Gh⟩;go_simp;with_reducible rfl)|(apply aA;rfl));simp only[ah,List.set])
   refine bg ?_
   go_wp2_with fail
   go_meet;exact bi.out
 case rest=>
 obtain⟨aa,f8,T8,V8,cu,F8,rfl,V,sW,yf⟩:=hcut;have g:(cf s t.seq a.length k0 k1 (t.m+1))=(cf s t.seq (gW t.o.block.toNat (aH s.LL)).length k0 k1 (t.m+1)):=by rw[sf.out.2.2.2,<-HD.out]
 have D:t.V=s.V:=HV.out;have cv:=ae (EP.out.trans yf);have zN:=ae sW;have cG:fA wc t.db t.sb t.o t.drv (.pointer (some ⟨t.lb,0,none⟩)) t.mb t.tm t.seq t.hm:=sW.cell;have cI:=ae cG;have HE:=ae g;clear yf sW bd be Kr EP ER Kq Le l cG mW ba g;have dV:(dP (cf s t.seq a.length k0 k1 (t.m+1))).length<=2*costs (aH s.LL)+100:=by have k:=anR (s:=s) (seq:=t.seq) (D:=a.length) (k0:=k0) (k1:=k1) (wal:=t.m+1);have Q:=anY Hk.out.2.2.1;have R:=anY Hk.out.2.2.2;omega
 have eF:(bC aq (dP (cf s t.seq a.length k0 k1 (t.m+1)))).length<=2*costs (aH s.LL)+114:=by have k:=nG aq (dP (cf s t.seq a.length k0 k1 (t.m+1)));have Q:=cF (dP (cf s t.seq a.length k0 k1 (t.m+1))).length;omega
 rcases V with⟨ha,cL,rfl,rfl,rfl,rfl⟩|RO
 rotate_left
 .have dC:aa≠0/\f8=(f.set (eR n) (a,a.length)).set (bJ cy (t.m+1)) ([],0)/\T8=T+a.length/\V8=t.V/\(Z<T+a.length+(2*costs (aH s.LL)+200)\/(bH s.V (cf s t.seq a.length k0 k1 (t.m+1))).1≠0):=by
   rcases RO with⟨_,Q,rfl,Y,h5,h6⟩|⟨k,rfl,Y,h5,h6⟩
   .exact⟨by decide,Y,h5,h6,.inl (by omega)⟩
   .dsimp only at k;exact⟨k,Y,h5,h6,.inr (by rw[<-D];exact k)⟩
  obtain⟨cP,rfl,rfl,rfl,Gr⟩:=dC;have dE:=ae Gr;have e1:(aa != 0)=true:=by simpa using cP
  clear RO Gr cP dV eF D
  go_upto_region 11 with fail
  have l:=ay wc;have cS:∀W,Grow wc W->W.cell? ⟨t.db,0,none⟩=some (.pointer (some ⟨t.sb,0,none⟩))/\t.db<W.heap.size/\W.cell? ⟨t.sb,0,none⟩=some (.pointer (some ⟨t.p,0,none⟩))/\t.sb<W.heap.size:=λW p=>by obtain⟨q,_,_,_,_,_,_,d⟩:=(cI.out.grow p).cells;have hS:eH W t.sb t.p cu t.V ((0:Nat):Int):=(zN.out.grow p).set;exact⟨q,d,hS.cells.1,hS.cells.2.2.2.2.2.2⟩
  have bk:=ae cS;clear cS;refine cN (λW=>W.cell? ⟨t.db,0,none⟩=some (.pointer (some ⟨t.sb,0,none⟩))/\t.db<W.heap.size/\W.cell? ⟨t.sb,0,none⟩=some (.pointer (some ⟨t.p,0,none⟩))/\t.sb<W.heap.size) [8,0,0] (by kernel_rfl) (bB λ_ _ _ _ _ c=>c) (bk.out _ l) ?_;simp only[ct]
  repeat ((first|(apply az;rfl;rintro W ⟨ab,ad,ak,am⟩;go_simp;with_reducible rfl)|(apply aA;rfl));simp only[ah,List.set])
  refine bw (by rfl) (by go_simp) (ZX (zN.out.grow l).dK (n:=n) (by have:=Pc.out;have:=E.out;omega) (by have:=Pc.out;have:=E.out;omega)) ?_;rintro e w9 ⟨rfl,py⟩;have qx:=l.trans py;refine⟨_,rfl,bk.out _ qx,?_⟩
  try simp only[ah,List.set,aC]
  have cT:=ar w9 (.cells #[.string (eR n)] 9);have Pf:=qx.trans cT;refine ud (by rfl) (tZ (v:=.string (eR n)) rfl Tryz.underlying95 Tryz.QE rfl rfl rfl) (bk.out _ Pf) ?_
  try simp only[ah,List.set,aC]
  have an:Dl Z B (w9.alloc (.cells #[.string (eR n)] 9)) t.p t.r ((f.set (eR n) (a,a.length)).set (bJ cy (t.m+1)) ([],0)) (T+a.length) (K+1+1+1) F8:=(zN.out.grow Pf).aS;refine bw (by rfl) (by go_simp) (WV an (q:=(a,a.length)) (by rw[iC _ (tN (wV n) _),sN]) (ax _ _)) ?_;rintro e wb ⟨rfl,F9,gS,kq⟩;obtain⟨X,cU⟩:=(zN.out.grow Pf).Gg gS kq;have Gs:fA wb t.db t.sb t.o t.drv (.pointer (some ⟨t.lb,0,none⟩)) t.mb t.tm t.seq t.hm:=X.cell;have Kj:eH wb t.sb t.p cu t.V ((0:Nat):Int):=X.set;refine⟨_,rfl,⟨Gs.cells.1,Gs.cells.2.2.2.2.2.2.2,Kj.cells.1,Kj.cells.2.2.2.2.2.2⟩,?_⟩;have dF:=ae X;have dL:=ae ((cv.out.grow Pf).trans cU);clear X cU gS kq an Pf cT qx py l Gs Kj
  try simp only[ah,List.set,aC]
  refine bg ?_;go_wp2;go_ret;refine⟨5,_,_,_,_,{s with LL:=s.LL++[[]]},rfl,dL.out,o.out.aGx dF.out rfl rfl rfl rfl rfl rfl ?_ (by omega),λx=>by rw[show cJ {s with LL:=s.LL++[[]]}=cJ s from abE s.V s.LL s.aB s.es],rfl,rfl,rfl,Nat.le_succ _,.inr ⟨rfl,?_⟩,by omega,.inr ⟨by omega,OS _⟩⟩
  .rw[awJ _ (tN (wV n) _),afR,WS (by rw[iC _ (tN (wV n) _)];exact QN.out)]
  .rcases dE.out with k|k
   .exact .inl (by rw[sf.out.2.2.2,<-HD.out];exact k)
   .exact .inr ⟨k0,k1,Hk.out.2.2.1,Hk.out.2.2.2,by rw[<-HE.out];exact k⟩
 have ee:=ae cL;have rC:=ae eF;dsimp only at ha;rw[D]at ha;have Ha:=ae ha;clear cL eF dV ha D
 go_upto_region 13 with fail
 have l:=ay wc;have bl:∀W,Grow wc W->W.cell? ⟨t.db,7,none⟩=some (.pointer (some ⟨t.lb,0,none⟩))/\t.db<W.heap.size:=λW p=>by obtain⟨_,_,r,_,_,_,_,d⟩:=(cI.out.grow p).cells;exact⟨r,d⟩
 refine cN (λW=>W.cell? ⟨t.db,7,none⟩=some (.pointer (some ⟨t.lb,0,none⟩))/\t.db<W.heap.size) [8,0] (by kernel_rfl) (bB λ_ _ _ _ _ c=>c) (bl _ l) ?_;simp only[ct];have dM:=ae bl;clear bl
 repeat ((first|(apply az;rfl;rintro W ⟨ab,ad⟩;go_simp;with_reducible rfl)|(apply aA;rfl));simp only[ah,List.set])
 have nu:eA wc.drew t.lb t.p cy ((t.m+1:Nat):Int):=(zN.out.grow l).log;refine bw (by rfl) (by go_simp) (Ym nu) ?_;rintro e w9 ⟨rfl,rfl⟩;refine⟨_,rfl,dM.out _ l,?_⟩
 try simp only[ah,List.set,aC]
 obtain⟨P,hX⟩:∃P,P=nr s.es++bC aq (dP (cf s t.seq a.length k0 k1 (t.m+1))):=⟨_,rfl⟩
 have HX:=ae hX;have UC:t.m+1=s.V.wal.toNat+s.LL.length/\0<s.LL.length:=by have k:=o.out.m;have Q:=o.out.lim.yX;have R:=List.length_pos_iff.2 o.out.ne;omega
 have da:gU (((f.set (eR n) (a,a.length)).set (bJ cy (t.m+1)) ([],0)).set (dt 0) (P,P.length)) s.V.wal.toNat (gO (jy s.LL)++[[]]):=by have R:=((o.out.log.Uf (wV n) (a,a.length)).Oz).Uf (CZ 0) (P,P.length);rw[AY,<-UC.1]at R;exact R
 have X:=zN.out.grow l;have gS:Dl Z B wc.drew t.p t.r (((f.set (eR n) (a,a.length)).set (bJ cy (t.m+1)) ([],0)).set (dt 0) (P,P.length)) (T+a.length+(bC aq (dP (cf s t.seq a.length k0 k1 (t.m+1)))).length) (K+1+1+1) F8:=by rw[hX];exact X.aS
 have yG:(gO (jy s.LL)++[[]]).length=s.LL.length+1:=by rw[aM,AY];rfl
 have dN:=E.out;have ai:=Pd.out;have Pg:=o.out.K;have Gt:=ais (b:=s.LL.length) rfl da gS nu X.dK (by omega) (by rw[yG];omega) (by rw[yG];omega) (by rw[yG];omega) (by rw[yG];omega) (by rw[yG];omega);rw[show s.V.wal.toNat+s.LL.length=t.m+1 from UC.1.symm]at Gt;refine bw (by rfl) (by go_simp) Gt ?_;rintro e wd ⟨rfl,F9,an,om,Ph⟩;obtain⟨bm,dc⟩:=X.Gg an Ph;have bn:fA wd t.db t.sb t.o t.drv (.pointer (some ⟨t.lb,0,none⟩)) t.mb t.tm t.seq t.hm:=bm.cell;obtain⟨d0,_,d7,d8,_,_,_,d⟩:=bn.cells;refine⟨_,rfl,⟨d7,d⟩,?_⟩;have Ks:=ae bm;have Un:=ae ((cv.out.grow l).trans dc);have dO:=ae bn;have JG:=ae UC;clear bm dc Ph an om Gt gS X da nu hX UC yG dN ai Pg l bn
 try simp only[ah,List.set,aC]
 refine bg ?_;obtain⟨f9,UD⟩:∃f9,f9=qf cy s.V.wal.toNat (((f.set (eR n) (a,a.length)).set (bJ cy (t.m+1)) ([],0)).set (dt 0) (P,P.length)) s.LL.length:=⟨_,rfl⟩
 rw[<-UD]at Ks;have Kt:f9 (eR n)=some (ig (eX y [] (aH s.LL)) (aH s.LL).length (eC (aH s.LL)),(ig (eX y [] (aH s.LL)) (aH s.LL).length (eC (aH s.LL))).length):=by rw[UD,Jd _ _ _ _ (λj _=>tN (wV n) _),iC _ (abA n 0),iC _ (tN (wV n) _),sN,HD.out]
 have ai:=UA.out;have aL:=bK.out;have aR:=bL.out;have aT:=E.out;have uQ:=Pc.out;have lj:=amu dO.out Ks.out.set Ks.out.aS Ks.out.dK (n:=n) (by omega) (by omega) Kt oZ.out Gp.out.ord Gp.out.gone Gp.out.ok (by omega) (by omega) Ks.out.tabs;have dd:=ae lj;have dQ:=ae UD;clear Kt ai aL aR aT uQ lj UD
 go_wp2_with fail
 (with_reducible refine dd.out.mono ?_);rintro e we ⟨rfl,tb,Pj⟩;obtain⟨zJ,yK⟩:=Ks.out.ldd Pj Gp.out.ord (by have:=UA.out;have:=E.out;omega) bN.out;clear d0 d7 d8 d dd;have UE:fA we t.db t.sb t.o t.drv (.pointer (some ⟨t.lb,0,none⟩)) t.mb t.tm t.seq t.hm:=zJ.cell;obtain⟨d0,_,d7,d8,_,_,_,d⟩:=UE.cells;have d6:=UE.drv;have de:Iw (λb=>t.N b\/(wd.heap.size<=b/\b<we.heap.size)) we t.drv t.ds:=zJ.draws;have dg:=ae (aCt de);have dR:=ae zJ;have FI:=ae (Un.out.trans yK);have dh:=ae UE;clear zJ yK de UE Pj
 go_wp2_with fail
 (with_reducible refine dg.out.mono ?_);rintro e wf ⟨ef,eg,Ro,rfl,hM,jq,oG,Kg⟩;obtain⟨dj,Pk⟩:=dR.out.aFM hM jq oG Kg;have ff:∀j,wf.frozen? ⟨t.db,j,none⟩=false:=λj=>by have k:wf.heap[t.db]?=some (.cells (rh t.sb t.o t.drv (.pointer (some ⟨t.lb,0,none⟩)) t.mb t.tm t.seq t.hm) 93 (0,0)):=dh.out.grow jq;simp[World.frozen?,k]
 clear d0 d7 d8 d d6 dg;obtain⟨d0,_,d7,d8,_,_,_,d⟩:=(dh.out.grow jq).cells;have dX:=ae dj;have dZ:=ae (FI.out.trans Pk);clear dj Pk hM jq oG Kg;go_wp2;go_ret;have g:=HE.out;have fI:=o.out.aGy (b:=tb) (k0:=k0) (k1:=k1) Hn.out bQ.out Hk.out.1 Hk.out.2.1 (by rw[<-g];exact Ha.out) oZ.out dX.out (by dsimp only;rw[<-g,HV.out]) rfl rfl rfl rfl rfl (by rw[dQ.out,HX.out,<-g,sf.out.2.2.2,<-HD.out]) (by omega)
 refine⟨0,_,_,_,_,_,rfl,dZ.out,fI,anW o.out.gX.files (by rw[<-g];exact Ha.out),rfl,rfl,rfl,?_,.inl rfl,?_,.inl rfl⟩
 .show(bH s.V _).2.tabs.length<=_;rw[(OU (by rw[<-g];exact Ha.out)).length_eq];simp
 .rw[sf.out.2.2.2,<-HD.out];have:=rC.out;omega
end
end Go.Proofs.YtoolkdapflaeeaaGreatDoor
