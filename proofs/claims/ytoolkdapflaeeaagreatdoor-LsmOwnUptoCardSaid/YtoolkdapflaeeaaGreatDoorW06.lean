/- Helpers. -/
import Derived.Test.YtoolkdapflaeeaaGreatDoorW05
import Derived.Test.YtoolkdapflaeeaaGreatDoorW01
import Derived.Test.YtoolkdapflaeeaaGreatDoorW03
import Derived.Deep.CutRange
import Derived.Deep.DeepCutAuto
set_option maxRecDepth 100000
set_option maxHeartbeats 16000000
set_option linter.unusedSimpArgs false
open Go
variable{B b c ha aX i j k n o tb:Nat}{F F' N:Nat→Prop}{W W' w:World}{arr:Array Value}{ds:List Int}{dv v x0 x1 x2 x3:Value}{f:Nat × Nat}{l:List UInt8}{t:TypeId}
namespace Go.Proofs.YtoolkdapflaeeaaGreatDoor
open Go.RowKit Go.Gl Go.aF Mn
section
structure Kp(N:Nat->Prop)(w w':World):Prop where
 size:w.heap.size<=w'.heap.size
 same:∀b,N b->b<w.heap.size->w'.heap[b]?=w.heap[b]?
section
variable{N M:Nat→Prop}{w w' w'':World}
theorem Kp.refl(N:Nat->Prop)(w:World):Kp N w w:=⟨aw _,λ_ _ _=>rfl⟩
theorem Kp.trans(a:Kp N w w')(k:Kp N w' w''):Kp N w w'':=⟨aJ a.size k.size,λb c d=>(k.same b c (bF d a.size)).trans (a.same b c d)⟩
theorem Kp.bO(a:Grow w w'):Kp N w w':=⟨a.size,λb _ c=>a.block b c⟩
theorem Kp.aAC(a:Sep F w w' F')(c:∀b,N b->¬F b):Kp N w w':=⟨a.size,λb d e=>a.out b e (c b d)⟩
theorem Kp.mono(a:Kp N w w')(c:∀b,M b->N b):Kp M w w':=⟨a.size,λb d e=>a.same b (c b d) e⟩
theorem Kp.grown{r:Option Nat}(a:w.grownBy w' r)(c:∀b,r=some b->¬N b):Kp N w w':=⟨a.size,λb d e=>a.block b e (λa=>c b a.symm d)⟩
theorem Kp.cell(a:Kp N w w')(c:N b)(d:b<w.heap.size)(i:Nat):w'.cell? ⟨b,i,none⟩=w.cell? ⟨b,i,none⟩:=by simp[World.cell?,a.same b c d]
def Bw(N:Nat->Prop)(w:World)(v:Value)(l:List UInt8):Prop:=Bv w v l/\(l=[]\/∀b,v.ownBlock=some b->N b)
theorem Bw.kp{v:Value}(a:Bw N w v l)(k:Kp N w w'):Bw N w' v l:=by
 obtain⟨⟨e,c,rfl,f,g,h,a⟩,d⟩:=a;refine⟨⟨e,c,rfl,f,g,h,?_⟩,d⟩;rcases a with a|⟨b,o,rfl,hb,hc⟩
 .exact .inl a
 .rcases d with rfl|d
  .exact .inl rfl
  .refine .inr ⟨b,o,rfl,bF hb k.size,λj a c=>?_⟩;rw[k.cell (d b rfl) hb];exact hc j a c
theorem Bw.grow{v:Value}(a:Bw N w v l)(b:Grow w w'):Bw N w' v l:=a.kp (.bO b)
theorem Bw.mono{v:Value}(a:Bw N w v l)(c:∀b,N b->M b):Bw M w v l:=⟨a.1,a.2.imp id (λa b d=>c b (a b d))⟩
theorem Bw.slice{v:Value}(b:Bw N w v l):∃a c,v=.slice a l.length c:=by obtain⟨⟨a,c,b,_⟩,_⟩:=b;exact⟨a,c,b⟩
theorem YB(N:Nat->Prop)(w:World):Bw N w (.slice none 0 0) []:=⟨⟨none,0,rfl,aw _,aY _,λ_=>rfl,.inl rfl⟩,.inl rfl⟩
end
structure Ev where
 e:En
 v:Value
instance:Inhabited Ev:=⟨⟨default,.slice none 0 0⟩⟩
def fZ(x:Ev):List Value:=[.string x.e.key,.int .u64 x.e.seq,.bool x.e.gone,x.v]
abbrev cd(x:Ev):Array Value:=#[.string x.e.key,.int .u64 x.e.seq,.bool x.e.gone,x.v]
theorem EU(x:Ev):(fZ x).length=4:=rfl
abbrev lM(N:Nat->Prop)(w:World)(x:Ev):Prop:=Bw N w x.v x.e.val
theorem aAD{N:Nat->Prop}{w:World}{x:Ev}(b:lM N w x):∀a∈fZ x,a.oneCell'=true:=λa a=>by
 obtain⟨d,c,c⟩:=b.slice;simp only[fZ,bI,List.not_mem_nil,or_false]at a;rcases a with rfl|rfl|rfl|rfl
 .rfl
 .rfl
 .rfl
 .rw[c];rfl
def Es(N:Nat->Prop)(w:World)(v:Value)(xs:List Ev):Prop:=
 (∃a c,v=.slice a xs.length c/\xs.length<=c/\c<=maxLen/\(a=none->c=0)/\(xs=[]\/∃b o,a=some ⟨b,o,none⟩/\N b/\b<w.heap.size/\Rd w b o fZ 4 xs))/\∀a∈xs,lM N w a
def YC(B:Nat)(N:Nat->Prop)(w:World)(v:Value)(xs:List Ev):Prop:=w.ownsRow B 60 4 v xs.length (xs.flatMap fZ)/\∀a∈xs,lM N w a
section
variable{N M:Nat→Prop}{w w' w'':World}{v:Value}{xs:List Ev}
theorem Es.kp(a:Es N w v xs)(k:Kp N w w'):Es N w' v xs:=by
 obtain⟨⟨d,c,rfl,e,f,g,a⟩,h⟩:=a;refine⟨⟨d,c,rfl,e,f,g,?_⟩,λd e=>(h d e).kp k⟩;rcases a with a|⟨b,o,rfl,hb,hlt,hr⟩
 .exact .inl a
 .refine .inr ⟨b,o,rfl,hb,bF hlt k.size,λi d e c a b=>?_⟩;rw[k.cell hb hlt];exact hr i d e c a b
theorem Es.grow(a:Es N w v xs)(b:Grow w w'):Es N w' v xs:=a.kp (.bO b)
theorem Es.mono(a:Es N w v xs)(d:∀b,N b->M b):Es M w v xs:=by
 obtain⟨⟨e,c,rfl,f,g,h,a⟩,i⟩:=a;refine⟨⟨e,c,rfl,f,g,h,?_⟩,λc e=>(i c e).mono d⟩;rcases a with a|⟨b,o,rfl,hb,hlt,hr⟩
 .exact .inl a
 .exact .inr ⟨b,o,rfl,d b hb,hlt,hr⟩
theorem Es.slice(b:Es N w v xs):∃a c,v=.slice a xs.length c:=by obtain⟨⟨a,c,b,_⟩,_⟩:=b;exact⟨a,c,b⟩
theorem Es.get(a:Es N w v xs){x:Ev}(b:xs[i]?=some x):lM N w x:=a.2 x (dm b)
theorem Es.addr(a:Es N w v xs){x:Ev}(d:xs[i]?=some x):∃b o c,v=.slice (some ⟨b,o,none⟩) xs.length c/\N b/\b<w.heap.size/\Rd w b o fZ 4 xs:=by
 obtain⟨⟨e,c,rfl,e,e,e,a⟩,e⟩:=a;rcases a with rfl|⟨b,o,rfl,hb,hlt,hr⟩
 .simp at d
 .exact⟨b,o,c,rfl,hb,hlt,hr⟩
theorem Cw{x:Ev}(a:Rd w b o fZ 4 xs)(c:xs[i]?=some x):
  w.cell? ⟨b,o+i*4,none⟩=some (.string x.e.key)/\w.cell? ⟨b,o+i*4+1,none⟩=some (.int .u64 x.e.seq)/\w.cell? ⟨b,o+i*4+2,none⟩=some (.bool x.e.gone)/\w.cell? ⟨b,o+i*4+3,none⟩=some x.v:=
 ⟨a i x c 0 _ rfl,a i x c 1 _ rfl,a i x c 2 _ rfl,a i x c 3 _ rfl⟩
theorem aAE(d:Rd w b o fZ 4 xs):Rd w b (o+i*4) fZ 4 ((xs.drop i).take (j-i)):=λk b a c e f=>by
 rw[List.getElem?_take]at a
 split at a
 .rw[List.getElem?_drop]at a;have:=d (i+k) b a c e f;rw[show o+i*4+k*4+c=o+(i+k)*4+c by omega];exact this
 .cases a
theorem YD{a:Option Addr}(d:Es N w (.slice a xs.length c) xs)(e:i<=j)(e:j<=xs.length)(e:j<=k)(e:k<=c):Es N w (.slice (if k=i then a else a.map (λx=>x.add (i*4))) (j-i) (k-i)) ((xs.drop i).take (j-i)):=by
 obtain⟨⟨c,c,c,e,e,e,d⟩,f⟩:=d;cases c;have c:((xs.drop i).take (j-i)).length=j-i:=by simp;omega
 refine⟨⟨_,k-i,by rw[c],by rw[c];omega,by omega,?_,?_⟩,λx c=>f x (List.mem_of_mem_drop (List.mem_of_mem_take c))⟩
 .intro c
  split at c
  .omega
  .cases a with
   |none=>have:=e rfl;omega
   |some a=>cases c
 .rcases d with rfl|⟨b,o,rfl,hb,hlt,hr⟩
  .left;simp
  .by_cases a:k=i
   .left;rw[show j-i=0 by omega];simp
   .right;rw[if_neg a];exact⟨b,o+i*4,by simp[Addr.add],hb,hlt,aAE hr⟩
theorem YC.es(b:YC B N w v xs)(c:∀g,v.ownBlock=some g->N g):Es N w v xs:=by
 refine⟨?_,b.2⟩;rcases b.1.2 with⟨a,d⟩|⟨g,e,f,a,f,f,h,i,j⟩
 .have:xs=[]:=je d;subst this;exact⟨none,0,a,aw _,aY _,λ_=>rfl,.inl rfl⟩
 .exact⟨some ⟨g,0,none⟩,e,a,h,i,(λd=>by cases d),.inr ⟨g,0,rfl,c g (by rw[a];rfl),af f,xS EU (a ▸ b.1)⟩⟩
end
theorem Tryz.YE:(Tryz.prog.info? 60).map (λi=>(i.zero,i.size,i.bytes))=some (some (.agg #[.string ByteArray.empty,.int .u64 0,.bool false,.slice none 0 0]),4,56):=by kernel_rfl
end
structure Nd where
 blk:Nat
 arr:Nat
 h:Nat
 x:Ev
abbrev au(b:Nat):Value:=.pointer (some ⟨b,0,none⟩)
def cz(k:Nat):List Nd->Value
 | []=>.pointer none
 |n::r=>if k<n.h then au n.blk else cz k r
def cA(k:Nat):List Nd->Option Nd
 | []=>none
 |n::r=>match cA k r with|some a=>some a|none=>if k<n.h then some n else none
def fD(w:World)(g:List Nd->Nat->Value):List Nd->Prop
 | []=>True
 |n::r=>w.heap[n.arr]?=some (.cells ((List.range n.h).map (g r)).toArray 287 (0,0))/\fD w g r
theorem Sy{k:Nat}:∀{r:List Nd}(hi:List Nd),cA k r=none->cz k (r++hi)=cz k hi
 | [],_,_=>rfl
 |n::r,hi,h=>by
  unfold cA at h;cases a:cA k r with
  |some b=>rw[a]at h;cases h
  |none=>
   rw[a]at h;simp only at h
   split at h
   .cases h
   .rename_i b
    rw[gP,cz,if_neg b,Sy hi a]
theorem aiO{k:Nat}:∀{r:List Nd}{m:Nd}(b c:List Nd),cA k r=some m->cz k (r++b)=cz k (r++c)
 | [],_,_,_,h=>by cases h
 |n::r,m,b,c,h=>by
  rw[gP,gP,cz,cz];by_cases a:k<n.h
  .rw[if_pos a,if_pos a]
  .rw[if_neg a,if_neg a]
   unfold cA at h;cases d:cA k r with
   |some e=>exact aiO b c d
   |none=>rw[d]at h;simp[a]at h
theorem Sz{k:Nat}:∀{r:List Nd}{m:Nd},cA k r=some m->m∈r/\k<m.h
 | [],_,h=>by cases h
 |n::r,m,h=>by
  unfold cA at h;cases a:cA k r with
  |some b=>rw[a]at h;cases h;obtain⟨b,c⟩:=Sz a;exact⟨fE _ b,c⟩
  |none=>
   rw[a]at h;simp only at h
   split at h
   .cases h;exact⟨ej ..,by assumption⟩
   .cases h
theorem YF{k:Nat}{n:Nd}{r:List Nd}(b:k<n.h)(c:cA k r=none):∀pre:List Nd,cA k (pre++n::r)=some n
 | []=>by rw[iK,cA,c];simp[b]
 |a::pre=>by rw[gP,cA,YF b c pre]
theorem aiP(k:Nat):∀(r:List Nd),(cA k r=none)\/∃b m c,r=b++m::c/\k<m.h/\∀hi,cz k (r++hi)=au m.blk
 | []=>.inl rfl
 |n::r=>by
  by_cases a:k<n.h
  .exact .inr ⟨[],n,r,rfl,a,λhi=>by rw[gP,cz,if_pos a]⟩
  .rcases aiP k r with d|⟨b,m,c,h1,h2,h3⟩
   .left;rw[cA,d];simp[a]
   .exact .inr ⟨n::b,m,c,by rw[h1];rfl,h2,λhi=>by rw[gP,cz,if_neg a,h3]⟩
theorem aiQ(k:Nat):∀(hi:List Nd),cz k hi=.pointer none\/∃a m b,hi=a++m::b/\cz k hi=au m.blk
 | []=>.inl rfl
 |n::r=>by
  by_cases c:k<n.h
  .exact .inr ⟨[],n,r,rfl,by rw[cz,if_pos c]⟩
  .rcases aiQ k r with d|⟨r1,m,r2,a,b⟩
   .left;rw[cz,if_neg c,d]
   .exact .inr ⟨n::r1,m,r2,by rw[a];rfl,by rw[cz,if_neg c,b]⟩
theorem fD.keep{w w':World}{g:List Nd->Nat->Value}:∀{l:List Nd},fD w g l->(∀n∈l,w'.heap[n.arr]?=w.heap[n.arr]?)->fD w' g l
 | [],_,_=>trivial
 |n::r,h,hk=>⟨by rw[hk n (ej ..)];exact h.1,fD.keep h.2 (λa b=>hk a (fE _ b))⟩
theorem fD.at{w:World}{g:List Nd->Nat->Value}:∀{l pre:List Nd}{n:Nd}{r:List Nd},fD w g l->l=pre++n::r->w.heap[n.arr]?=some (.cells ((List.range n.h).map (g r)).toArray 287 (0,0))
 |_,[],n,r,h,rfl=>h.1
 |_,a::pre,n,r,h,rfl=>fD.at (pre:=pre) h.2 rfl
theorem fD.congr{w:World}{g a:List Nd->Nat->Value}:∀{l:List Nd},fD w g l->(∀pre n r,l=pre++n::r->∀k,k<n.h->g r k=a r k)->fD w a l
 | [],_,_=>trivial
 |n::r,h,hk=>⟨by
  have b:(List.range n.h).map (a r)=(List.range n.h).map (g r):=jf λk a=>(hk [] n r rfl k (List.mem_range.1 a)).symm
  rw[b];exact h.1,fD.congr h.2 (λpre a c b k d=>hk (n::pre) a c (by rw[b];rfl) k d)⟩
theorem fD.split{w:World}{g:List Nd->Nat->Value}{hi:List Nd}:∀{lo:List Nd},fD w g (lo++hi)->fD w (λr=>g (r++hi)) lo/\fD w g hi
 | [],h=>⟨trivial,h⟩
 |_::_,h=>⟨⟨h.1,(fD.split h.2).1⟩,(fD.split h.2).2⟩
theorem fD.join{w:World}{g:List Nd->Nat->Value}{hi:List Nd}:∀{lo:List Nd},fD w (λr=>g (r++hi)) lo->fD w g hi->fD w g (lo++hi)
 | [],_,h=>h
 |_::_,h,h2=>⟨h.1,fD.join h.2 h2⟩
theorem SA{f:Nat->Value}(a:w.heap[b]?=some (.cells ((List.range n).map f).toArray t (0,0)))(c:k<n):w.cell? ⟨b,k,none⟩=some (f k):=by simp[World.cell?,a,c]
def rX(a:Nat)(nw:Nd)(hi:List Nd)(r:List Nd)(k:Nat):Value:=if k<a then cz k (r++nw::hi)else cz k (r++hi)
theorem YG{w:World}{nw:Nd}{hi:List Nd}{b:Nat}(h:b<nw.h):∀{l:List Nd},(l.map Nd.arr).Nodup->fD w (rX b nw hi) l->
  (∀m,cA b l=some m->w.cell? ⟨m.arr,b,none⟩=some (cz b hi)/\fD (w.setCell ⟨m.arr,b,none⟩ (au nw.blk)) (rX (b+1) nw hi) l)/\(cA b l=none->fD w (rX (b+1) nw hi) l)
 | [],_,_=>⟨λ_ a=>(by cases a),λ_=>trivial⟩
 |n::r,hn,ht=>by
  have e:=List.nodup_cons.1 hn;obtain⟨d,i⟩:=YG h e.2 ht.2;constructor
  .intro m a
   cases c:cA b r with
   |some l=>
    unfold cA at a;rw[c]at a;cases a;obtain⟨g,j⟩:=d m c;have d:n.arr≠m.arr:=λf=>e.1 (by rw[f];exact aV.2 ⟨m,(Sz c).1,rfl⟩)
    refine⟨g,?_,j⟩;rw[aN _ _ _ _ d,ht.1];congr 3;apply jf;intro k _;unfold rX;rcases Nat.lt_trichotomy k b with d|d|d
    .rw[if_pos d,if_pos (by omega)]
    .subst d;rw[if_neg (by omega),if_pos (by omega),aiO _ (nw::hi) c]
    .rw[if_neg (by omega),if_neg (by omega)]
   |none=>
    unfold cA at a;rw[c]at a;simp only at a
    split at a
    .rename_i g
     cases a;have j:=SA ht.1 g;refine⟨by rw[j,rX,if_neg (by omega),Sy hi c],?_,(i c).keep (λj m=>aN _ _ _ _ (λf=>e.1 (by have e:j.arr=n.arr:=f;rw[<-e];exact aV.2 ⟨j,m,rfl⟩)))⟩;rw[Go.Gl.aK ht.1];congr 2;apply Array.ext';simp only[Array.toList_setIfInBounds];apply List.ext_getElem?;intro k;rw[List.getElem?_set];by_cases e:b=k
     .subst e;simp[g,rX,Sy _ c,cz,h]
     .rw[if_neg e]
      by_cases e:k<n.h
      .simp only[gQ,List.getElem?_range e,Option.map_some]
       unfold rX;rcases Nat.lt_trichotomy k b with d|d|d
       .rw[if_pos d,if_pos (by omega)]
       .omega
       .rw[if_neg (by omega),if_neg (by omega)]
      .simp[e]
    .cases a
  .intro a
   unfold cA at a;cases c:cA b r with
   |some l=>rw[c]at a;cases a
   |none=>
    rw[c]at a;simp only at a
    split at a
    .cases a
    .rename_i g
     refine⟨?_,i c⟩;rw[ht.1];congr 3;apply jf;intro k a;have c:=List.mem_range.1 a;unfold rX;rw[if_pos (show k<b by omega),if_pos (by omega)]
theorem aAG{nw:Nd}{hi lo:List Nd}(a:fD w (λr k=>cz k (r++hi)) lo):fD w (rX 0 nw hi) lo:=a.congr (λ_ _ _ _ k _=>by simp[rX])
theorem aAH{nw:Nd}{hi lo:List Nd}(a:fD w (rX nw.h nw hi) lo):fD w (λr k=>cz k (r++nw::hi)) lo:=a.congr (λ_ _ r _ k _=>by
 unfold rX;by_cases a:k<nw.h
 .rw[if_pos a]
 .rw[if_neg a]
  have:∀r:List Nd,cz k (r++hi)=cz k (r++nw::hi):=λr=>by
   induction r with
   |nil=>rw[iK,iK,cz,if_neg a]
   |cons a r a=>rw[gP,gP,cz,cz,a]
  exact this r)
noncomputable def mleft(l:List Nd)(p:Value):Nat:=match p with| .pointer (some a)=>l.length-(l.map Nd.blk).idxOf a.block|_=>0
theorem SB{l pre r:List Nd}{n:Nd}(a:(l.map Nd.blk).Nodup)(b:l=pre++n::r):mleft l (au n.blk)=r.length+1:=by
 subst b;simp only[mleft];rw[dS,cr]at a ⊢;have b:n.blk ∉ pre.map Nd.blk:=λc=>(List.nodup_append.1 a).2.2 _ c _ (ej ..) rfl
 rw[List.idxOf_append,if_neg b];simp
end Go.Proofs.YtoolkdapflaeeaaGreatDoor
namespace Go.Proofs.YtoolkdapflaeeaaGreatDoor
open Go.RowKit Go.Gl Mn
section
def fits(key:ByteArray)(up:Nat)(e:En):Prop:=e.key=key/\e.seq<=up
instance(key:ByteArray)(up:Nat)(e:En):Decidable (fits key up e):=inferInstanceAs (Decidable (_/\_))
def uP:Option En->Option En->Option En
 |none,y=>y
 |some x,none=>some x
 |some x,some y=>if x.seq<y.seq then some y else some x
def eP(key:ByteArray)(up:Nat):List En->Option En
 | []=>none
 |e::r=>uP (if fits key up e then some e else none) (eP key up r)
variable{key:ByteArray}{up:Nat}
theorem aiS(x:Option En):uP x none=x:=by cases x<;>rfl
theorem aAI(x y z:Option En):uP (uP x y) z=uP x (uP y z):=by
 cases x with
 |none=>rfl
 |some x=>
  cases y with
  |none=>cases z<;>rfl
  |some y=>
   cases z with
   |none=>rw[aiS,aiS]
   |some z=>
    simp only[uP];by_cases b:x.seq<y.seq
    .by_cases a:y.seq<z.seq
     .simp[b,a,show x.seq<z.seq by omega]
     .simp[b,a]
    .by_cases a:y.seq<z.seq
     .simp[b,a]
     .simp[b,a,show¬x.seq<z.seq by omega]
theorem aAJ(a b:List En):eP key up (a++b)=uP (eP key up a) (eP key up b):=by
 induction a with
 |nil=>rfl
 |cons b a a=>rw[gP,eP,eP,a,aAI]
theorem EW{l:List En}:eP key up l=none↔∀e∈l,¬fits key up e:=by
 induction l with
 |nil=>simp[eP]
 |cons e l d=>
  rw[eP];by_cases c:fits key up e
  .rw[if_pos c]
   constructor
   .intro a
    cases b:eP key up l with
    |none=>rw[b]at a;cases a
    |some f=>rw[b]at a;simp only[uP]at a;split at a<;>cases a
   .intro a;exact absurd c (a e (ej ..))
  .rw[if_neg c,show uP none (eP key up l)=eP key up l from rfl,d]
   constructor
   .intro a d b
    rcases bI.1 b with rfl|b
    .exact c
    .exact a d b
   .intro a d b;exact a d (fE _ b)
theorem Cx:∀{l:List En}{e:En},eP key up l=some e->e∈l/\fits key up e/\∀x∈l,fits key up x->x.seq<=e.seq
 | [],e,h=>by cases h
 |a::l,e,h=>by
  rw[eP]at h;by_cases ha:fits key up a
  .rw[if_pos ha]at h
   cases c:eP key up l with
   |none=>
    rw[c]at h;cases h;have d:=EW.1 c;refine⟨ej ..,ha,λx a b=>?_⟩;rcases bI.1 a with rfl|a
    .exact aw _
    .exact absurd b (d x a)
   |some d=>
    obtain⟨e,f,d⟩:=Cx c;rw[c]at h;simp only[uP]at h
    split at h
    .cases h
     refine⟨fE _ e,f,λx a b=>?_⟩;rcases bI.1 a with rfl|a
     .omega
     .exact d x a b
    .cases h
     refine⟨ej ..,ha,λx a b=>?_⟩;rcases bI.1 a with rfl|a
     .exact aw _
     .have:=d x a b;omega
  .rw[if_neg ha]at h
   obtain⟨e,f,d⟩:=Cx (l:=l) h;refine⟨fE _ e,f,λx a b=>?_⟩;rcases bI.1 a with rfl|a
   .exact absurd b ha
   .exact d x a b
def qQ(l:List En):Prop:=∀a∈l,∀b∈l,qg a b->a=b
theorem cx.fun{l:List En}(h:cx l):qQ l:=by
 induction l with
 |nil=>intro a ha;cases ha
 |cons c l g=>
  have c:=uN.1 h;intro a ha b e hs;rcases bI.1 ha with rfl|f
  .rcases bI.1 e with rfl|d
   .rfl
   .have:=c.1 b d;rw[yB hs]at this;exact absurd this (Ac _)
  .rcases bI.1 e with rfl|d
   .have:=c.1 a f;rw[aiJ hs]at this;exact absurd this (Ac _)
   .exact g c.2 a f b d hs
theorem Jk{l:List En}(h:qQ l){e:En}(a:e∈l)(b:fits key up e)(i:∀x∈l,fits key up x->x.seq<=e.seq):eP key up l=some e:=by
 cases c:eP key up l with
 |none=>exact absurd b (EW.1 c e a)
 |some d=>obtain⟨f,g,j⟩:=Cx c;have c:=i d f g;have c:=j e a b;rw[h d f e a ⟨g.1.trans b.1.symm,by omega⟩]
abbrev spot(key:ByteArray)(up:Nat):En:=⟨key,up,false,[]⟩
theorem aAK{e:En}(a:¬fY e (spot key up))(b:e.key=key):e.seq<=up:=by
 have:¬up<e.seq:=λc=>a (.inr ⟨b,c⟩)
 omega
theorem aiT{l:List En}(g:cx l):eP key up l=match eI (spot key up) l with| []=>none|e::_=>if e.key=key then some e else none:=by
 have c:=uO (spot key up) l;have j:=MR (x:=spot key up) (l:=l);have h:=ES (x:=spot key up) g;have i:∀e∈eI (spot key up) l,e∈l:=λe a=>by rw[<-c];exact nz _ a
 have d:cx (eI (spot key up) l):=(Ss g).2.1;have f:∀x∈l,fits key up x->x∈eI (spot key up) l:=λx a b=>by
  rw[<-c]at a;rcases dn.1 a with a|a
  .exfalso
   rcases j x a with c|⟨_,c⟩
   .rw[b.1]at c;exact List.lt_irrefl _ c
   .have j:up<x.seq:=c;have:=b.2;omega
  .exact a
 cases c:eI (spot key up) l with
 |nil=>rw[c]at f;exact EW.2 λx a b=>by cases f x a b
 |cons e r=>
  rw[c]at f h d i;have j:=uN.1 d;simp only;by_cases d:e.key=key
  .rw[if_pos d]
   refine Jk g.fun (i e (ej ..)) ⟨d,aAK (h e (ej ..)) d⟩ (λx a b=>?_)
   rcases bI.1 (f x a b)with rfl|h2
   .exact aw _
   .rcases j.1 x h2 with c|⟨_,c⟩
    .rw[d,b.1]at c;exact absurd c (List.lt_irrefl _)
    .omega
  .rw[if_neg d]
   refine EW.2 λx a b=>?_
   rcases bI.1 (f x a b)with rfl|h2
   .exact d b.1
   .have a:¬fY e (spot key up):=h e (ej ..)
    have f:¬e.key.data.toList<key.data.toList:=λe=>a (.inl e)
    rcases j.1 x h2 with c|⟨c,_⟩
    .rw[b.1]at c;exact f c
    .exact d (c.trans b.1)
end
end Go.Proofs.YtoolkdapflaeeaaGreatDoor
namespace Go.Proofs.YtoolkdapflaeeaaGreatDoor
open Go.RowKit Go.Gl Go.aF Mn
section
def Iw(N:Nat->Prop)(w:World)(v:Value)(l:List Int):Prop:=
 ∃a c,v=.slice a l.length c/\l.length<=1000000000/\(l=[]\/∃b o,a=some ⟨b,o,none⟩/\N b/\b<w.heap.size/\∀(j:Nat)(k:Int),l[j]?=some k->w.cell? ⟨b,o+j,none⟩=some (.int .i64 k))
theorem Iw.kp{N:Nat->Prop}{w w':World}{l:List Int}(a:Iw N w v l)(k:Kp N w w'):Iw N w' v l:=by
 obtain⟨d,c,rfl,e,a⟩:=a;refine⟨d,c,rfl,e,?_⟩;rcases a with a|⟨b,o,rfl,hb,hlt,hc⟩
 .exact .inl a
 .exact .inr ⟨b,o,rfl,hb,bF hlt k.size,λj a b=>by rw[k.cell hb hlt];exact hc j a b⟩
theorem Iw.mono{N M:Nat->Prop}{w:World}{l:List Int}(a:Iw N w v l)(d:∀b,N b->M b):Iw M w v l:=by
 obtain⟨e,c,rfl,f,a⟩:=a;refine⟨e,c,rfl,f,?_⟩;rcases a with a|⟨b,o,rfl,hb,a⟩
 .exact .inl a
 .exact .inr ⟨b,o,rfl,d b hb,a⟩
abbrev SC(ha aX a:Nat)(dv:Value)(b:Nat):Array Value:=#[.string ByteArray.empty,.int .u64 0,.bool false,.slice none 0 0,.slice (some ⟨ha,0,none⟩) 12 12,.func (.func 93) #[] #[],.int .i64 aX,.int .i64 a,dv,.int .i64 b]
abbrev MZ(n:Nd):Array Value:=#[.string n.x.e.key,.int .u64 n.x.e.seq,.bool n.x.e.gone,n.x.v,.slice (some ⟨n.arr,0,none⟩) n.h n.h]
abbrev bP(tb ha:Nat):Nd:=⟨tb,ha,12,default⟩
def iH(e:En):Nat:=e.key.size+e.val.length+16
def costs(l:List En):Nat:=(l.map iH).sum
def FM(tb ha:Nat)(ns:List Nd):Nat->Prop:=λb=>b=tb\/b=ha\/∃n∈ns,b=n.blk\/b=n.arr
structure kU(N:Nat->Prop)(w:World)(tb ha:Nat)(ns:List Nd):Prop where
 node:∀n∈ns,w.heap[n.blk]?=some (.cells (MZ n) 176 (0,0))
 ju:fD w (λr k=>cz k r) (bP tb ha::ns)
 hs:∀n∈ns,1<=n.h/\n.h<=12
 Jl:(ns.map Nd.blk).Nodup
 EX:((bP tb ha::ns).map Nd.arr).Nodup
 vals:∀n∈ns,lM N w n.x/\n.x.e.seq<18446744073709551616
 ord:cx (ns.map (λn=>n.x.e))
structure ed(N:Nat->Prop)(w:World)(tb ha:Nat)(ns:List Nd)(aX:Nat)(dv:Value)(ds:List Int):Prop where
 self:w.heap[tb]?=some (.cells (SC ha aX ns.length dv (costs (ns.map (λn=>n.x.e)))) 181 (0,0))
 skip:kU N w tb ha ns
 aX:aX<=12
 draws:Iw N w dv ds
section
variable{N M:Nat→Prop}{w w':World}{tb ha:Nat}{ns:List Nd}{aX:Nat}{dv:Value}{ds:List Int}
theorem kU.keep(c:kU N w tb ha ns)(d:∀b,(b=ha\/∃n∈ns,b=n.blk\/b=n.arr)->w'.heap[b]?=w.heap[b]?)(b:Kp N w w'):kU N w' tb ha ns:=
 ⟨λn a=>(d _ (.inr ⟨n,a,.inl rfl⟩)).trans (c.node n a),c.ju.keep (λn a=>by
  rcases bI.1 a with rfl|a
  .exact d _ (.inl rfl)
  .exact d _ (.inr ⟨n,a,.inr rfl⟩)),c.hs,c.Jl,c.EX,λn a=>⟨(c.vals n a).1.kp b,(c.vals n a).2⟩,c.ord⟩
theorem ed.keep(a:ed N w tb ha ns aX dv ds)(c:∀b,FM tb ha ns b->w'.heap[b]?=w.heap[b]?)(d:Kp N w w'):ed N w' tb ha ns aX dv ds:=
 ⟨(c _ (.inl rfl)).trans a.self,a.skip.keep (λb e=>c b (.inr e)) d,a.aX,a.draws.kp d⟩
theorem kU.lt(a:kU N w tb ha ns)(c:b=ha\/∃n∈ns,b=n.blk\/b=n.arr):b<w.heap.size:=by
 rcases c with rfl|⟨n,hn,rfl|rfl⟩
 .exact af a.ju.1
 .exact af (a.node n hn)
 .obtain⟨b,r,b⟩:=ry hn;exact af (a.ju.2.at b)
theorem ed.lt(c:ed N w tb ha ns aX dv ds)(a:FM tb ha ns b):b<w.heap.size:=by
 rcases a with rfl|a
 .exact af c.self
 .exact c.skip.lt a
theorem kU.grow(a:kU N w tb ha ns)(c:Grow w w'):kU N w' tb ha ns:=a.keep (λb d=>c.block b (a.lt d)) (.bO c)
theorem ed.grow(a:ed N w tb ha ns aX dv ds)(c:Grow w w'):ed N w' tb ha ns aX dv ds:=a.keep (λb d=>c.block b (a.lt d)) (.bO c)
theorem kU.mono(a:kU N w tb ha ns)(c:∀b,N b->M b):kU M w tb ha ns:=⟨a.node,a.ju,a.hs,a.Jl,a.EX,λn b=>⟨(a.vals n b).1.mono c,(a.vals n b).2⟩,a.ord⟩
theorem ed.mono(a:ed N w tb ha ns aX dv ds)(c:∀b,N b->M b):ed M w tb ha ns aX dv ds:=⟨a.self,a.skip.mono c,a.aX,a.draws.mono c⟩
def cj(x:En)(ns:List Nd):List Nd:=ns.takeWhile (λn=>decide (eB n.x.e x<0))
def gH(x:En)(ns:List Nd):List Nd:=ns.dropWhile (λn=>decide (eB n.x.e x<0))
theorem kr(x:En)(ns:List Nd):cj x ns++gH x ns=ns:=List.takeWhile_append_dropWhile ..
theorem YI(x:En):∀ns:List Nd,(cj x ns).map (λn=>n.x.e)=gM x (ns.map (λn=>n.x.e))
 | []=>rfl
 |n::ns=>by
  unfold cj gM;rw[cr,List.takeWhile_cons,List.takeWhile_cons];split
  .rw[cr];exact congrArg _ (YI x ns)
  .rfl
theorem EY(x:En):∀ns:List Nd,(gH x ns).map (λn=>n.x.e)=eI x (ns.map (λn=>n.x.e))
 | []=>rfl
 |n::ns=>by
  unfold gH eI;rw[cr,List.dropWhile_cons,List.dropWhile_cons];split
  .exact EY x ns
  .rw[cr]
theorem aAL{x:En}{ns:List Nd}:∀n∈cj x ns,eB n.x.e x<0:=λn a=>by have:=List.all_takeWhile (p:=λn:Nd=>decide (eB n.x.e x<0)) (l:=ns);have b:=List.all_eq_true.1 this n a;rwa[decide_eq_true_eq]at b
theorem aAM{x:En}{ns:List Nd}(a:cx (ns.map (λn=>n.x.e))):∀n∈gH x ns,¬eB n.x.e x<0:=λn b=>by have:=ES (x:=x) a n.x.e (by rw[<-EY];exact aV.2 ⟨n,b,rfl⟩);rwa[Ab]
def ij:Option Nd->Value
 |none=>.pointer none
 |some n=>au n.blk
theorem YJ(a:k<12)(tb ha:Nat):∀(lo:List Nd),∃m,cA k (bP tb ha::lo)=some m:=λlo=>by
 unfold cA;cases cA k lo with
 |some m=>exact⟨m,rfl⟩
 |none=>exact⟨bP tb ha,by simp[a]⟩
def Jm(x:En)(tb ha:Nat)(ns:List Nd):Array Value:=((List.range 12).map (λk=>ij (cA k (bP tb ha::cj x ns)))).toArray
end
end
section
theorem aiU{k:Nat}{n n':Nd}(b:n'.blk=n.blk)(c:n'.h=n.h):∀(a r:List Nd),cz k (a++n'::r)=cz k (a++n::r)
 | [],r=>by rw[iK,iK,cz,cz,b,c]
 |m::a,r=>by rw[gP,gP,cz,cz,aiU b c a r]
theorem aiV{w:World}{n n':Nd}(c:n'.blk=n.blk)(a:n'.h=n.h)(ha:n'.arr=n.arr):∀{l r:List Nd},fD w (λr k=>cz k r) (l++n::r)->fD w (λr k=>cz k r) (l++n'::r)
 | [],r,h=>⟨by have b:=h.1;rw[ha,a];exact b,h.2⟩
 |m::l,r,h=>⟨by
  have b:=h.1;have d:(List.range m.h).map (λk=>cz k (l++n'::r))=(List.range m.h).map (λk=>cz k (l++n::r)):=jf λk _=>aiU c a l r
  show w.heap[m.arr]?=some (.cells ((List.range m.h).map (λk=>cz k (l++n'::r))).toArray 287 (0,0));rw[d];exact b,aiV c a ha h.2⟩
theorem aAN{a b:List En}{x y:En}(f:cx (a++x::b))(d:qg x y):cx (a++y::b):=by
 obtain⟨a,g,e⟩:=List.pairwise_append.1 f;have b:=uN.1 g;refine List.pairwise_append.2 ⟨a,uN.2 ⟨λc a=>(yB d).1 (b.1 c a),b.2⟩,λc a f b=>?_⟩;rcases bI.1 b with rfl|b
 .exact(aiJ d).1 (e c a x (ej ..))
 .exact e c a f (fE _ b)
variable{N:Nat→Prop}{w w':World}{tb ha:Nat}{lo hi r:List Nd}{n n' nw:Nd}
theorem kU.rep(c:kU N w tb ha (lo++n::r))(g:n'.blk=n.blk)(j:n'.h=n.h)(m:n'.arr=n.arr)(t:w'.heap[n.blk]?=some (.cells (MZ n') 176 (0,0)))(h:∀b,b≠n.blk->b<w.heap.size->w'.heap[b]?=w.heap[b]?)(o:Kp N w w')(u:lM N w' n'.x/\n'.x.e.seq<18446744073709551616)(v:qg n.x.e n'.x.e):kU N w' tb ha (lo++n'::r):=by
 have p:n∈lo++n::r:=nz _ (ej ..);have q:∀b∈bP tb ha::(lo++n::r),b.arr≠n.blk:=λb d e=>by obtain⟨s,w,i⟩:=ry d;have a:=c.ju.at i;rw[e,c.node n p]at a;have f:=(cp (bh a)).2.1;exact absurd f (by decide)
 have x:fD w' (λr k=>cz k r) (bP tb ha::(lo++n::r)):=c.ju.keep (λb d=>h _ (q b d) (by obtain⟨s,w,i⟩:=ry d;exact af (c.ju.at i)))
 have i:=c.Jl;have k:=c.EX;have q:=c.ord;rw[dS,cr]at i q;have s:=List.nodup_append.1 i;have w:=List.nodup_cons.1 s.2.1;refine⟨?_,?_,?_,?_,?_,?_,?_⟩
 .intro b d
  rcases dn.1 d with a|a
  .rw[h b.blk (λe=>s.2.2 _ (aV.2 ⟨b,a,rfl⟩) _ (ej ..) e) (af (c.node b (jg _ a)))];exact c.node b (jg _ a)
  .rcases bI.1 a with rfl|a
   .rw[g];exact t
   .have f:b∈lo++n::r:=nz _ (fE _ a);rw[h b.blk (λe=>w.1 (by rw[<-e];exact aV.2 ⟨b,a,rfl⟩)) (af (c.node b f))];exact c.node b f
 .exact aiV (l:=bP tb ha::lo) g j m x
 .intro b d
  rcases dn.1 d with a|a
  .exact c.hs b (jg _ a)
  .rcases bI.1 a with rfl|a
   .rw[j];exact c.hs n p
   .exact c.hs b (nz _ (fE _ a))
 .rw[dS,cr,g];exact i
 .simp only[dS,cr,m]at k ⊢;exact k
 .intro b d
  rcases dn.1 d with a|a
  .have:=c.vals b (jg _ a);exact⟨this.1.kp o,this.2⟩
  .rcases bI.1 a with rfl|a
   .exact u
   .have:=c.vals b (nz _ (fE _ a));exact⟨this.1.kp o,this.2⟩
 .rw[dS,cr];exact aAN q v
theorem kU.ins(h:kU N w tb ha (lo++hi))(l:w'.heap[nw.blk]?=some (.cells (MZ nw) 176 (0,0)))(o:fD w' (λr k=>cz k (r++nw::hi)) (bP tb ha::lo))(p:w'.heap[nw.arr]?=some (.cells ((List.range nw.h).map (λk=>cz k hi)).toArray 287 (0,0)))(q:∀m∈lo++hi,w'.heap[m.blk]?=w.heap[m.blk]?)(s:∀m∈hi,w'.heap[m.arr]?=w.heap[m.arr]?)(a:w.heap.size<=nw.blk)(a:w.heap.size<=nw.arr)(t:Kp N w w')(b:lM N w' nw.x/\nw.x.e.seq<18446744073709551616)(hh:1<=nw.h/\nw.h<=12)(u:cx ((lo++nw::hi).map (λn=>n.x.e))):kU N w' tb ha (lo++nw::hi):=by
 have d:∀{m},m∈lo++nw::hi->m=nw\/m∈lo++hi:=λ{m} hm=>by
  rcases dn.1 hm with a|a
  .exact .inr (jg _ a)
  .rcases bI.1 a with a|a
   .exact .inl a
   .exact .inr (nz _ a)
 have n:∀m∈lo++hi,m.blk<w.heap.size:=λm hm=>af (h.node m hm)
 have v:∀m∈bP tb ha::(lo++hi),m.arr<w.heap.size:=λm hm=>by obtain⟨c,c,i⟩:=ry hm;exact af (h.ju.at i)
 have j:∀(f:Nd->Nat)(c:List Nd),((c++hi).map f).Nodup->(∀m∈c++hi,f m≠f nw)->((c++nw::hi).map f).Nodup:=λf c hn c=>by
  rw[dS]at hn;rw[dS,cr];obtain⟨a,f,w⟩:=List.nodup_append.1 hn;refine List.nodup_append.2 ⟨a,List.nodup_cons.2 ⟨λhm=>?_,f⟩,λx b f a=>?_⟩
  .obtain⟨m,hm,e⟩:=aV.1 hm;exact c m (nz _ hm) e
  .rcases bI.1 a with rfl|a
   .obtain⟨m,hm,e⟩:=aV.1 b;intro i;exact c m (jg _ hm) (e.trans i)
   .exact w x b f a
 refine⟨?_,?_,?_,?_,?_,?_,u⟩
 .intro m hm
  rcases d hm with rfl|hm
  .exact l
  .rw[q m hm];exact h.node m hm
 .have a:fD w' (λr k=>cz k r) hi:=((fD.split (lo:=bP tb ha::lo) h.ju).2).keep s;have:=fD.join (lo:=bP tb ha::lo) (hi:=nw::hi) (g:=λr k=>cz k r) o ⟨p,a⟩;exact this
 .intro m hm
  rcases d hm with rfl|hm
  .exact hh
  .exact h.hs m hm
 .exact j Nd.blk lo h.Jl (λm hm e=>by have:=n m hm;omega)
 .have a:((bP tb ha::lo++hi).map Nd.arr).Nodup:=h.EX;exact j Nd.arr (bP tb ha::lo) a (λm hm e=>by have:=v m hm;omega)
 .intro m hm
  rcases d hm with rfl|hm
  .exact b
  .have:=h.vals m hm;exact⟨this.1.kp t,this.2⟩
end
end Go.Proofs.YtoolkdapflaeeaaGreatDoor
namespace Go.Proofs.YtoolkdapflaeeaaGreatDoor
open Go.RowKit Go.Gl Mn
theorem aAQ(x:Int)(w:World):Calls Tryz.prog 197 #[.int .u64 x] w λe w'=>e=.returned (.bool false)/\w'=w:=by
 have a:(x != x)=false:=by simp
 go_enter Tryz.func197,Tryz.ntmps197;go_wp2;go_ret;exact⟨rfl,rfl⟩
theorem aAR(x y:Int)(w:World):Calls Tryz.prog 144 #[.int .u64 x,.int .u64 y] w λe w'=>e=.returned (.int .i64 (jG x y))/\w'=w:=by
 go_enter Tryz.func144,Tryz.ntmps144
 go_wp2_with (go_at_call 197;(with_reducible refine(aAQ _ _).mono ?_);rintro e w' ⟨rfl,rfl⟩)
 .rename_i a
  go_ret;exact⟨by rw[jG,if_pos a];rfl,rfl⟩
 .rename_i b a
  go_ret;exact⟨by rw[jG,if_neg (by omega),if_pos a];rfl,rfl⟩
 .rename_i b a
  go_ret;exact⟨by rw[jG,if_neg (by omega),if_neg (by omega)];rfl,rfl⟩
theorem aiW(w:World)(x y:Int):(Instr.buildSlice 24 2 #[(0,.int .i64 x),(1,.int .i64 y)]).run Tryz.prog w=.ok (.slice (some ⟨w.heap.size,0,none⟩) 2 2) (w.alloc (.cells #[.int .i64 x,.int .i64 y] 3)):=by
 simp[Instr.buildSlice,run_underlying Tryz.underlying24,Tryz.sizeOf3,Tryz.zeroValue3,Instr.fill,newRow,Value.cells];congr 2;apply Array.ext
 .simp
 .intro i a b
  simp at a
  match i,a with
  |0,_=>simp
  |1,_=>simp
theorem cX(a:w.heap[b]?=some (.cells #[x0,x1,x2,x3] t (0,0))):
  w.cell? ⟨b,0,none⟩=some x0/\w.cell? ⟨b,1,none⟩=some x1/\w.cell? ⟨b,2,none⟩=some x2/\w.cell? ⟨b,3,none⟩=some x3:=by
 simp[World.cell?,a]
theorem aiX(a:ByteArray)(xs:Nat)(d:Bool)(g:Value)(b:ByteArray)(c:Nat)(h:Bool)(i:Value)(W:World):∀f,f=93\/f=133->Calls Tryz.prog f #[.agg #[.string a,.int .u64 xs,.bool d,g],.agg #[.string b,.int .u64 c,.bool h,i]] W λe w'=>e=.returned (.int .i64 (dA (kJ a b) (jG c xs)))/\Grow W w':=by
 have n:=aga a b;have o:=aAR c xs;generalize kJ a b=j at*;generalize jG c xs=k at*;have p:=Xa j k;generalize dA j k=l at*;have l:((W.alloc (.cells #[.string a,.int .u64 xs,.bool d,g] 60)).alloc (.cells #[.string b,.int .u64 c,.bool h,i] 60)).heap[W.heap.size]?=some (.cells #[.string a,.int .u64 xs,.bool d,g] 60 (0,0)):=(heap_alloc_old _ _ (by simp)).trans (ax _ _);have m:((W.alloc (.cells #[.string a,.int .u64 xs,.bool d,g] 60)).alloc (.cells #[.string b,.int .u64 c,.bool h,i] 60)).heap[W.heap.size+1]?=some (.cells #[.string b,.int .u64 c,.bool h,i] 60 (0,0)):=by have:=ax (W.alloc (.cells #[.string a,.int .u64 xs,.bool d,g] 60)) (.cells #[.string b,.int .u64 c,.bool h,i] 60);simpa using this
 obtain⟨q,q,_,_⟩:=cX l;obtain⟨q,q,_,_⟩:=cX m;have q:=af l;have q:=af m;have q:Grow W ((W.alloc (.cells #[.string a,.int .u64 xs,.bool d,g] 60)).alloc (.cells #[.string b,.int .u64 c,.bool h,i] 60)):=(ar _ _).trans (ar _ _);have r:=ae n;have s:=ae o;have t:=ae p;have u:=ae q;clear l m n o p q;rintro f (rfl|rfl);go_enter Tryz.func93,Tryz.ntmps93;rotate_left;go_enter Tryz.func133,Tryz.ntmps133
 all_goals
  go_upto_region 1 with fail
  generalize (W.alloc (.cells #[.string a,.int .u64 xs,.bool d,g] 60)).alloc (.cells #[.string b,.int .u64 c,.bool h,i] 60)=a at*;have b:=Grow.cells (w:=a);refine oK (λb=>Below a.heap.size a b)
   [(0,false),(1,false),(2,false),(3,false),(5,false),(6,false),(7,false),(8,false),(4,true),(9,true),(10,true),(11,true),(12,false)] (by kernel_rfl) (by kernel_rfl) (bB λ_ _ _ _ _ b=>b) (by((repeat (first|exact bW _ _|assumption|refine cC ?_|refine cD ?_|refine cw ?_ ?_ _|refine cB ?_ ?_ _))<;>try (first|omega|(simp<;>omega)))) ?_
  simp only[cm,nth]
  repeat ((first|(apply az;rfl;rintro W c;go_simp;with_reducible rfl)|(apply aA;rfl));simp only[ah,List.set])
  refine bw (by rfl) (by go_simp) (r.out _) ?_;rintro e b ⟨rfl,rfl⟩;refine⟨_,rfl,by((repeat (first|exact bW _ _|assumption|refine cC ?_|refine cD ?_|refine cw ?_ ?_ _|refine cB ?_ ?_ _))<;>try (first|omega|(simp<;>omega))),?_⟩
  try simp only[ah,List.set,aC]
  refine bw (by rfl) (by go_simp) (s.out _) ?_;rintro e b ⟨rfl,rfl⟩;refine⟨_,rfl,by((repeat (first|exact bW _ _|assumption|refine cC ?_|refine cD ?_|refine cw ?_ ?_ _|refine cB ?_ ?_ _))<;>try (first|omega|(simp<;>omega))),?_⟩
  try simp only[ah,List.set,aC]
  refine ud (by rfl) (v:=.slice (some ⟨a.drew.heap.size,0,none⟩) 2 2) (w':=World.alloc a.drew (.cells #[.int .i64 j,.int .i64 k] 3)) ?_ (by((repeat (first|exact bW _ _|assumption|refine cC ?_|refine cD ?_|refine cw ?_ ?_ _|refine cB ?_ ?_ _))<;>try (first|omega|(simp<;>omega)))) ?_
  .unfold execOp;simp only[Act.eval];simp[aiW]
  try simp only[ah,List.set,aC]
  refine bw (by rfl) (by go_simp) (t.out a.drew.heap.size (World.alloc a.drew (.cells #[.int .i64 j,.int .i64 k] 3)) (by unfold World.cell?;rw[ax];rfl) (by unfold World.cell?;rw[ax];rfl)) ?_;rintro e b ⟨rfl,rfl⟩;refine⟨_,rfl,by((repeat (first|exact bW _ _|assumption|refine cC ?_|refine cD ?_|refine cw ?_ ?_ _|refine cB ?_ ?_ _))<;>try (first|omega|(simp<;>omega))),?_⟩
  try simp only[ah,List.set,aC]
  repeat ((first|(apply az;rfl;rintro W c;go_simp;with_reducible rfl)|(apply aA;rfl));simp only[ah,List.set])
  refine bg ?_
  go_wp2_with fail
  go_ret;exact⟨rfl,u.out.trans ((ay _).trans (ar _ _))⟩
theorem aiY(a:ByteArray)(xs:Nat)(d:Bool)(f:Value)(b:ByteArray)(c:Nat)(g:Bool)(h:Value)(W:World):Calls Tryz.prog 93 #[.agg #[.string a,.int .u64 xs,.bool d,f],.agg #[.string b,.int .u64 c,.bool g,h]] W λe w'=>e=.returned (.int .i64 (dA (kJ a b) (jG c xs)))/\Grow W w':=aiX a xs d f b c g h W _ (.inl rfl)
theorem aiZ(a:ByteArray)(xs:Nat)(d:Bool)(f:Value)(b:ByteArray)(c:Nat)(g:Bool)(h:Value)(W:World):Calls Tryz.prog 133 #[.agg #[.string a,.int .u64 xs,.bool d,f],.agg #[.string b,.int .u64 c,.bool g,h]] W λe w'=>e=.returned (.int .i64 (dA (kJ a b) (jG c xs)))/\Grow W w':=aiX a xs d f b c g h W _ (.inr rfl)
end Go.Proofs.YtoolkdapflaeeaaGreatDoor
namespace Go.Proofs.YtoolkdapflaeeaaGreatDoor
open Go.RowKit Go.Gl Go.aF Mn
def rY(L:List Nd)(j:Nat):Array Value:=((List.range 12).map (λi=>if j<=i then ij (cA i L)else .pointer none)).toArray
theorem aAS(L:List Nd):rY L 12=#[.pointer none,.pointer none,.pointer none,.pointer none,.pointer none,.pointer none,.pointer none,.pointer none,.pointer none,.pointer none,.pointer none,.pointer none]:=rfl
theorem aAT(L:List Nd)(a:j<12):(rY L (j+1)).setIfInBounds j (ij (cA j L))=rY L j:=by
 apply Array.ext_getElem?;intro i;rw[Array.getElem?_setIfInBounds];by_cases b:j=i
 .subst b;rw[if_pos rfl,if_pos (by simpa[rY]using a)];simp[rY,a]
 .rw[if_neg b]
  by_cases hi:i<12
  .simp only[rY,List.getElem?_toArray,gQ,List.getElem?_range hi,Option.map_some]
   by_cases a:j<=i
   .rw[if_pos a,if_pos (by omega)]
   .rw[if_neg a,if_neg (by omega)]
  .simp[rY,hi]
theorem aAU(x:En)(tb ha:Nat)(ns:List Nd):rY (bP tb ha::cj x ns) 0=Jm x tb ha ns:=by unfold rY Jm;simp
theorem aAV(x:En)(ns:List Nd)(tb ha:Nat):∃b:Nat->Nat,∀i,i<12->ij (cA i (bP tb ha::cj x ns))=au (b i):=by refine⟨λi=>match cA i (bP tb ha::cj x ns)with|some m=>m.blk|none=>0,λi hi=>?_⟩;obtain⟨m,hm⟩:=YJ hi tb ha (cj x ns);simp only[hm];rfl
theorem aja{L:List Nd}{b:Nat->Nat}(a:∀i,i<12->ij (cA i L)=au (b i)):rY L 0=#[au (b 0),au (b 1),au (b 2),au (b 3),au (b 4),au (b 5),au (b 6),au (b 7),au (b 8),au (b 9),au (b 10),au (b 11)]:=by have:rY L 0=#[ij (cA 0 L),ij (cA 1 L),ij (cA 2 L),ij (cA 3 L),ij (cA 4 L),ij (cA 5 L),ij (cA 6 L),ij (cA 7 L),ij (cA 8 L),ij (cA 9 L),ij (cA 10 L),ij (cA 11 L)]:=rfl;rw[this];simp only[a 0 (by decide),a 1 (by decide),a 2 (by decide),a 3 (by decide),a 4 (by decide),a 5 (by decide),a 6 (by decide),a 7 (by decide),a 8 (by decide),a 9 (by decide),a 10 (by decide),a 11 (by decide)]
theorem eY(d:w.heap[b]?=some (.cells arr t f))(c:arr[i]?=some v):w.setCell ⟨b,i,none⟩ v=w:=by
 have e:arr.setIfInBounds i v=arr:=by
  apply Array.ext_getElem?;intro k;rw[Array.getElem?_setIfInBounds];by_cases a:i=k
  .subst a;rw[if_pos rfl,if_pos (af c),c]
  .rw[if_neg a]
 have g:∀c:Obj->Obj,c (.cells arr t f)=.cells arr t f->w.heap.modify b c=w.heap:=λc c=>by
  apply Array.ext_getElem?;intro k;rw[Array.getElem?_modify];by_cases a:b=k
  .subst a;rw[if_pos rfl,d,Option.map_some,c]
  .rw[if_neg a]
 unfold World.setCell;simp only;rw[g _ (by simp[e])]
structure Ah(w:World)(L:List Nd)(x:Ev)(j:Nat)(W:World):Prop where
 grow:Below w.heap.size w W
 box:W.heap[w.heap.size]?=some (.cells (cd x) 60 (0,0))
 out:W.heap[w.heap.size+1]?=some (.cells (rY L j) 288 (0,0))
theorem Ah.step{L:List Nd}{x:Ev}(a:Ah w L x j W)(b:Grow W W'):Ah w L x j W':=⟨Below.trans a.grow (b.mono a.grow.size),b.heap a.box,b.heap a.out⟩
theorem Ah.store{L:List Nd}{x:Ev}(a:Ah w L x (j+1) W)(b:j<12):Ah w L x j (W.setCell ⟨w.heap.size+1,j,none⟩ (ij (cA j L))):=by
 refine⟨a.grow.setCell (p:=⟨w.heap.size+1,j,none⟩) (by simp) _,?_,?_⟩
 .rw[aN _ _ _ _ (by simp)];exact a.box
 .rw[Go.Gl.aK a.out,aAT L b]
theorem ed.tail{ns:List Nd}(b:ed N w tb ha ns aX dv ds){m:Nd}(a:m∈bP tb ha::ns):w.cell? ⟨m.blk,4,none⟩=some (.slice (some ⟨m.arr,0,none⟩) m.h m.h)/\m.blk<w.heap.size:=by
 rcases bI.1 a with rfl|a
 .have:=b.self;exact⟨by simp[World.cell?,this],af this⟩
 .have:=b.skip.node m a;exact⟨by simp[World.cell?,this],af this⟩
theorem ed.link{ns:List Nd}(a:ed N w tb ha ns aX dv ds){pre r:List Nd}{m:Nd}(e:bP tb ha::ns=pre++m::r)(b:k<m.h):w.cell? ⟨m.arr,k,none⟩=some (cz k r)/\m.arr<w.heap.size:=
 ⟨SA (a.skip.ju.at e) b,af (a.skip.ju.at e)⟩
theorem ed.aB{ns:List Nd}(a:ed N w tb ha ns aX dv ds){n:Nd}(b:n∈ns):
  w.cell? ⟨n.blk,0,none⟩=some (.string n.x.e.key)/\w.cell? ⟨n.blk,1,none⟩=some (.int .u64 n.x.e.seq)/\w.cell? ⟨n.blk,2,none⟩=some (.bool n.x.e.gone)/\w.cell? ⟨n.blk,3,none⟩=some n.x.v:=by
 have:=a.skip.node n b;simp[World.cell?,this]
theorem aAW{x:En}{ns pre r:List Nd}{m:Nd}(tb ha k:Nat)(g:cx (ns.map (λn=>n.x.e)))(e:bP tb ha::cj x ns=pre++m::r)(h:k<m.h):
  (cz k (r++gH x ns)=.pointer none/\cA k (bP tb ha::cj x ns)=some m)\/
  ∃n∈ns,cz k (r++gH x ns)=au n.blk/\((¬eB n.x.e x<0/\cA k (bP tb ha::cj x ns)=some m)\/(eB n.x.e x<0/\∃b c,r=b++n::c/\k<n.h)):=by
 have i:∀n∈gH x ns,n∈ns:=λn a=>by rw[<-kr x ns];exact nz _ a
 rcases aiP k r with d|⟨b,n,c,h1,h2,h3⟩
 .have f:cA k (bP tb ha::cj x ns)=some m:=by rw[e];exact YF h d pre
  rw[Sy _ d];rcases aiQ k (gH x ns)with h4|⟨p1,n,p2,h4,h5⟩
  .exact .inl ⟨h4,f⟩
  .have a:n∈gH x ns:=by rw[h4];simp
   exact .inr ⟨n,i n a,h5,.inl ⟨aAM g n a,f⟩⟩
 .have a:n∈bP tb ha::cj x ns:=by rw[e,h1];simp
  have a:n∈cj x ns:=by
   have d:cj x ns=(pre++m::r).tail:=by rw[<-e];rfl
   rw[d,h1];cases pre with
   |nil=>simp
   |cons d pre=>simp
  exact .inr ⟨n,by rw[<-kr x ns];exact jg _ a,h3 _,.inr ⟨aAL n a,b,c,h1,h2⟩⟩
theorem ajb{ns:List Nd}(h:ed N w tb ha ns aX dv ds)(x:Ev){xa:Option Addr}{xl xc:Nat}(cI:x.v=.slice xa xl xc):
  Calls Tryz.prog 182 #[au tb,.agg (cd x)] w λe w'=>e=.returned (.agg (Jm x.e tb ha ns))/\Grow w w':=by
 obtain⟨⟨xk,xs,xg,xd⟩,xv⟩:=x;simp only at cI;subst cI;obtain⟨w2,hw2⟩:∃w2,(w.alloc (.cells (cd ⟨⟨xk,xs,xg,xd⟩,.slice xa xl xc⟩) 60)).alloc (.cells #[.pointer none,.pointer none,.pointer none,.pointer none,.pointer none,.pointer none,.pointer none,.pointer none,.pointer none,.pointer none,.pointer none,.pointer none] 288)=w2:=⟨_,rfl⟩
 have hA:Ah w (bP tb ha::cj ⟨xk,xs,xg,xd⟩ ns) ⟨⟨xk,xs,xg,xd⟩,.slice xa xl xc⟩ 12 w2:=by rw[<-hw2];exact⟨(ar _ _).trans (ar _ _),(heap_alloc_old _ _ (by simp)).trans (ax _ _),by rw[aAS];have:=ax (w.alloc (.cells (cd ⟨⟨xk,xs,xg,xd⟩,.slice xa xl xc⟩) 60)) (.cells #[.pointer none,.pointer none,.pointer none,.pointer none,.pointer none,.pointer none,.pointer none,.pointer none,.pointer none,.pointer none,.pointer none,.pointer none] 288);simpa using this⟩
 generalize hX:(⟨xk,xs,xg,xd⟩:En)=X at*;generalize hL:bP tb ha::cj X ns=L at*;have H:=ae h;have HA:=ae hA;have HL:=ae hL;clear h hA hL;go_enter Tryz.func182,Tryz.ntmps182
 go_wp2_with fail
 clear hw2
 go_loopw [5,6] (λav kv wr=>∃(j:Nat)(pre:List Nd)(m:Nd)(r:List Nd),kv=.int .i64 ((j:Int)-1)/\j<=12/\L=pre++m::r/\av=au m.blk/\j<=m.h/\Ah w L ⟨X,.slice xa xl xc⟩ j wr) (λ_ kv _=>(intOf kv+1).toNat)
 case atStart=>exact⟨12,[],bP tb ha,cj X ns,rfl,aw _,HL.out.symm,rfl,aw _,HA.out⟩
 case round=>
  obtain⟨j,pre,m,r,rfl,hj,e,rfl,Cy,hW⟩:=hrel;cases j with
  |zero=>
   obtain⟨b,hb⟩:=aAV X ns tb ha;rw[HL.out]at hb;have hout:=hW.out;have hg:=hW.grow;rw[aja hb]at hout;have lo:=af hout;obtain⟨c0,c1,c2,c3,c4,c5,c6,c7,c8,c9,c10,c11⟩:wr.cell? ⟨w.heap.size+1,0,none⟩=some (au (b 0))/\wr.cell? ⟨w.heap.size+1,1,none⟩=some (au (b 1))/\wr.cell? ⟨w.heap.size+1,2,none⟩=some (au (b 2))/\wr.cell? ⟨w.heap.size+1,3,none⟩=some (au (b 3))/\wr.cell? ⟨w.heap.size+1,4,none⟩=some (au (b 4))/\wr.cell? ⟨w.heap.size+1,5,none⟩=some (au (b 5))/\wr.cell? ⟨w.heap.size+1,6,none⟩=some (au (b 6))/\wr.cell? ⟨w.heap.size+1,7,none⟩=some (au (b 7))/\wr.cell? ⟨w.heap.size+1,8,none⟩=some (au (b 8))/\wr.cell? ⟨w.heap.size+1,9,none⟩=some (au (b 9))/\wr.cell? ⟨w.heap.size+1,10,none⟩=some (au (b 10))/\wr.cell? ⟨w.heap.size+1,11,none⟩=some (au (b 11)):=by simp[World.cell?,hout]
   obtain⟨s0,s1,s2,s3,s4,s5,s6,s7,s8,s9,zQ,QG⟩:wr.setCell ⟨w.heap.size+1,0,none⟩ (au (b 0))=wr/\wr.setCell ⟨w.heap.size+1,1,none⟩ (au (b 1))=wr/\wr.setCell ⟨w.heap.size+1,2,none⟩ (au (b 2))=wr/\wr.setCell ⟨w.heap.size+1,3,none⟩ (au (b 3))=wr/\wr.setCell ⟨w.heap.size+1,4,none⟩ (au (b 4))=wr/\wr.setCell ⟨w.heap.size+1,5,none⟩ (au (b 5))=wr/\wr.setCell ⟨w.heap.size+1,6,none⟩ (au (b 6))=wr/\wr.setCell ⟨w.heap.size+1,7,none⟩ (au (b 7))=wr/\wr.setCell ⟨w.heap.size+1,8,none⟩ (au (b 8))=wr/\wr.setCell ⟨w.heap.size+1,9,none⟩ (au (b 9))=wr/\wr.setCell ⟨w.heap.size+1,10,none⟩ (au (b 10))=wr/\wr.setCell ⟨w.heap.size+1,11,none⟩ (au (b 11))=wr:=⟨eY hout rfl,eY hout rfl,eY hout rfl,eY hout rfl,eY hout rfl,eY hout rfl,eY hout rfl,eY hout rfl,eY hout rfl,eY hout rfl,eY hout rfl,eY hout rfl⟩
   have dV:=bG hout;have ee:Jm X tb ha ns=#[au (b 0),au (b 1),au (b 2),au (b 3),au (b 4),au (b 5),au (b 6),au (b 7),au (b 8),au (b 9),au (b 10),au (b 11)]:=by rw[<-aAU,HL.out];exact aja hb
   have aZ:=ae (ag ee (ag hg hout));clear ee hg hW hb hout;go_wp2;refine bodyPost_ret (v:=.agg #[au (b 0),au (b 1),au (b 2),au (b 3),au (b 4),au (b 5),au (b 6),au (b 7),au (b 8),au (b 9),au (b 10),au (b 11)]) (by simp[results,Tryz.results182,go_sem,c0,c1,c2,c3,c4,c5,c6,c7,c8,c9,c10,c11]) rfl ⟨by rw[aZ.out.1],aZ.out.2.1⟩
  |succ j=>
   have uB:(((j+1:Nat):Int)-1)=(j:Int):=by omega
   rw[uB];have rM:(0:Int)<=(j:Int):=by omega
   go_wp2_with fail
   clear uB
   go_loopw [5] (λav wr=>∃(pre:List Nd)(m:Nd)(r:List Nd),L=pre++m::r/\av=au m.blk/\j<m.h/\Ah w L ⟨X,.slice xa xl xc⟩ (j+1) wr) (λav _=>mleft L av)
   case atStart=>exact⟨pre,m,r,e,rfl,Cy,hW⟩
   clear hW e Cy
   case round=>
   obtain⟨pre,m,r,e,rfl,Cy,hW⟩:=hrel;have hM:=H.out.grow hW.grow;have hL:=HL.out;have cM:m∈bP tb ha::ns:=by
    have h1:m∈bP tb ha::cj X ns:=by rw[hL,e];simp
    rcases bI.1 h1 with h1|h1
    .exact h1 ▸ ej ..
    .exact fE _ (by rw[<-kr X ns];exact jg _ h1)
   have e2:bP tb ha::ns=pre++m::(r++gH X ns):=by
    have h1:bP tb ha::ns=(bP tb ha::cj X ns)++gH X ns:=by rw[gP,kr]
    rw[h1,hL,e];simp
   obtain⟨t4,lm⟩:=hM.tail cM;obtain⟨tl,la⟩:=hM.link e2 Cy;obtain⟨t5,lt⟩:wr.cell? ⟨tb,5,none⟩=some (.func (.func 93) #[] #[])/\tb<wr.heap.size:=⟨by have:=hM.self;simp[World.cell?,this],af hM.self⟩
   have aMF:(j:Int)<(m.h:Int):=by omega
   obtain⟨b0,b1,b2,b3,lb⟩:wr.cell? ⟨w.heap.size,0,none⟩=some (.string X.key)/\wr.cell? ⟨w.heap.size,1,none⟩=some (.int .u64 X.seq)/\wr.cell? ⟨w.heap.size,2,none⟩=some (.bool X.gone)/\wr.cell? ⟨w.heap.size,3,none⟩=some (.slice xa xl xc)/\w.heap.size<wr.heap.size:=by have:=hW.box;exact⟨by simp[World.cell?,this],by simp[World.cell?,this],by simp[World.cell?,this],by simp[World.cell?,this],af this⟩
   rw[<-hL]at e;rcases aAW tb ha j hM.skip.ord e Cy with⟨iu,oL⟩|⟨n,hn,iu,hc⟩
   .rw[iu]at tl
    rw[hL]at e oL;clear iu e2 cM hL;have HW:=ae (ag hM hW);clear hM hW
    go_upto_region 5 with fail
    have aU:=Grow.cells (w:=wr);refine cN (λV=>Below wr.heap.size wr V) [24] (by kernel_rfl) (bB λ_ _ _ _ _ h=>h) (by((repeat (first|exact bW _ _|assumption|refine cC ?_|refine cD ?_|refine cw ?_ ?_ _|refine cB ?_ ?_ _))<;>try (first|omega|(simp<;>omega)))) ?_;simp only[ct]
    repeat ((first|(apply az;rfl;rintro W hW;go_simp;with_reducible rfl)|(apply aA;rfl));simp only[ah,List.set])
    refine Ih (by rfl) (by((repeat (first|exact bW _ _|assumption|refine cC ?_|refine cD ?_|refine cw ?_ ?_ _|refine cB ?_ ?_ _))<;>try (first|omega|(simp<;>omega)))) ?_
    try simp only[ah,List.set,aC]
    repeat ((first|(apply az;rfl;rintro W hW;go_simp;with_reducible rfl)|(apply aA;rfl));simp only[ah,List.set])
    refine bg ?_;obtain⟨wd,hwd⟩:∃wd,wr.drew=wd:=⟨_,rfl⟩
    have yC:=HW.out.2.step (ay wr);rw[hwd]at yC ⊢;clear hwd aU t4 lm tl la t5 lt b0 b1 b2 b3 lb;obtain⟨s0,s1,s2⟩:wd.cell? ⟨w.heap.size+1,j,none⟩=some (.pointer none)/\wd.frozen? ⟨w.heap.size+1,j,none⟩=false/\w.heap.size+1<wd.heap.size:=by have h1:=yC.out;exact⟨by simp[World.cell?,h1,rY,show j<12 by omega,show¬(j+1<=j)by omega],by simp[World.frozen?,h1],af h1⟩
    have aAX:(j:Int)<12:=by omega
    have hend:=yC.store (by omega);rw[oL]at hend;have aZ:=ae hend;clear hend yC
    go_wp2_with fail
    go_roundw
    case rel=>exact⟨j,pre,m,r,rfl,by omega,e,rfl,Nat.le_of_lt Cy,aZ.out⟩
    case measure=>simp[intOf]
   .obtain⟨d0,d1,d2,d3⟩:=hM.aB hn
    obtain⟨va,vc,hv⟩:=(hM.skip.vals n hn).1.slice;have ln:=af (hM.skip.node n hn);rw[hv]at d3;rw[iu]at tl;have ajc:(L.map Nd.blk).Nodup:=by rw[<-hL];have h1:cj X ns++gH X ns=ns:=kr X ns;have h2:=hM.skip.Jl;rw[<-h1,dS]at h2;refine List.nodup_cons.2 ⟨λhm=>?_,(List.nodup_append.1 h2).1⟩;obtain⟨k,hk,hk2⟩:=aV.1 hm;have h3:=hM.skip.node k (by rw[<-h1];exact jg _ hk);have h4:=hM.self;rw[show k.blk=tb from hk2,h4]at h3;exact absurd (cp (bh h3)).2.1 (by decide)
    rw[hL]at e hc;have HW:=ae (ag hM hW);have Cp:=ae ajc;have Hc:=ae hc;have WI:=ae cM;have He2:=ae e2;have Hn:=ae hn;have YL:=ae iu;clear iu e2 cM hL hM hW hv ajc hc hn;have Cz:dA (kJ n.x.e.key X.key) (jG X.seq n.x.e.seq)=eB n.x.e X:=rfl;have gj:=aiY n.x.e.key n.x.e.seq n.x.e.gone (.slice va n.x.e.val.length vc) X.key X.seq X.gone (.slice xa xl xc);rw[Cz]at gj;have kL:=ae gj;clear Cz gj;generalize SE:eB n.x.e X=c at*;obtain⟨bb,eD⟩:∃bb,decide (c<0)=bb:=⟨_,rfl⟩
    go_upto_region 5 with fail
    have aU:=Grow.cells (w:=wr);refine cN (λV=>Below wr.heap.size wr V) [24] (by kernel_rfl) (bB λ_ _ _ _ _ h=>h) (by((repeat (first|exact bW _ _|assumption|refine cC ?_|refine cD ?_|refine cw ?_ ?_ _|refine cB ?_ ?_ _))<;>try (first|omega|(simp<;>omega)))) ?_;simp only[ct]
    repeat ((first|(apply az;rfl;rintro W hW;go_simp;with_reducible rfl)|(apply aA;rfl));simp only[ah,List.set])
    refine bw (by rfl) (by go_simp) (kL.out wr.drew) ?_;rintro e' w3 ⟨rfl,hg3⟩;refine⟨_,rfl,(ay wr).trans hg3,?_⟩
    try simp only[ah,List.set,aC]
    repeat ((first|(apply az;rfl;rintro W hW;go_simp;with_reducible rfl)|(apply aA;rfl));simp only[ah,List.set])
    refine bg ?_;have hg3':=(ay wr).trans hg3;have yC:=HW.out.2.step hg3';clear aU t4 lm tl la t5 lt b0 b1 b2 b3 lb d0 d1 d2 d3 ln;rcases Hc.out with⟨hc,oL⟩|⟨hc,r1,r2,hr,hjn⟩
    .have EN:bb=false:=by rw[<-eD];simpa using hc
     clear hc eD;subst EN;obtain⟨s0,s1,s2⟩:w3.cell? ⟨w.heap.size+1,j,none⟩=some (.pointer none)/\w3.frozen? ⟨w.heap.size+1,j,none⟩=false/\w.heap.size+1<w3.heap.size:=by have h1:=yC.out;exact⟨by simp[World.cell?,h1,rY,show j<12 by omega,show¬(j+1<=j)by omega],by simp[World.frozen?,h1],af h1⟩
     have aAX:(j:Int)<12:=by omega
     have hend:=yC.store (by omega);rw[oL]at hend;have aZ:=ae hend;clear hend yC
     go_wp2_with fail
     go_roundw
     case rel=>exact⟨j,pre,m,r,rfl,by omega,e,rfl,Nat.le_of_lt Cy,aZ.out⟩
     case measure=>simp[intOf]
    .have EN:bb=true:=by rw[<-eD];simpa using hc
     clear hc eD;subst EN;have YM:=HW.out.1.grow hg3';obtain⟨t4,lm⟩:=YM.tail WI.out;obtain⟨tl,la⟩:=YM.link He2.out Cy;have ajd:cz j (r++gH X ns)=au n.blk:=YL.out;rw[ajd]at tl;have Hw3:=ae yC;clear yC YM hg3 hg3' ajd
     go_wp2_with fail
     go_roundw
     case rel=>exact⟨pre++m::r1,n,r2,by rw[e,hr];simp,rfl,hjn,Hw3.out⟩
     case measure=>rw[SB Cp.out e,SB Cp.out (show L=(pre++m::r1)++n::r2 by rw[e,hr];simp)];rw[hr];simp;omega
end Go.Proofs.YtoolkdapflaeeaaGreatDoor
