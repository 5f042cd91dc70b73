/- Helpers. -/
import Derived.Test.YtoolkdapflaeeaaGreatDoorW0C
import Derived.Deep.CutRange
import Derived.Deep.DeepCutAuto
set_option maxRecDepth 100000
set_option maxHeartbeats 16000000
namespace Go.Proofs.YtoolkdapflaeeaaGreatDoor
open Go.RowKit Go.Gl Go.aH Mn
structure Nd where
 blk:Nat
 arr:Nat
 h:Nat
 x:Ev
abbrev au (b:Nat):Value:= .pointer (some ⟨b,0,none⟩)
def bV (k:Nat):List Nd→Value
 | []=> .pointer none
 |n::r=>if k<n.h then au n.blk else bV k r
def bW (k:Nat):List Nd→Option Nd
 | []=>none
 |n::r=>match bW k r with|some m=>some m|none=>if k<n.h then some n else none
def dW (w:World) (g:List Nd→Nat→Value):List Nd→Prop
 | []=>True
 |n::r=>w.heap[n.arr]?=some (.cells ((List.range n.h).map (g r)).toArray 287 (0,0))∧dW w g r
theorem Oe {k:Nat}:∀ {r:List Nd} (hi:List Nd),bW k r=none→bV k (r++hi)=bV k hi
 | [],_,_=>rfl
 |n::r,hi,h=>by
  unfold bW at h;cases hr:bW k r with
  |some m=>rw [hr] at h;cases h
  |none=>
   rw [hr] at h;simp only at h
   split at h
   ·cases h
   ·rename_i hn
    rw [List.cons_append,bV,if_neg hn,Oe hi hr]
theorem aek {k:Nat}:∀ {r:List Nd} {m:Nd} (h1 h2:List Nd),bW k r=some m→bV k (r++h1)=bV k (r++h2)
 | [],_,_,_,h=>by cases h
 |n::r,m,h1,h2,h=>by
  rw [List.cons_append,List.cons_append,bV,bV];by_cases hn:k<n.h
  ·rw [if_pos hn,if_pos hn]
  ·rw [if_neg hn,if_neg hn]
   unfold bW at h;cases hr:bW k r with
   |some m'=>exact aek h1 h2 hr
   |none=>rw [hr] at h;simp [hn] at h
theorem Og {k:Nat}:∀ {r:List Nd} {m:Nd},bW k r=some m→m∈r∧k<m.h
 | [],_,h=>by cases h
 |n::r,m,h=>by
  unfold bW at h;cases hr:bW k r with
  |some m'=>
   rw [hr] at h;cases h;obtain ⟨h1,h2⟩:=Og hr;exact ⟨gz _ h1,h2⟩
  |none=>
   rw [hr] at h;simp only at h
   split at h
   ·cases h;exact ⟨eQ ..,by assumption⟩
   ·cases h
theorem UF {k:Nat} {n:Nd} {r:List Nd} (hn:k<n.h) (hr:bW k r=none):∀ pre:List Nd,bW k (pre++n::r)=some n
 | []=>by rw [List.nil_append,bW,hr];simp [hn]
 |a::pre=>by rw [List.cons_append,bW,UF hn hr pre]
theorem ael (k:Nat):∀ (r:List Nd),(bW k r=none)∨∃ r1 m r2,r=r1++m::r2∧k<m.h∧∀ hi,bV k (r++hi)=au m.blk
 | []=> .inl rfl
 |n::r=>by
  by_cases hn:k<n.h
  ·exact .inr ⟨[],n,r,rfl,hn,fun hi=>by rw [List.cons_append,bV,if_pos hn]⟩
  ·rcases ael k r with h|⟨r1,m,r2,h1,h2,h3⟩
   ·left;rw [bW,h];simp [hn]
   ·exact .inr ⟨n::r1,m,r2,by rw [h1];rfl,h2,fun hi=>by rw [List.cons_append,bV,if_neg hn,h3]⟩
theorem aem (k:Nat):∀ (hi:List Nd),bV k hi= .pointer none∨∃ h1 m h2,hi=h1++m::h2∧bV k hi=au m.blk
 | []=> .inl rfl
 |n::r=>by
  by_cases hn:k<n.h
  ·exact .inr ⟨[],n,r,rfl,by rw [bV,if_pos hn]⟩
  ·rcases aem k r with h|⟨r1,m,r2,h1,h2⟩
   ·left;rw [bV,if_neg hn,h]
   ·exact .inr ⟨n::r1,m,r2,by rw [h1];rfl,by rw [bV,if_neg hn,h2]⟩
theorem dW.keep {w w':World} {g:List Nd→Nat→Value}:∀ {l:List Nd},dW w g l→(∀ n∈l,w'.heap[n.arr]?=w.heap[n.arr]?)→dW w' g l
 | [],_,_=>trivial
 |n::r,h,hk=>⟨by rw [hk n (eQ ..)];exact h.1,dW.keep h.2 (fun m hm=>hk m (gz _ hm))⟩
theorem dW.at {w:World} {g:List Nd→Nat→Value}:∀ {l pre:List Nd} {n:Nd} {r:List Nd},dW w g l→l=pre++n::r→w.heap[n.arr]?=some (.cells ((List.range n.h).map (g r)).toArray 287 (0,0))
 |_,[],n,r,h,rfl=>h.1
 |_,a::pre,n,r,h,rfl=>dW.at (pre:=pre) h.2 rfl
theorem dW.congr {w:World} {g g':List Nd→Nat→Value}:∀ {l:List Nd},dW w g l→(∀ pre n r,l=pre++n::r→∀ k,k<n.h→g r k=g' r k)→dW w g' l
 | [],_,_=>trivial
 |n::r,h,hk=>⟨by
  have e:(List.range n.h).map (g' r)=(List.range n.h).map (g r):=List.map_congr_left fun k JN=>(hk [] n r rfl k (List.mem_range.1 JN)).symm
  rw [e];exact h.1,dW.congr h.2 (fun pre m s e k hkm=>hk (n::pre) m s (by rw [e];rfl) k hkm)⟩
theorem dW.split {w:World} {g:List Nd→Nat→Value} {hi:List Nd}:∀ {lo:List Nd},dW w g (lo++hi)→dW w (fun r=>g (r++hi)) lo∧dW w g hi
 | [],h=>⟨trivial,h⟩
 |_::_,h=>⟨⟨h.1,(dW.split h.2).1⟩,(dW.split h.2).2⟩
theorem dW.join {w:World} {g:List Nd→Nat→Value} {hi:List Nd}:∀ {lo:List Nd},dW w (fun r=>g (r++hi)) lo→dW w g hi→dW w g (lo++hi)
 | [],_,h=>h
 |_::_,h,h2=>⟨h.1,dW.join h.2 h2⟩
theorem Oh {w:World} {b n:Nat} {t:TypeId} {f:Nat→Value} (h:w.heap[b]?=some (.cells ((List.range n).map f).toArray t (0,0))) {k:Nat} (hk:k<n):w.cell? ⟨b,k,none⟩=some (f k):=by
 simp [World.cell?,h,hk]
def pN (K:Nat) (nw:Nd) (hi:List Nd) (r:List Nd) (k:Nat):Value:=if k<K then bV k (r++nw::hi) else bV k (r++hi)
theorem UG {w:World} {nw:Nd} {hi:List Nd} {K:Nat} (hK:K<nw.h):∀ {l:List Nd},(l.map Nd.arr).Nodup→dW w (pN K nw hi) l→
  (∀ m,bW K l=some m→w.cell? ⟨m.arr,K,none⟩=some (bV K hi)∧dW (w.setCell ⟨m.arr,K,none⟩ (au nw.blk)) (pN (K+1) nw hi) l)∧(bW K l=none→dW w (pN (K+1) nw hi) l)
 | [],_,_=>⟨fun _ h=>(by cases h),fun _=>trivial⟩
 |n::r,hn,ht=>by
  have rF:=List.nodup_cons.1 hn;obtain ⟨ih1,ih2⟩:=UG hK rF.2 ht.2;constructor
  ·intro m hm
   cases hr:bW K r with
   |some m'=>
    unfold bW at hm;rw [hr] at hm;cases hm;obtain ⟨h1,h2⟩:=ih1 m hr;have hne:n.arr≠m.arr:=fun e=>rF.1 (by rw [e];exact List.mem_map.2 ⟨m,(Og hr).1,rfl⟩)
    refine ⟨h1,?_,h2⟩;rw [aK _ _ _ _ hne,ht.1];congr 3;apply List.map_congr_left;intro k _;unfold pN;rcases Nat.lt_trichotomy k K with h3|h3|h3
    ·rw [if_pos h3,if_pos (by omega)]
    ·subst h3
     rw [if_neg (by omega),if_pos (by omega),aek _ (nw::hi) hr]
    ·rw [if_neg (by omega),if_neg (by omega)]
   |none=>
    unfold bW at hm;rw [hr] at hm;simp only at hm
    split at hm
    ·rename_i UH
     cases hm;have hc:=Oh ht.1 UH;refine ⟨by rw [hc,pN,if_neg (by omega),Oe hi hr],?_,(ih2 hr).keep (fun x hx=>aK _ _ _ _ (fun e=>rF.1 (by have e':x.arr=n.arr:=e;rw [←e'];exact List.mem_map.2 ⟨x,hx,rfl⟩)))⟩;rw [Go.Gl.aI ht.1];congr 2;apply Array.ext';simp only [Array.toList_setIfInBounds];apply List.ext_getElem?;intro k;rw [List.getElem?_set];by_cases JO:K=k
     ·subst JO
      simp [UH,pN,Oe _ hr,bV,hK]
     ·rw [if_neg JO]
      by_cases ju:k<n.h
      ·simp only [List.getElem?_map,List.getElem?_range ju,Option.map_some]
       unfold pN;rcases Nat.lt_trichotomy k K with h3|h3|h3
       ·rw [if_pos h3,if_pos (by omega)]
       ·omega
       ·rw [if_neg (by omega),if_neg (by omega)]
      ·simp [ju]
    ·cases hm
  ·intro hm
   unfold bW at hm;cases hr:bW K r with
   |some m'=>rw [hr] at hm;cases hm
   |none=>
    rw [hr] at hm;simp only at hm
    split at hm
    ·cases hm
    ·rename_i UH
     refine ⟨?_,ih2 hr⟩;rw [ht.1];congr 3;apply List.map_congr_left;intro k hk;have Oi:=List.mem_range.1 hk;unfold pN;rw [if_pos (show k<K by omega),if_pos (by omega)]
theorem auR {w:World} {nw:Nd} {hi lo:List Nd} (h:dW w (fun r k=>bV k (r++hi)) lo):dW w (pN 0 nw hi) lo:=h.congr (fun _ _ _ _ k _=>by simp [pN])
theorem auS {w:World} {nw:Nd} {hi lo:List Nd} (h:dW w (pN nw.h nw hi) lo):dW w (fun r k=>bV k (r++nw::hi)) lo:=h.congr (fun _ _ r _ k _=>by
 unfold pN;by_cases hk:k<nw.h
 ·rw [if_pos hk]
 ·rw [if_neg hk]
  have:∀ r:List Nd,bV k (r++hi)=bV k (r++nw::hi):=fun r=>by
   induction r with
   |nil=>rw [List.nil_append,List.nil_append,bV,if_neg hk]
   |cons a r ih=>rw [List.cons_append,List.cons_append,bV,bV,ih]
  exact this r)
noncomputable def mleft (l:List Nd) (p:Value):Nat:=match p with| .pointer (some a)=>l.length-(l.map Nd.blk).idxOf a.block|_=>0
theorem Oj {l pre r:List Nd} {n:Nd} (hn:(l.map Nd.blk).Nodup) (hl:l=pre++n::r):mleft l (au n.blk)=r.length+1:=by
 subst hl;simp only [mleft];rw [List.map_append,List.map_cons] at hn ⊢;have RD:n.blk ∉ pre.map Nd.blk:=fun h=>(List.nodup_append.1 hn).2.2 _ h _ (eQ ..) rfl
 rw [List.idxOf_append,if_neg RD];simp
end Go.Proofs.YtoolkdapflaeeaaGreatDoor
namespace Go.Proofs.YtoolkdapflaeeaaGreatDoor
open Go.RowKit Go.Gl Mn
def fits (key:ByteArray) (up:Nat) (e:En):Prop:=e.key=key∧e.seq≤up
instance (key:ByteArray) (up:Nat) (e:En):Decidable (fits key up e):=inferInstanceAs (Decidable (_∧_))
def sk:Option En→Option En→Option En
 |none,y=>y
 |some x,none=>some x
 |some x,some y=>if x.seq<y.seq then some y else some x
def eK (key:ByteArray) (up:Nat):List En→Option En
 | []=>none
 |e::r=>sk (if fits key up e then some e else none) (eK key up r)
variable {key:ByteArray} {up:Nat}
theorem aeo (x:Option En):sk x none=x:=by cases x<;>rfl
theorem auT (x y z:Option En):sk (sk x y) z=sk x (sk y z):=by
 cases x with
 |none=>rfl
 |some x=>
  cases y with
  |none=>cases z<;>rfl
  |some y=>
   cases z with
   |none=>rw [aeo,aeo]
   |some z=>
    simp only [sk];by_cases h1:x.seq<y.seq
    ·by_cases h2:y.seq<z.seq
     ·simp [h1,h2,show x.seq<z.seq by omega]
     ·simp [h1,h2]
    ·by_cases h2:y.seq<z.seq
     ·simp [h1,h2]
     ·simp [h1,h2,show ¬ x.seq<z.seq by omega]
theorem auU (a b:List En):eK key up (a++b)=sk (eK key up a) (eK key up b):=by
 induction a with
 |nil=>rfl
 |cons e a ih=>rw [List.cons_append,eK,eK,ih,auT]
theorem Ol {l:List En}:eK key up l=none↔∀ e∈l,¬ fits key up e:=by
 induction l with
 |nil=>simp [eK]
 |cons e l ih=>
  rw [eK];by_cases h:fits key up e
  ·rw [if_pos h]
   constructor
   ·intro h2
    cases hb:eK key up l with
    |none=>rw [hb] at h2;cases h2
    |some y=>rw [hb] at h2;simp only [sk] at h2;split at h2<;>cases h2
   ·intro h2;exact absurd h (h2 e (eQ ..))
  ·rw [if_neg h,show sk none (eK key up l)=eK key up l from rfl,ih]
   constructor
   ·intro h2 x hx
    rcases List.mem_cons.1 hx with rfl|hx
    ·exact h
    ·exact h2 x hx
   ·intro h2 x hx;exact h2 x (gz _ hx)
theorem UI:∀ {l:List En} {e:En},eK key up l=some e→e∈l∧fits key up e∧∀ x∈l,fits key up x→x.seq≤e.seq
 | [],e,h=>by cases h
 |a::l,e,h=>by
  rw [eK] at h;by_cases ha:fits key up a
  ·rw [if_pos ha] at h
   cases hb:eK key up l with
   |none=>
    rw [hb] at h;cases h;have hn:=Ol.1 hb;refine ⟨eQ ..,ha,fun x hx hf=> ?_⟩;rcases List.mem_cons.1 hx with rfl|hx
    ·exact ay _
    ·exact absurd hf (hn x hx)
   |some y=>
    obtain ⟨h1,h2,h3⟩:=UI hb;rw [hb] at h;simp only [sk] at h
    split at h
    ·cases h
     refine ⟨gz _ h1,h2,fun x hx hf=> ?_⟩;rcases List.mem_cons.1 hx with rfl|hx
     ·omega
     ·exact h3 x hx hf
    ·cases h
     refine ⟨eQ ..,ha,fun x hx hf=> ?_⟩;rcases List.mem_cons.1 hx with rfl|hx
     ·exact ay _
     ·have:=h3 x hx hf;omega
  ·rw [if_neg ha] at h
   obtain ⟨h1,h2,h3⟩:=UI (l:=l) h;refine ⟨gz _ h1,h2,fun x hx hf=> ?_⟩;rcases List.mem_cons.1 hx with rfl|hx
   ·exact absurd hf ha
   ·exact h3 x hx hf
def Cy (l:List En):Prop:=∀ a∈l,∀ b∈l,qP a b→a=b
theorem cQ.fun {l:List En} (h:cQ l):Cy l:=by
 induction l with
 |nil=>intro a ha;cases ha
 |cons c l ih=>
  have h':=xu.1 h;intro a ha b hb hs;rcases List.mem_cons.1 ha with rfl|ha2
  ·rcases List.mem_cons.1 hb with rfl|hb2
   ·rfl
   ·have:=h'.1 b hb2;rw [Cv hs] at this;exact absurd this (JF _)
  ·rcases List.mem_cons.1 hb with rfl|hb2
   ·have:=h'.1 a ha2;rw [aee hs] at this;exact absurd this (JF _)
   ·exact ih h'.2 a ha2 b hb2 hs
theorem Om {l:List En} (hf:Cy l) {e:En} (h1:e∈l) (h2:fits key up e) (h3:∀ x∈l,fits key up x→x.seq≤e.seq):eK key up l=some e:=by
 cases hb:eK key up l with
 |none=>exact absurd h2 (Ol.1 hb e h1)
 |some y=>
  obtain ⟨g1,g2,g3⟩:=UI hb;have a1:=h3 y g1 g2;have a2:=g3 e h1 h2;rw [hf y g1 e h1 ⟨g2.1.trans h2.1.symm,by omega⟩]
abbrev spot (key:ByteArray) (up:Nat):En:=⟨key,up,false,[]⟩
theorem auV {e:En} (h:¬ gY e (spot key up)) (hk:e.key=key):e.seq≤up:=by
 have:¬ up<e.seq:=fun h2=>h (.inr ⟨hk,h2⟩)
 omega
theorem aep {l:List En} (h:cQ l):eK key up l=match gq (spot key up) l with| []=>none|e::_=>if e.key=key then some e else none:=by
 have JG:=tS (spot key up) l;have kU:=NY (x:=spot key up) (l:=l);have Cw:=EX (x:=spot key up) h;have lj:∀ e∈gq (spot key up) l,e∈l:=fun e he=>by rw [←JG];exact mg _ he
 have ho:cQ (gq (spot key up) l):=(Ux h).2.1;have gu:∀ x∈l,fits key up x→x∈gq (spot key up) l:=fun x hx hf=>by
  rw [←JG] at hx;rcases List.mem_append.1 hx with hx|hx
  ·exfalso
   rcases kU x hx with h1|⟨_,h1⟩
   ·rw [hf.1] at h1;exact List.lt_irrefl _ h1
   ·have tI:up<x.seq:=h1
    have:=hf.2;omega
  ·exact hx
 cases hh:gq (spot key up) l with
 |nil=>
  rw [hh] at gu;exact Ol.2 fun x hx hf=>by cases gu x hx hf
 |cons e r=>
  rw [hh] at gu Cw ho lj;have fJ:=xu.1 ho;simp only;by_cases hk:e.key=key
  ·rw [if_pos hk]
   refine Om h.fun (lj e (eQ ..)) ⟨hk,auV (Cw e (eQ ..)) hk⟩ (fun x hx hf=> ?_)
   rcases List.mem_cons.1 (gu x hx hf) with rfl|h2
   ·exact ay _
   ·rcases fJ.1 x h2 with h3|⟨_,h3⟩
    ·rw [hk,hf.1] at h3;exact absurd h3 (List.lt_irrefl _)
    ·omega
  ·rw [if_neg hk]
   refine Ol.2 fun x hx hf=> ?_
   rcases List.mem_cons.1 (gu x hx hf) with rfl|h2
   ·exact hk hf.1
   ·have h4:¬ gY e (spot key up):=Cw e (eQ ..)
    have h5:¬ e.key.data.toList<key.data.toList:=fun h6=>h4 (.inl h6)
    rcases fJ.1 x h2 with h3|⟨h3,_⟩
    ·rw [hf.1] at h3;exact h5 h3
    ·exact hk (h3.trans hf.1)
end Go.Proofs.YtoolkdapflaeeaaGreatDoor
namespace Go.Proofs.YtoolkdapflaeeaaGreatDoor
open Go.RowKit Go.Gl Go.aH Mn
def Iw (N:Nat→Prop) (w:World) (v:Value) (l:List Int):Prop:=
 ∃ a c,v= .slice a l.length c∧l.length≤1000000000∧(l= []∨∃ b o,a=some ⟨b,o,none⟩∧N b∧b<w.heap.size∧∀ (j:Nat) (k:Int),l[j]?=some k→w.cell? ⟨b,o+j,none⟩=some (.int .i64 k))
theorem Iw.kp {N:Nat→Prop} {w w':World} {v:Value} {l:List Int} (h:Iw N w v l) (k:Kp N w w'):Iw N w' v l:=by
 obtain ⟨a,c,rfl,hl,h⟩:=h;refine ⟨a,c,rfl,hl,?_⟩;rcases h with h|⟨b,o,rfl,hb,hlt,hc⟩
 ·exact .inl h
 ·exact .inr ⟨b,o,rfl,hb,cj hlt k.size,fun j x hx=>by rw [k.cell hb hlt];exact hc j x hx⟩
theorem Iw.mono {N M:Nat→Prop} {w:World} {v:Value} {l:List Int} (h:Iw N w v l) (hM:∀ b,N b→M b):Iw M w v l:=by
 obtain ⟨a,c,rfl,hl,h⟩:=h;refine ⟨a,c,rfl,hl,?_⟩;rcases h with h|⟨b,o,rfl,hb,h⟩
 ·exact .inl h
 ·exact .inr ⟨b,o,rfl,hM b hb,h⟩
abbrev Oo (ha aM cnt:Nat) (dv:Value) (sz:Nat):Array Value:=#[.string ByteArray.empty,.int .u64 0,.bool false,.slice none 0 0,.slice (some ⟨ha,0,none⟩) 12 12,.func (.func 93) #[] #[],.int .i64 aM,.int .i64 cnt,dv,.int .i64 sz]
abbrev JP (n:Nd):Array Value:=#[.string n.x.e.key,.int .u64 n.x.e.seq,.bool n.x.e.gone,n.x.v,.slice (some ⟨n.arr,0,none⟩) n.h n.h]
abbrev bC (tb ha:Nat):Nd:=⟨tb,ha,12,default⟩
def iE (e:En):Nat:=e.key.size+e.val.length+16
def costs (l:List En):Nat:=(l.map iE).sum
def FM (tb ha:Nat) (ns:List Nd):Nat→Prop:=fun b=>b=tb∨b=ha∨∃ n∈ns,b=n.blk∨b=n.arr
structure jw (N:Nat→Prop) (w:World) (tb ha:Nat) (ns:List Nd):Prop where
 node:∀ n∈ns,w.heap[n.blk]?=some (.cells (JP n) 176 (0,0))
 gZ:dW w (fun r k=>bV k r) (bC tb ha::ns)
 hs:∀ n∈ns,1≤n.h∧n.h≤12
 EY:(ns.map Nd.blk).Nodup
 Cz:((bC tb ha::ns).map Nd.arr).Nodup
 vals:∀ n∈ns,kG N w n.x∧n.x.e.seq<18446744073709551616
 ord:cQ (ns.map (fun n=>n.x.e))
structure cX (N:Nat→Prop) (w:World) (tb ha:Nat) (ns:List Nd) (aM:Nat) (dv:Value) (ds:List Int):Prop where
 self:w.heap[tb]?=some (.cells (Oo ha aM ns.length dv (costs (ns.map (fun n=>n.x.e)))) 181 (0,0))
 skip:jw N w tb ha ns
 aM:aM≤12
 draws:Iw N w dv ds
section
variable {N M:Nat→Prop} {w w':World} {tb ha:Nat} {ns:List Nd} {aM:Nat} {dv:Value} {ds:List Int}
theorem jw.keep (h:jw N w tb ha ns) (hk:∀ b,(b=ha∨∃ n∈ns,b=n.blk∨b=n.arr)→w'.heap[b]?=w.heap[b]?) (hN:Kp N w w'):jw N w' tb ha ns:=
 ⟨fun n hn=>(hk _ (.inr ⟨n,hn,.inl rfl⟩)).trans (h.node n hn),h.gZ.keep (fun n hn=>by
  rcases List.mem_cons.1 hn with rfl|hn
  ·exact hk _ (.inl rfl)
  ·exact hk _ (.inr ⟨n,hn,.inr rfl⟩)),h.hs,h.EY,h.Cz,fun n hn=>⟨(h.vals n hn).1.kp hN,(h.vals n hn).2⟩,h.ord⟩
theorem cX.keep (h:cX N w tb ha ns aM dv ds) (hk:∀ b,FM tb ha ns b→w'.heap[b]?=w.heap[b]?) (hN:Kp N w w'):cX N w' tb ha ns aM dv ds:=
 ⟨(hk _ (.inl rfl)).trans h.self,h.skip.keep (fun b hb=>hk b (.inr hb)) hN,h.aM,h.draws.kp hN⟩
theorem jw.lt (h:jw N w tb ha ns) {b:Nat} (hb:b=ha∨∃ n∈ns,b=n.blk∨b=n.arr):b<w.heap.size:=by
 rcases hb with rfl|⟨n,hn,rfl|rfl⟩
 ·exact af h.gZ.1
 ·exact af (h.node n hn)
 ·obtain ⟨pre,r,e⟩:=List.append_of_mem hn
  exact af (h.gZ.2.at e)
theorem cX.lt (h:cX N w tb ha ns aM dv ds) {b:Nat} (hb:FM tb ha ns b):b<w.heap.size:=by
 rcases hb with rfl|hb
 ·exact af h.self
 ·exact h.skip.lt hb
theorem jw.grow (h:jw N w tb ha ns) (hg:Grow w w'):jw N w' tb ha ns:=h.keep (fun b hb=>hg.block b (h.lt hb)) (.bF hg)
theorem cX.grow (h:cX N w tb ha ns aM dv ds) (hg:Grow w w'):cX N w' tb ha ns aM dv ds:=h.keep (fun b hb=>hg.block b (h.lt hb)) (.bF hg)
theorem jw.mono (h:jw N w tb ha ns) (hM:∀ b,N b→M b):jw M w tb ha ns:=⟨h.node,h.gZ,h.hs,h.EY,h.Cz,fun n hn=>⟨(h.vals n hn).1.mono hM,(h.vals n hn).2⟩,h.ord⟩
theorem cX.mono (h:cX N w tb ha ns aM dv ds) (hM:∀ b,N b→M b):cX M w tb ha ns aM dv ds:=⟨h.self,h.skip.mono hM,h.aM,h.draws.mono hM⟩
def bR (x:En) (ns:List Nd):List Nd:=ns.takeWhile (fun n=>decide (fH n.x.e x<0))
def fk (x:En) (ns:List Nd):List Nd:=ns.dropWhile (fun n=>decide (fH n.x.e x<0))
theorem iZ (x:En) (ns:List Nd):bR x ns++fk x ns=ns:=List.takeWhile_append_dropWhile ..
theorem UJ (x:En):∀ ns:List Nd,(bR x ns).map (fun n=>n.x.e)=gp x (ns.map (fun n=>n.x.e))
 | []=>rfl
 |n::ns=>by
  unfold bR gp;rw [List.map_cons,List.takeWhile_cons,List.takeWhile_cons];split
  ·rw [List.map_cons];exact congrArg _ (UJ x ns)
  ·rfl
theorem CA (x:En):∀ ns:List Nd,(fk x ns).map (fun n=>n.x.e)=gq x (ns.map (fun n=>n.x.e))
 | []=>rfl
 |n::ns=>by
  unfold fk gq;rw [List.map_cons,List.dropWhile_cons,List.dropWhile_cons];split
  ·exact CA x ns
  ·rw [List.map_cons]
theorem auW {x:En} {ns:List Nd}:∀ n∈bR x ns,fH n.x.e x<0:=fun n hn=>by
 have:=List.all_takeWhile (p:=fun n:Nd=>decide (fH n.x.e x<0)) (l:=ns);have h2:=List.all_eq_true.1 this n hn;rwa [decide_eq_true_eq] at h2
theorem auX {x:En} {ns:List Nd} (h:cQ (ns.map (fun n=>n.x.e))):∀ n∈fk x ns,¬ fH n.x.e x<0:=fun n hn=>by
 have:=EX (x:=x) h n.x.e (by rw [←CA];exact List.mem_map.2 ⟨n,hn,rfl⟩);rwa [Cu]
def fO:Option Nd→Value
 |none=> .pointer none
 |some n=>au n.blk
theorem UK {k:Nat} (hk:k<12) (tb ha:Nat):∀ (lo:List Nd),∃ m,bW k (bC tb ha::lo)=some m:=fun lo=>by
 unfold bW;cases bW k lo with
 |some m=>exact ⟨m,rfl⟩
 |none=>exact ⟨bC tb ha,by simp [hk]⟩
def EZ (x:En) (tb ha:Nat) (ns:List Nd):Array Value:=((List.range 12).map (fun k=>fO (bW k (bC tb ha::bR x ns)))).toArray
end
end Go.Proofs.YtoolkdapflaeeaaGreatDoor
namespace Go.Proofs.YtoolkdapflaeeaaGreatDoor
open Go.RowKit Go.Gl Go.aH Mn
theorem aeq {k:Nat} {n n':Nd} (hb:n'.blk=n.blk) (hh:n'.h=n.h):∀ (a r:List Nd),bV k (a++n'::r)=bV k (a++n::r)
 | [],r=>by rw [List.nil_append,List.nil_append,bV,bV,hb,hh]
 |m::a,r=>by rw [List.cons_append,List.cons_append,bV,bV,aeq hb hh a r]
theorem aer {w:World} {n n':Nd} (hb:n'.blk=n.blk) (hh:n'.h=n.h) (ha:n'.arr=n.arr):∀ {l r:List Nd},dW w (fun r k=>bV k r) (l++n::r)→dW w (fun r k=>bV k r) (l++n'::r)
 | [],r,h=>⟨by have h1:=h.1;rw [ha,hh];exact h1,h.2⟩
 |m::l,r,h=>⟨by
  have h1:=h.1;have e:(List.range m.h).map (fun k=>bV k (l++n'::r))=(List.range m.h).map (fun k=>bV k (l++n::r)):=List.map_congr_left fun k _=>aeq hb hh l r
  show w.heap[m.arr]?=some (.cells ((List.range m.h).map (fun k=>bV k (l++n'::r))).toArray 287 (0,0));rw [e];exact h1,aer hb hh ha h.2⟩
theorem auY {a b:List En} {x y:En} (h:cQ (a++x::b)) (hs:qP x y):cQ (a++y::b):=by
 obtain ⟨h1,h2,h3⟩:=List.pairwise_append.1 h;have BM:=xu.1 h2;refine List.pairwise_append.2 ⟨h1,xu.2 ⟨fun c hc=>(Cv hs).1 (BM.1 c hc),BM.2⟩,fun c hc d hd=> ?_⟩;rcases List.mem_cons.1 hd with rfl|hd
 ·exact (aee hs).1 (h3 c hc x (eQ ..))
 ·exact h3 c hc d (gz _ hd)
variable {N:Nat→Prop} {w w':World} {tb ha:Nat} {lo hi r:List Nd} {n n' nw:Nd}
theorem jw.rep (h:jw N w tb ha (lo++n::r)) (hb:n'.blk=n.blk) (hh:n'.h=n.h) (CB:n'.arr=n.arr) (hc:w'.heap[n.blk]?=some (.cells (JP n') 176 (0,0)))
  (ho:∀ b,b≠n.blk→b<w.heap.size→w'.heap[b]?=w.heap[b]?) (hN:Kp N w w') (hx:kG N w' n'.x∧n'.x.e.seq<18446744073709551616) (hs:qP n.x.e n'.x.e):jw N w' tb ha (lo++n'::r):=by
 have cO:n∈lo++n::r:=mg _ (eQ ..);have auZ:∀ m∈bC tb ha::(lo++n::r),m.arr≠n.blk:=fun m hm e=>by
  obtain ⟨pre,r',e2⟩:=List.append_of_mem hm;have h1:=h.gZ.at e2;rw [e,h.node n cO] at h1;have h2:=(cA (bB h1)).2.1;exact absurd h2 (by decide)
 have UL:dW w' (fun r k=>bV k r) (bC tb ha::(lo++n::r)):=h.gZ.keep (fun m hm=>ho _ (auZ m hm) (by
  obtain ⟨pre,r',e2⟩:=List.append_of_mem hm;exact af (h.gZ.at e2)))
 have hbl:=h.EY;have qI:=h.Cz;have tV:=h.ord;rw [List.map_append,List.map_cons] at hbl tV;have jo:=List.nodup_append.1 hbl;have Oq:=List.nodup_cons.1 jo.2.1;refine ⟨?_,?_,?_,?_,?_,?_,?_⟩
 ·intro m hm
  rcases List.mem_append.1 hm with h1|h1
  ·rw [ho m.blk (fun e=>jo.2.2 _ (List.mem_map.2 ⟨m,h1,rfl⟩) _ (eQ ..) e) (af (h.node m (List.mem_append_left _ h1)))]
   exact h.node m (List.mem_append_left _ h1)
  ·rcases List.mem_cons.1 h1 with rfl|h1
   ·rw [hb];exact hc
   ·have h2:m∈lo++n::r:=mg _ (gz _ h1)
    rw [ho m.blk (fun e=>Oq.1 (by rw [←e];exact List.mem_map.2 ⟨m,h1,rfl⟩)) (af (h.node m h2))];exact h.node m h2
 ·exact aer (l:=bC tb ha::lo) hb hh CB UL
 ·intro m hm
  rcases List.mem_append.1 hm with h1|h1
  ·exact h.hs m (List.mem_append_left _ h1)
  ·rcases List.mem_cons.1 h1 with rfl|h1
   ·rw [hh];exact h.hs n cO
   ·exact h.hs m (mg _ (gz _ h1))
 ·rw [List.map_append,List.map_cons,hb];exact hbl
 ·simp only [List.map_append,List.map_cons,CB] at qI ⊢;exact qI
 ·intro m hm
  rcases List.mem_append.1 hm with h1|h1
  ·have:=h.vals m (List.mem_append_left _ h1);exact ⟨this.1.kp hN,this.2⟩
  ·rcases List.mem_cons.1 h1 with rfl|h1
   ·exact hx
   ·have:=h.vals m (mg _ (gz _ h1));exact ⟨this.1.kp hN,this.2⟩
 ·rw [List.map_append,List.map_cons]
  exact auY tV hs
theorem jw.ins (h:jw N w tb ha (lo++hi)) (Fb:w'.heap[nw.blk]?=some (.cells (JP nw) 176 (0,0))) (UL:dW w' (fun r k=>bV k (r++nw::hi)) (bC tb ha::lo))
  (Ff:w'.heap[nw.arr]?=some (.cells ((List.range nw.h).map (fun k=>bV k hi)).toArray 287 (0,0))) (hblk:∀ m∈lo++hi,w'.heap[m.blk]?=w.heap[m.blk]?) (CB:∀ m∈hi,w'.heap[m.arr]?=w.heap[m.arr]?)
  (qu:w.heap.size≤nw.blk) (bh:w.heap.size≤nw.arr) (hN:Kp N w w') (hx:kG N w' nw.x∧nw.x.e.seq<18446744073709551616) (hh:1≤nw.h∧nw.h≤12) (tV:cQ ((lo++nw::hi).map (fun n=>n.x.e))):jw N w' tb ha (lo++nw::hi):=by
 have iy:∀ {m},m∈lo++nw::hi→m=nw∨m∈lo++hi:=fun {m} hm=>by
  rcases List.mem_append.1 hm with h1|h1
  ·exact .inr (List.mem_append_left _ h1)
  ·rcases List.mem_cons.1 h1 with h1|h1
   ·exact .inl h1
   ·exact .inr (mg _ h1)
 have mE:∀ m∈lo++hi,m.blk<w.heap.size:=fun m hm=>af (h.node m hm)
 have JQ:∀ m∈bC tb ha::(lo++hi),m.arr<w.heap.size:=fun m hm=>by
  obtain ⟨pre,r',e2⟩:=List.append_of_mem hm;exact af (h.gZ.at e2)
 have jo:∀ (f:Nd→Nat) (a:List Nd),((a++hi).map f).Nodup→(∀ m∈a++hi,f m≠f nw)→((a++nw::hi).map f).Nodup:=fun f a hn hne=>by
  rw [List.map_append] at hn;rw [List.map_append,List.map_cons];obtain ⟨h1,h2,h3⟩:=List.nodup_append.1 hn;refine List.nodup_append.2 ⟨h1,List.nodup_cons.2 ⟨fun hm=> ?_,h2⟩,fun x hx y hy=> ?_⟩
  ·obtain ⟨m,hm,e⟩:=List.mem_map.1 hm
   exact hne m (mg _ hm) e
  ·rcases List.mem_cons.1 hy with rfl|hy
   ·obtain ⟨m,hm,e⟩:=List.mem_map.1 hx
    intro e2;exact hne m (List.mem_append_left _ hm) (e.trans e2)
   ·exact h3 x hx y hy
 refine ⟨?_,?_,?_,?_,?_,?_,tV⟩
 ·intro m hm
  rcases iy hm with rfl|hm
  ·exact Fb
  ·rw [hblk m hm];exact h.node m hm
 ·have ava:dW w' (fun r k=>bV k r) hi:=((dW.split (lo:=bC tb ha::lo) h.gZ).2).keep CB
  have:=dW.join (lo:=bC tb ha::lo) (hi:=nw::hi) (g:=fun r k=>bV k r) UL ⟨Ff,ava⟩;exact this
 ·intro m hm
  rcases iy hm with rfl|hm
  ·exact hh
  ·exact h.hs m hm
 ·exact jo Nd.blk lo h.EY (fun m hm e=>by have:=mE m hm;omega)
 ·have h9:((bC tb ha::lo++hi).map Nd.arr).Nodup:=h.Cz
  exact jo Nd.arr (bC tb ha::lo) h9 (fun m hm e=>by have:=JQ m hm;omega)
 ·intro m hm
  rcases iy hm with rfl|hm
  ·exact hx
  ·have:=h.vals m hm;exact ⟨this.1.kp hN,this.2⟩
end Go.Proofs.YtoolkdapflaeeaaGreatDoor
namespace Go.Proofs.YtoolkdapflaeeaaGreatDoor
open Go.RowKit Go.Gl Mn
theorem avb (x:Int) (w:World):Calls Tryz.prog 197 #[.int .u64 x] w fun e w'=>e= .returned (.bool false)∧w'=w:=by
 have hb:(x != x)=false:=by simp
 go_enter Tryz.func197,Tryz.ntmps197;go_wp2;go_ret;exact ⟨rfl,rfl⟩
theorem avc (x y:Int) (w:World):Calls Tryz.prog 144 #[.int .u64 x,.int .u64 y] w fun e w'=>e= .returned (.int .i64 (ij x y))∧w'=w:=by
 go_enter Tryz.func144,Tryz.ntmps144
 go_wp2_with (go_at_call 197;(with_reducible refine (avb _ _).mono ?_);rintro e w' ⟨rfl,rfl⟩)
 ·rename_i h
  go_ret;exact ⟨by rw [ij,if_pos h];rfl,rfl⟩
 ·rename_i h1 h2
  go_ret;exact ⟨by rw [ij,if_neg (by omega),if_pos h2];rfl,rfl⟩
 ·rename_i h1 h2
  go_ret;exact ⟨by rw [ij,if_neg (by omega),if_neg (by omega)];rfl,rfl⟩
theorem aes (w:World) (x y:Int):(Instr.buildSlice 24 2 #[(0,.int .i64 x),(1,.int .i64 y)]).run Tryz.prog w= .ok (.slice (some ⟨w.heap.size,0,none⟩) 2 2) (w.alloc (.cells #[.int .i64 x,.int .i64 y] 3)):=by
 simp [Instr.buildSlice,run_underlying Tryz.underlying24,Tryz.sizeOf3,Tryz.zeroValue3,Instr.fill,newRow,Value.cells];congr 2;apply Array.ext
 ·simp
 ·intro i h1 h2
  simp at h1
  match i,h1 with
  |0,_=>simp
  |1,_=>simp
theorem cK {w:World} {b:Nat} {x0 x1 x2 x3:Value} {t:TypeId} (h:w.heap[b]?=some (.cells #[x0,x1,x2,x3] t (0,0))):
  w.cell? ⟨b,0,none⟩=some x0∧w.cell? ⟨b,1,none⟩=some x1∧w.cell? ⟨b,2,none⟩=some x2∧w.cell? ⟨b,3,none⟩=some x3:=by
 simp [World.cell?,h]
theorem aet (xk:ByteArray) (xs:Nat) (xg:Bool) (xv:Value) (yk:ByteArray) (ys:Nat) (yg:Bool) (yv:Value) (W:World):∀ f,f=93∨f=133→Calls Tryz.prog f #[.agg #[.string xk,.int .u64 xs,.bool xg,xv],.agg #[.string yk,.int .u64 ys,.bool yg,yv]] W fun e w'=>e= .returned (.int .i64 (cJ (jF xk yk) (ij ys xs)))∧Grow W w':=by
 have hc0:=abl xk yk;have hc1:=avc ys xs;generalize jF xk yk=c0 at*;generalize ij ys xs=c1 at*;have uS:=SS c0 c1;generalize cJ c0 c1=res at*;have b0:((W.alloc (.cells #[.string xk,.int .u64 xs,.bool xg,xv] 60)).alloc (.cells #[.string yk,.int .u64 ys,.bool yg,yv] 60)).heap[W.heap.size]?=some (.cells #[.string xk,.int .u64 xs,.bool xg,xv] 60 (0,0)):=(heap_alloc_old _ _ (by simp)).trans (aw _ _);have b1:((W.alloc (.cells #[.string xk,.int .u64 xs,.bool xg,xv] 60)).alloc (.cells #[.string yk,.int .u64 ys,.bool yg,yv] 60)).heap[W.heap.size+1]?=some (.cells #[.string yk,.int .u64 ys,.bool yg,yv] 60 (0,0)):=by
  have:=aw (W.alloc (.cells #[.string xk,.int .u64 xs,.bool xg,xv] 60)) (.cells #[.string yk,.int .u64 ys,.bool yg,yv] 60);simpa using this
 obtain ⟨d0,d1,_,_⟩:=cK b0;obtain ⟨e0,e1,_,_⟩:=cK b1;have l0:=af b0;have l1:=af b1;have gJ:Grow W ((W.alloc (.cells #[.string xk,.int .u64 xs,.bool xg,xv] 60)).alloc (.cells #[.string yk,.int .u64 ys,.bool yg,yv] 60)):=(Grow.alloc _ _).trans (Grow.alloc _ _);have SU:=ae hc0;have pn:=ae hc1;have SV:=ae uS;have cS:=ae gJ;clear b0 b1 hc0 hc1 uS gJ;rintro f (rfl|rfl);go_enter Tryz.func93,Tryz.ntmps93;rotate_left;go_enter Tryz.func133,Tryz.ntmps133
 all_goals
  go_upto_region 1 with fail
  generalize (W.alloc (.cells #[.string xk,.int .u64 xs,.bool xg,xv] 60)).alloc (.cells #[.string yk,.int .u64 ys,.bool yg,yv] 60)=w0 at*;have aQ:=Grow.cells (w:=w0);refine bX (fun V=>Below w0.heap.size w0 V)
   [(0,false),(1,false),(2,false),(3,false),(5,false),(6,false),(7,false),(8,false),(4,true),(9,true),(10,true),(11,true),(12,false)] (by kernel_rfl) (by kernel_rfl) (fun c a d v w h=>by cases d<;>exact h) (by (repeat (first|exact Below.refl _ _|assumption|refine Below.drew ?_|refine cp ?_|refine Below.setCell ?_ (by first|omega|(simp<;>omega)) _|refine Below.alloc ?_ (by first|omega|(simp<;>omega)) _))) ?_
  simp only [aP,nth]
  repeat (first|(refine aB (v:= ?_) (by rfl) ?_ ?_;rotate_left;(rintro W hW;go_simp;with_reducible rfl);simp only [ag,List.set])|(refine aC (by rfl) ?_;simp only [ag,List.set]))
  refine bj (by rfl) (by go_simp) (SU.out _) ?_;rintro e w2 ⟨rfl,rfl⟩;refine ⟨_,rfl,by (repeat (first|exact Below.refl _ _|assumption|refine Below.drew ?_|refine cp ?_|refine Below.setCell ?_ (by first|omega|(simp<;>omega)) _|refine Below.alloc ?_ (by first|omega|(simp<;>omega)) _)),?_⟩
  try first|simp only [ag,List.set]|simp only [aD]
  refine bj (by rfl) (by go_simp) (pn.out _) ?_;rintro e w2 ⟨rfl,rfl⟩;refine ⟨_,rfl,by (repeat (first|exact Below.refl _ _|assumption|refine Below.drew ?_|refine cp ?_|refine Below.setCell ?_ (by first|omega|(simp<;>omega)) _|refine Below.alloc ?_ (by first|omega|(simp<;>omega)) _)),?_⟩
  try first|simp only [ag,List.set]|simp only [aD]
  refine ry (by rfl) (v:= .slice (some ⟨w0.drew.heap.size,0,none⟩) 2 2) (w':=World.alloc w0.drew (.cells #[.int .i64 c0,.int .i64 c1] 3)) ?_ (by (repeat (first|exact Below.refl _ _|assumption|refine Below.drew ?_|refine cp ?_|refine Below.setCell ?_ (by first|omega|(simp<;>omega)) _|refine Below.alloc ?_ (by first|omega|(simp<;>omega)) _))) ?_
  ·unfold execOp
   simp only [Act.eval];simp [aes]
  try first|simp only [ag,List.set]|simp only [aD]
  refine bj (by rfl) (by go_simp) (SV.out w0.drew.heap.size (World.alloc w0.drew (.cells #[.int .i64 c0,.int .i64 c1] 3)) (by unfold World.cell?;rw [aw];rfl) (by unfold World.cell?;rw [aw];rfl)) ?_;rintro e w2 ⟨rfl,rfl⟩;refine ⟨_,rfl,by (repeat (first|exact Below.refl _ _|assumption|refine Below.drew ?_|refine cp ?_|refine Below.setCell ?_ (by first|omega|(simp<;>omega)) _|refine Below.alloc ?_ (by first|omega|(simp<;>omega)) _)),?_⟩
  try first|simp only [ag,List.set]|simp only [aD]
  repeat (first|(refine aB (v:= ?_) (by rfl) ?_ ?_;rotate_left;(rintro W hW;go_simp;with_reducible rfl);simp only [ag,List.set])|(refine aC (by rfl) ?_;simp only [ag,List.set]))
  refine bm ?_
  go_wp2_with fail
  go_ret;exact ⟨rfl,cS.out.trans ((Grow.drew _).trans (Grow.alloc _ _))⟩
theorem aeu (xk:ByteArray) (xs:Nat) (xg:Bool) (xv:Value) (yk:ByteArray) (ys:Nat) (yg:Bool) (yv:Value) (W:World):Calls Tryz.prog 93 #[.agg #[.string xk,.int .u64 xs,.bool xg,xv],.agg #[.string yk,.int .u64 ys,.bool yg,yv]] W fun e w'=>e= .returned (.int .i64 (cJ (jF xk yk) (ij ys xs)))∧Grow W w':=aet xk xs xg xv yk ys yg yv W _ (.inl rfl)
theorem aev (xk:ByteArray) (xs:Nat) (xg:Bool) (xv:Value) (yk:ByteArray) (ys:Nat) (yg:Bool) (yv:Value) (W:World):Calls Tryz.prog 133 #[.agg #[.string xk,.int .u64 xs,.bool xg,xv],.agg #[.string yk,.int .u64 ys,.bool yg,yv]] W fun e w'=>e= .returned (.int .i64 (cJ (jF xk yk) (ij ys xs)))∧Grow W w':=aet xk xs xg xv yk ys yg yv W _ (.inr rfl)
end Go.Proofs.YtoolkdapflaeeaaGreatDoor
namespace Go.Proofs.YtoolkdapflaeeaaGreatDoor
open Go.RowKit Go.Gl Go.aH Mn
def pO (L:List Nd) (j:Nat):Array Value:=((List.range 12).map (fun i=>if j≤i then fO (bW i L) else .pointer none)).toArray
theorem avd (L:List Nd):pO L 12=#[.pointer none,.pointer none,.pointer none,.pointer none,.pointer none,.pointer none,.pointer none,.pointer none,.pointer none,.pointer none,.pointer none,.pointer none]:=rfl
theorem ave (L:List Nd) {j:Nat} (hj:j<12):(pO L (j+1)).setIfInBounds j (fO (bW j L))=pO L j:=by
 apply Array.ext_getElem?;intro i;rw [Array.getElem?_setIfInBounds];by_cases h:j=i
 ·subst h
  rw [if_pos rfl,if_pos (by simpa [pO] using hj)];simp [pO,hj]
 ·rw [if_neg h]
  by_cases hi:i<12
  ·simp only [pO,List.getElem?_toArray,List.getElem?_map,List.getElem?_range hi,Option.map_some]
   by_cases h2:j≤i
   ·rw [if_pos h2,if_pos (by omega)]
   ·rw [if_neg h2,if_neg (by omega)]
  ·simp [pO,hi]
theorem avf (x:En) (tb ha:Nat) (ns:List Nd):pO (bC tb ha::bR x ns) 0=EZ x tb ha ns:=by
 unfold pO EZ;simp
theorem avg (x:En) (ns:List Nd) (tb ha:Nat):∃ b:Nat→Nat,∀ i,i<12→fO (bW i (bC tb ha::bR x ns))=au (b i):=by
 refine ⟨fun i=>match bW i (bC tb ha::bR x ns) with|some m=>m.blk|none=>0,fun i hi=> ?_⟩;obtain ⟨m,hm⟩:=UK hi tb ha (bR x ns);simp only [hm];rfl
theorem aew {L:List Nd} {b:Nat→Nat} (h:∀ i,i<12→fO (bW i L)=au (b i)):pO L 0=#[au (b 0),au (b 1),au (b 2),au (b 3),au (b 4),au (b 5),au (b 6),au (b 7),au (b 8),au (b 9),au (b 10),au (b 11)]:=by
 have:pO L 0=#[fO (bW 0 L),fO (bW 1 L),fO (bW 2 L),fO (bW 3 L),fO (bW 4 L),fO (bW 5 L),fO (bW 6 L),fO (bW 7 L),fO (bW 8 L),fO (bW 9 L),fO (bW 10 L),fO (bW 11 L)]:=rfl;rw [this];simp only [h 0 (by decide),h 1 (by decide),h 2 (by decide),h 3 (by decide),h 4 (by decide),h 5 (by decide),h 6 (by decide),h 7 (by decide),h 8 (by decide),h 9 (by decide),h 10 (by decide),h 11 (by decide)]
theorem dN {w:World} {b i:Nat} {arr:Array Value} {t:TypeId} {f:Nat×Nat} {v:Value} (h:w.heap[b]?=some (.cells arr t f)) (hv:arr[i]?=some v):w.setCell ⟨b,i,none⟩ v=w:=by
 have ea:arr.setIfInBounds i v=arr:=by
  apply Array.ext_getElem?;intro k;rw [Array.getElem?_setIfInBounds];by_cases hk:i=k
  ·subst hk
   rw [if_pos rfl,if_pos (af hv),hv]
  ·rw [if_neg hk]
 have hm:∀ g:Obj→Obj,g (.cells arr t f)= .cells arr t f→w.heap.modify b g=w.heap:=fun g hg=>by
  apply Array.ext_getElem?;intro k;rw [Array.getElem?_modify];by_cases hk:b=k
  ·subst hk;rw [if_pos rfl,h,Option.map_some,hg]
  ·rw [if_neg hk]
 unfold World.setCell;simp only;rw [hm _ (by simp [ea])]
structure Ah (w:World) (L:List Nd) (x:Ev) (j:Nat) (W:World):Prop where
 grow:Below w.heap.size w W
 box:W.heap[w.heap.size]?=some (.cells (bQ x) 60 (0,0))
 out:W.heap[w.heap.size+1]?=some (.cells (pO L j) 288 (0,0))
theorem Ah.step {w W W':World} {L:List Nd} {x:Ev} {j:Nat} (h:Ah w L x j W) (hg:Grow W W'):Ah w L x j W':=⟨Below.trans h.grow (hg.mono h.grow.size),hg.heap h.box,hg.heap h.out⟩
theorem Ah.store {w W:World} {L:List Nd} {x:Ev} {j:Nat} (h:Ah w L x (j+1) W) (hj:j<12):Ah w L x j (W.setCell ⟨w.heap.size+1,j,none⟩ (fO (bW j L))):=by
 refine ⟨h.grow.setCell (p:=⟨w.heap.size+1,j,none⟩) (by simp) _,?_,?_⟩
 ·rw [aK _ _ _ _ (by simp)];exact h.box
 ·rw [Go.Gl.aI h.out,ave L hj]
theorem cX.tail {N:Nat→Prop} {w:World} {tb ha:Nat} {ns:List Nd} {aM:Nat} {dv:Value} {ds:List Int} (h:cX N w tb ha ns aM dv ds) {m:Nd} (hm:m∈bC tb ha::ns):w.cell? ⟨m.blk,4,none⟩=some (.slice (some ⟨m.arr,0,none⟩) m.h m.h)∧m.blk<w.heap.size:=by
 rcases List.mem_cons.1 hm with rfl|hm
 ·have:=h.self
  exact ⟨by simp [World.cell?,this],af this⟩
 ·have:=h.skip.node m hm
  exact ⟨by simp [World.cell?,this],af this⟩
theorem cX.link {N:Nat→Prop} {w:World} {tb ha:Nat} {ns:List Nd} {aM:Nat} {dv:Value} {ds:List Int} (h:cX N w tb ha ns aM dv ds) {pre r:List Nd} {m:Nd} (e:bC tb ha::ns=pre++m::r) {k:Nat} (hk:k<m.h):w.cell? ⟨m.arr,k,none⟩=some (bV k r)∧m.arr<w.heap.size:=
 ⟨Oh (h.skip.gZ.at e) hk,af (h.skip.gZ.at e)⟩
theorem cX.az {N:Nat→Prop} {w:World} {tb ha:Nat} {ns:List Nd} {aM:Nat} {dv:Value} {ds:List Int} (h:cX N w tb ha ns aM dv ds) {n:Nd} (hn:n∈ns):
  w.cell? ⟨n.blk,0,none⟩=some (.string n.x.e.key)∧w.cell? ⟨n.blk,1,none⟩=some (.int .u64 n.x.e.seq)∧w.cell? ⟨n.blk,2,none⟩=some (.bool n.x.e.gone)∧w.cell? ⟨n.blk,3,none⟩=some n.x.v:=by
 have:=h.skip.node n hn;simp [World.cell?,this]
theorem avh {x:En} {ns pre r:List Nd} {m:Nd} (tb ha k:Nat) (tV:cQ (ns.map (fun n=>n.x.e))) (e:bC tb ha::bR x ns=pre++m::r) (hk:k<m.h):
  (bV k (r++fk x ns)= .pointer none∧bW k (bC tb ha::bR x ns)=some m)∨
  ∃ n∈ns,bV k (r++fk x ns)=au n.blk∧((¬ fH n.x.e x<0∧bW k (bC tb ha::bR x ns)=some m)∨(fH n.x.e x<0∧∃ r1 r2,r=r1++n::r2∧k<n.h)):=by
 have lX:∀ n∈fk x ns,n∈ns:=fun n hn=>by rw [←iZ x ns];exact mg _ hn
 rcases ael k r with h|⟨r1,n,r2,h1,h2,h3⟩
 ·have hl:bW k (bC tb ha::bR x ns)=some m:=by rw [e];exact UF hk h pre
  rw [Oe _ h];rcases aem k (fk x ns) with h4|⟨p1,n,p2,h4,h5⟩
  ·exact .inl ⟨h4,hl⟩
  ·have hn:n∈fk x ns:=by rw [h4];simp
   exact .inr ⟨n,lX n hn,h5,.inl ⟨auX tV n hn,hl⟩⟩
 ·have hn:n∈bC tb ha::bR x ns:=by rw [e,h1];simp
  have rF:n∈bR x ns:=by
   have e2:bR x ns=(pre++m::r).tail:=by rw [←e];rfl
   rw [e2,h1];cases pre with
   |nil=>simp
   |cons a pre=>simp
  exact .inr ⟨n,by rw [←iZ x ns];exact List.mem_append_left _ rF,h3 _,.inr ⟨auW n rF,r1,r2,h1,h2⟩⟩
theorem aex {N:Nat→Prop} {w:World} {tb ha:Nat} {ns:List Nd} {aM:Nat} {dv:Value} {ds:List Int} (h:cX N w tb ha ns aM dv ds) (x:Ev) {xa:Option Addr} {xl xc:Nat} (dm:x.v= .slice xa xl xc):
  Calls Tryz.prog 182 #[au tb,.agg (bQ x)] w fun e w'=>e= .returned (.agg (EZ x.e tb ha ns))∧Grow w w':=by
 obtain ⟨⟨xk,xs,xg,xd⟩,xv⟩:=x;simp only at dm;subst dm;obtain ⟨w2,hw2⟩:∃ w2,(w.alloc (.cells (bQ ⟨⟨xk,xs,xg,xd⟩,.slice xa xl xc⟩) 60)).alloc (.cells #[.pointer none,.pointer none,.pointer none,.pointer none,.pointer none,.pointer none,.pointer none,.pointer none,.pointer none,.pointer none,.pointer none,.pointer none] 288)=w2:=⟨_,rfl⟩
 have hA:Ah w (bC tb ha::bR ⟨xk,xs,xg,xd⟩ ns) ⟨⟨xk,xs,xg,xd⟩,.slice xa xl xc⟩ 12 w2:=by
  rw [←hw2];exact ⟨(Grow.alloc _ _).trans (Grow.alloc _ _),(heap_alloc_old _ _ (by simp)).trans (aw _ _),by rw [avd];have:=aw (w.alloc (.cells (bQ ⟨⟨xk,xs,xg,xd⟩,.slice xa xl xc⟩) 60)) (.cells #[.pointer none,.pointer none,.pointer none,.pointer none,.pointer none,.pointer none,.pointer none,.pointer none,.pointer none,.pointer none,.pointer none,.pointer none] 288);simpa using this⟩
 generalize hX:(⟨xk,xs,xg,xd⟩:En)=X at*;generalize hL:bC tb ha::bR X ns=L at*;have H:=ae h;have HA:=ae hA;have HL:=ae hL;clear h hA hL;go_enter Tryz.func182,Tryz.ntmps182
 go_wp2_with fail
 clear hw2
 go_loopw [5,6] (fun av kv wr=>∃ (j:Nat) (pre:List Nd) (m:Nd) (r:List Nd),kv= .int .i64 ((j:Int)-1)∧j≤12∧L=pre++m::r∧av=au m.blk∧j≤m.h∧Ah w L ⟨X,.slice xa xl xc⟩ j wr) (fun _ kv _=>(intOf kv+1).toNat)
 case atStart=>exact ⟨12,[],bC tb ha,bR X ns,rfl,ay _,HL.out.symm,rfl,ay _,HA.out⟩
 case round=>
  obtain ⟨j,pre,m,r,rfl,hj,e,rfl,zT,hW⟩:=hrel;cases j with
  |zero=>
   obtain ⟨b,hb⟩:=avg X ns tb ha;rw [HL.out] at hb;have hout:=hW.out;have hg:=hW.grow;rw [aew hb] at hout;have lo:=af hout;obtain ⟨c0,c1,c2,c3,c4,c5,c6,c7,c8,c9,c10,c11⟩:wr.cell? ⟨w.heap.size+1,0,none⟩=some (au (b 0))∧wr.cell? ⟨w.heap.size+1,1,none⟩=some (au (b 1))∧wr.cell? ⟨w.heap.size+1,2,none⟩=some (au (b 2))∧wr.cell? ⟨w.heap.size+1,3,none⟩=some (au (b 3))∧wr.cell? ⟨w.heap.size+1,4,none⟩=some (au (b 4))∧wr.cell? ⟨w.heap.size+1,5,none⟩=some (au (b 5))∧wr.cell? ⟨w.heap.size+1,6,none⟩=some (au (b 6))∧wr.cell? ⟨w.heap.size+1,7,none⟩=some (au (b 7))∧wr.cell? ⟨w.heap.size+1,8,none⟩=some (au (b 8))∧wr.cell? ⟨w.heap.size+1,9,none⟩=some (au (b 9))∧wr.cell? ⟨w.heap.size+1,10,none⟩=some (au (b 10))∧wr.cell? ⟨w.heap.size+1,11,none⟩=some (au (b 11)):=by simp [World.cell?,hout]
   obtain ⟨s0,s1,s2,s3,s4,s5,s6,s7,s8,s9,tq,yJ⟩:wr.setCell ⟨w.heap.size+1,0,none⟩ (au (b 0))=wr∧wr.setCell ⟨w.heap.size+1,1,none⟩ (au (b 1))=wr∧wr.setCell ⟨w.heap.size+1,2,none⟩ (au (b 2))=wr∧wr.setCell ⟨w.heap.size+1,3,none⟩ (au (b 3))=wr∧wr.setCell ⟨w.heap.size+1,4,none⟩ (au (b 4))=wr∧wr.setCell ⟨w.heap.size+1,5,none⟩ (au (b 5))=wr∧wr.setCell ⟨w.heap.size+1,6,none⟩ (au (b 6))=wr∧wr.setCell ⟨w.heap.size+1,7,none⟩ (au (b 7))=wr∧wr.setCell ⟨w.heap.size+1,8,none⟩ (au (b 8))=wr∧wr.setCell ⟨w.heap.size+1,9,none⟩ (au (b 9))=wr∧wr.setCell ⟨w.heap.size+1,10,none⟩ (au (b 10))=wr∧wr.setCell ⟨w.heap.size+1,11,none⟩ (au (b 11))=wr:=⟨dN hout rfl,dN hout rfl,dN hout rfl,dN hout rfl,dN hout rfl,dN hout rfl,dN hout rfl,dN hout rfl,dN hout rfl,dN hout rfl,dN hout rfl,dN hout rfl⟩
   have eu:∀ i,wr.frozen? ⟨w.heap.size+1,i,none⟩=false:=fun i=>by simp [World.frozen?,hout]
   have ee:EZ X tb ha ns=#[au (b 0),au (b 1),au (b 2),au (b 3),au (b 4),au (b 5),au (b 6),au (b 7),au (b 8),au (b 9),au (b 10),au (b 11)]:=by rw [←avf,HL.out];exact aew hb
   have bG:=ae (ah ee (ah hg hout));clear ee hg hW hb hout;go_wp2;refine bodyPost_ret (v:= .agg #[au (b 0),au (b 1),au (b 2),au (b 3),au (b 4),au (b 5),au (b 6),au (b 7),au (b 8),au (b 9),au (b 10),au (b 11)]) (by simp [results,Tryz.results182,go_sem,c0,c1,c2,c3,c4,c5,c6,c7,c8,c9,c10,c11]) rfl ⟨by rw [bG.out.1],bG.out.2.1⟩
  |succ j=>
   have Ep:(((j+1:Nat):Int)-1)=(j:Int):=by omega
   rw [Ep];have ze:(0:Int)≤(j:Int):=by omega
   go_wp2_with fail
   clear Ep
   go_loopw [5] (fun av wr=>∃ (pre:List Nd) (m:Nd) (r:List Nd),L=pre++m::r∧av=au m.blk∧j<m.h∧Ah w L ⟨X,.slice xa xl xc⟩ (j+1) wr) (fun av _=>mleft L av)
   case atStart=>exact ⟨pre,m,r,e,rfl,zT,hW⟩
   clear hW e zT
   case round=>
   obtain ⟨pre,m,r,e,rfl,zT,hW⟩:=hrel;have hM:=H.out.grow hW.grow;have hL:=HL.out;have cO:m∈bC tb ha::ns:=by
    have h1:m∈bC tb ha::bR X ns:=by rw [hL,e];simp
    rcases List.mem_cons.1 h1 with h1|h1
    ·exact h1 ▸ eQ ..
    ·exact gz _ (by rw [←iZ X ns];exact List.mem_append_left _ h1)
   have e2:bC tb ha::ns=pre++m::(r++fk X ns):=by
    have h1:bC tb ha::ns=(bC tb ha::bR X ns)++fk X ns:=by rw [List.cons_append,iZ]
    rw [h1,hL,e];simp
   obtain ⟨t4,lm⟩:=hM.tail cO;obtain ⟨tl,la⟩:=hM.link e2 zT;obtain ⟨t5,lt⟩:wr.cell? ⟨tb,5,none⟩=some (.func (.func 93) #[] #[])∧tb<wr.heap.size:=⟨by have:=hM.self;simp [World.cell?,this],af hM.self⟩
   have aFt:(j:Int)<(m.h:Int):=by omega
   obtain ⟨b0,b1,b2,b3,lb⟩:wr.cell? ⟨w.heap.size,0,none⟩=some (.string X.key)∧wr.cell? ⟨w.heap.size,1,none⟩=some (.int .u64 X.seq)∧wr.cell? ⟨w.heap.size,2,none⟩=some (.bool X.gone)∧wr.cell? ⟨w.heap.size,3,none⟩=some (.slice xa xl xc)∧w.heap.size<wr.heap.size:=by
    have:=hW.box;exact ⟨by simp [World.cell?,this],by simp [World.cell?,this],by simp [World.cell?,this],by simp [World.cell?,this],af this⟩
   rw [←hL] at e;rcases avh tb ha j hM.skip.ord e zT with ⟨fT,mh⟩|⟨n,hn,fT,hc⟩
   ·rw [fT] at tl
    rw [hL] at e mh;clear fT e2 cO hL;have HW:=ae (ah hM hW);clear hM hW
    go_upto_region 5 with fail
    have aQ:=Grow.cells (w:=wr);refine bX (fun V=>Below wr.heap.size wr V) [(0,false),(1,false),(2,false),(3,false),(4,false),(5,false),(6,false),(7,false),(8,false),(9,false),(10,false),(11,false),(12,false),(13,false),(14,false),(15,false),(16,false),(17,false),(18,false),(19,false),(20,false),(21,false),(22,false),(23,false),(24,true),(25,false),(26,false)] (by kernel_rfl) (by kernel_rfl) (fun c a d v w h=>by cases d<;>exact h) (by (repeat (first|exact Below.refl _ _|assumption|refine Below.drew ?_|refine cp ?_|refine Below.setCell ?_ (by first|omega|(simp<;>omega)) _|refine Below.alloc ?_ (by first|omega|(simp<;>omega)) _))) ?_;simp only [aP,nth]
    repeat (first|(refine aB (v:= ?_) (by rfl) ?_ ?_;rotate_left;(rintro W hW;go_simp;with_reducible rfl);simp only [ag,List.set])|(refine aC (by rfl) ?_;simp only [ag,List.set]))
    refine Rz (by rfl) (by (repeat (first|exact Below.refl _ _|assumption|refine Below.drew ?_|refine cp ?_|refine Below.setCell ?_ (by first|omega|(simp<;>omega)) _|refine Below.alloc ?_ (by first|omega|(simp<;>omega)) _))) ?_
    try first|simp only [ag,List.set]|simp only [aD]
    repeat (first|(refine aB (v:= ?_) (by rfl) ?_ ?_;rotate_left;(rintro W hW;go_simp;with_reducible rfl);simp only [ag,List.set])|(refine aC (by rfl) ?_;simp only [ag,List.set]))
    refine bm ?_;obtain ⟨wd,hwd⟩:∃ wd,wr.drew=wd:=⟨_,rfl⟩
    have vB:=HW.out.2.step (Grow.drew wr);rw [hwd] at vB ⊢;clear hwd aQ t4 lm tl la t5 lt b0 b1 b2 b3 lb;obtain ⟨s0,s1,s2⟩:wd.cell? ⟨w.heap.size+1,j,none⟩=some (.pointer none)∧wd.frozen? ⟨w.heap.size+1,j,none⟩=false∧w.heap.size+1<wd.heap.size:=by
     have h1:=vB.out;exact ⟨by simp [World.cell?,h1,pO,show j<12 by omega,show ¬ (j+1≤j) by omega],by simp [World.frozen?,h1],af h1⟩
    have avi:(j:Int)<12:=by omega
    have hend:=vB.store (by omega);rw [mh] at hend;have bG:=ae hend;clear hend vB
    go_wp2_with fail
    go_roundw
    case rel=>exact ⟨j,pre,m,r,rfl,by omega,e,rfl,Nat.le_of_lt zT,bG.out⟩
    case measure=>simp [intOf]
   ·obtain ⟨d0,d1,d2,d3⟩:=hM.az hn
    obtain ⟨va,vc,hv⟩:=(hM.skip.vals n hn).1.slice;have ln:=af (hM.skip.node n hn);rw [hv] at d3;rw [fT] at tl;have aey:(L.map Nd.blk).Nodup:=by
     rw [←hL];have h1:bR X ns++fk X ns=ns:=iZ X ns;have h2:=hM.skip.EY;rw [←h1,List.map_append] at h2;refine List.nodup_cons.2 ⟨fun hm=> ?_,(List.nodup_append.1 h2).1⟩;obtain ⟨k,hk,hk2⟩:=List.mem_map.1 hm;have h3:=hM.skip.node k (by rw [←h1];exact List.mem_append_left _ hk);have h4:=hM.self;rw [show k.blk=tb from hk2,h4] at h3;exact absurd (cA (bB h3)).2.1 (by decide)
    rw [hL] at e hc;have HW:=ae (ah hM hW);have zP:=ae aey;have Hc:=ae hc;have SA:=ae cO;have He2:=ae e2;have Hn:=ae hn;have UM:=ae fT;clear fT e2 cO hL hM hW hv aey hc hn;have zU:cJ (jF n.x.e.key X.key) (ij X.seq n.x.e.seq)=fH n.x.e X:=rfl;have fD:=aeu n.x.e.key n.x.e.seq n.x.e.gone (.slice va n.x.e.val.length vc) X.key X.seq X.gone (.slice xa xl xc);rw [zU] at fD;have jP:=ae fD;clear zU fD;generalize Ot:fH n.x.e X=c at*;obtain ⟨bb,cZ⟩:∃ bb,decide (c<0)=bb:=⟨_,rfl⟩
    go_upto_region 5 with fail
    have aQ:=Grow.cells (w:=wr);refine bX (fun V=>Below wr.heap.size wr V) [(0,false),(1,false),(2,false),(3,false),(4,false),(5,false),(6,false),(7,false),(8,false),(9,false),(10,false),(11,false),(12,false),(13,false),(14,false),(15,false),(16,false),(17,false),(18,false),(19,false),(20,false),(21,false),(22,false),(23,false),(24,true),(25,false),(26,false)] (by kernel_rfl) (by kernel_rfl) (fun c a d v w h=>by cases d<;>exact h) (by (repeat (first|exact Below.refl _ _|assumption|refine Below.drew ?_|refine cp ?_|refine Below.setCell ?_ (by first|omega|(simp<;>omega)) _|refine Below.alloc ?_ (by first|omega|(simp<;>omega)) _))) ?_;simp only [aP,nth]
    repeat (first|(refine aB (v:= ?_) (by rfl) ?_ ?_;rotate_left;(rintro W hW;go_simp;with_reducible rfl);simp only [ag,List.set])|(refine aC (by rfl) ?_;simp only [ag,List.set]))
    refine bj (by rfl) (by go_simp) (jP.out wr.drew) ?_;rintro e' w3 ⟨rfl,hg3⟩;refine ⟨_,rfl,(Grow.drew wr).trans hg3,?_⟩
    try first|simp only [ag,List.set]|simp only [aD]
    repeat (first|(refine aB (v:= ?_) (by rfl) ?_ ?_;rotate_left;(rintro W hW;go_simp;with_reducible rfl);simp only [ag,List.set])|(refine aC (by rfl) ?_;simp only [ag,List.set]))
    refine bm ?_;have hg3':=(Grow.drew wr).trans hg3;have vB:=HW.out.2.step hg3';clear aQ t4 lm tl la t5 lt b0 b1 b2 b3 lb d0 d1 d2 d3 ln;rcases Hc.out with ⟨hc,mh⟩|⟨hc,r1,r2,hr,hjn⟩
    ·have Cq:bb=false:=by rw [←cZ];simpa using hc
     clear hc cZ;subst Cq;obtain ⟨s0,s1,s2⟩:w3.cell? ⟨w.heap.size+1,j,none⟩=some (.pointer none)∧w3.frozen? ⟨w.heap.size+1,j,none⟩=false∧w.heap.size+1<w3.heap.size:=by
      have h1:=vB.out;exact ⟨by simp [World.cell?,h1,pO,show j<12 by omega,show ¬ (j+1≤j) by omega],by simp [World.frozen?,h1],af h1⟩
     have avi:(j:Int)<12:=by omega
     have hend:=vB.store (by omega);rw [mh] at hend;have bG:=ae hend;clear hend vB
     go_wp2_with fail
     go_roundw
     case rel=>exact ⟨j,pre,m,r,rfl,by omega,e,rfl,Nat.le_of_lt zT,bG.out⟩
     case measure=>simp [intOf]
    ·have Cq:bb=true:=by rw [←cZ];simpa using hc
     clear hc cZ;subst Cq;have UN:=HW.out.1.grow hg3';obtain ⟨t4,lm⟩:=UN.tail SA.out;obtain ⟨tl,la⟩:=UN.link He2.out zT;have aez:bV j (r++fk X ns)=au n.blk:=UM.out;rw [aez] at tl;have Hw3:=ae vB;clear vB UN hg3 hg3' aez
     go_wp2_with fail
     go_roundw
     case rel=>exact ⟨pre++m::r1,n,r2,by rw [e,hr];simp,rfl,hjn,Hw3.out⟩
     case measure=>
      rw [Oj zP.out e,Oj zP.out (show L=(pre++m::r1)++n::r2 by rw [e,hr];simp)];rw [hr];simp;omega
end Go.Proofs.YtoolkdapflaeeaaGreatDoor
