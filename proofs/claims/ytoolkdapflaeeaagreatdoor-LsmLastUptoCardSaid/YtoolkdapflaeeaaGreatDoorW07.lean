/- Helpers. -/
import Derived.Test.YtoolkdapflaeeaaGreatDoorW06
import Derived.Test.YtoolkdapflaeeaaGreatDoorW05
import Derived.Test.YtoolkdapflaeeaaGreatDoorW04
import Derived.Test.YtoolkdapflaeeaaGreatDoorW00
set_option maxRecDepth 100000
set_option maxHeartbeats 16000000
namespace Go.Proofs.YtoolkdapflaeeaaGreatDoor.Mn
open Go.RowKit Go.Gl
structure bu where
 tabs:List Tb
 seq:Int
 next:Int
 aj:Int
structure cr where
 add:List Tb
 drop:List Int
 seq:Int
 next:Int
 aj:Int
def cd:bu:=⟨[],0,0,0⟩
def qz (l:List Tb):List Int→List Int→Bool
 |_,[]=>false
 |pre,n::r=>(!ou l n||pre.contains n)||qz l (pre++ [n]) r
def ik (l:List Tb) (t:Tb):Bool:=
 decide (t.file<0)||(ou l t.file||(decide (t.level<0)||(decide (6<t.level)||(!(Op.bytesLess t.first.toList t.last.toList||t.first.toList==t.last.toList)||(decide (t.size<0)||(decide (1099511627776<t.file)||decide (1099511627776<t.size)))))))
def kz:List Tb→List Tb→Option (List Tb)
 |l,[]=>some l
 |l,t::r=>if ik l t=true then none else kz (l++ [t]) r
def qA (v:bu) (e:cr):Bool:=
 ((e.seq != 0)&&decide (e.seq<v.seq))||(((e.next != 0)&&decide (e.next<v.next))||(((e.aj != 0)&&decide (e.aj<v.aj))||(decide (1099511627776<e.next)||decide (1099511627776<e.aj))))
def aV (v:bu) (e:cr):Int×bu:=
 if qz v.tabs [] e.drop=true then (4,cd) else
 match kz (v.tabs.filter (gK e.drop)) e.add with
 |none=>(1,cd)
 |some l=>
  if 65536<(jq l).length then (1,cd) else
  if ky (jq l)=true then (15,cd) else
  if qA v e=true then (1,cd) else
  (0,⟨jq l,cJ e.seq v.seq,cJ e.next v.next,cJ e.aj v.aj⟩)
def rV (w:World) (v:Value) (l:List Tb):Prop:=
 ∃ a c,v= .slice a l.length c∧(l= []∨∃ b o,a=some ⟨b,o,none⟩∧b<w.heap.size∧Rd w b o ig 5 l)
theorem rV.grow {w w':World} {v:Value} {l:List Tb} (h:rV w v l) (hg:Grow w w'):rV w' v l:=by
 obtain ⟨a,c,hv,h⟩:=h;refine ⟨a,c,hv,?_⟩;rcases h with h|⟨b,o,ha,hb,hr⟩
 ·exact .inl h
 ·exact .inr ⟨b,o,ha,cj hb hg.size,hr.grow hb hg⟩
def abD (w:World) (r:Int×bu) (e:Ending) (w':World):Prop:=
 ∃ v',e= .returned (.tuple #[.agg (bz v' r.2.seq r.2.next r.2.aj),.int .i64 r.1])∧Own w.heap.size w' v' r.2.tabs∧Grow w w'
abbrev cV (av dv:Value) (s n wl:Int):Array Value:=#[av,dv,.int .u64 s,.int .i64 n,.int .i64 wl]
structure mq (w wr:World) (cv:Value) (s n wl:Int) (av dv:Value) (es en ew:Int):Prop where
 vb:wr.heap[w.heap.size]?=some (.cells (bz cv s n wl) 85 (0,0))
 eb:wr.heap[w.heap.size+1]?=some (.cells (cV av dv es en ew) 148 (0,0))
 rb:wr.heap[w.heap.size+1+1]?=some (.cells (bz (.slice none 0 0) 0 0 0) 85 (0,0))
 gr:Grow w wr
theorem mq.grow {w wr wr':World} {cv:Value} {s n wl:Int} {av dv:Value} {es en ew:Int} (h:mq w wr cv s n wl av dv es en ew) (hg:Grow wr wr'):mq w wr' cv s n wl av dv es en ew:=
 ⟨hg.heap h.vb,hg.heap h.eb,hg.heap h.rb,h.gr.trans hg⟩
theorem mq.start (w:World) (cv:Value) (s n wl:Int) (av dv:Value) (es en ew:Int):mq w (((w.alloc (.cells (bz cv s n wl) 85)).alloc (.cells (cV av dv es en ew) 148)).alloc (.cells (bz (.slice none 0 0) 0 0 0) 85)) cv s n wl av dv es en ew:=by
 refine ⟨?_,?_,?_,by (repeat (first|exact Below.refl _ _|assumption|refine Below.drew ?_|refine cp ?_|refine Below.setCell ?_ (by first|omega|(simp<;>omega)) _|refine Below.alloc ?_ (by first|omega|(simp<;>omega)) _))⟩
 ·rw [heap_alloc_old _ _ (by simp;omega),heap_alloc_old _ _ (by simp)];exact aw _ _
 ·rw [heap_alloc_old _ _ (by simp)]
  have:=aw (w.alloc (.cells (bz cv s n wl) 85)) (.cells (cV av dv es en ew) 148);simpa using this
 ·have:=aw ((w.alloc (.cells (bz cv s n wl) 85)).alloc (.cells (cV av dv es en ew) 148)) (.cells (bz (.slice none 0 0) 0 0 0) 85)
  simpa using this
theorem mq.below {w w1 w2:World} {B:Nat} {cv:Value} {s n wl:Int} {av dv:Value} {es en ew:Int} (h:mq w w1 cv s n wl av dv es en ew) (hb:Below B w1 w2) (hB:w.heap.size+1+1<B):mq w w2 cv s n wl av dv es en ew:=
 ⟨by rw [hb.block _ (by omega)];exact h.vb,by rw [hb.block _ (by omega)];exact h.eb,by rw [hb.block _ hB];exact h.rb,Below.trans h.gr (hb.mono (by omega))⟩
theorem mq.grown {w w1 w2:World} {r:Option Nat} {B:Nat} {cv:Value} {s n wl:Int} {av dv:Value} {es en ew:Int} (h:mq w w1 cv s n wl av dv es en ew) (hg:w1.grownBy w2 r) (hr:∀ k,r=some k→B≤k) (hB:w.heap.size+1+1<B):mq w w2 cv s n wl av dv es en ew:=by
 have l1:=af h.vb;have l2:=af h.eb;have l3:=af h.rb;have hne:∀ k,k<B→some k≠r:=fun k hk e=>by have:=hr k e.symm;omega
 exact ⟨by rw [hg.block _ l1 (hne _ (by omega))];exact h.vb,by rw [hg.block _ l2 (hne _ (by omega))];exact h.eb,by rw [hg.block _ l3 (hne _ hB)];exact h.rb,h.gr.grown hg h.gr.size (fun k hk=>by have:=hr k hk;omega)⟩
theorem mq.SG {w wr:World} {cv:Value} {s n wl:Int} {av dv:Value} {es en ew:Int} (h:mq w wr cv s n wl av dv es en ew) (Tl:Value):mq w (wr.setCell ⟨w.heap.size,0,none⟩ Tl) Tl s n wl av dv es en ew:=
 ⟨aI h.vb 0 Tl,(aK _ _ _ _ (by show w.heap.size+1≠w.heap.size;omega)).trans h.eb,(aK _ _ _ _ (by show w.heap.size+1+1≠w.heap.size;omega)).trans h.rb,h.gr.setCell (ay _) _⟩
def abE (w:World) (B1:Nat) (V:bu) (E:cr) (av dv:Value) (iv:Value) (wr:World):Prop:=
 ∃ (i:Nat) (cv:Value) (cur:List Tb),iv= .int .i64 i∧i≤E.add.length∧mq w wr cv V.seq V.next V.aj av dv E.seq E.next E.aj∧Own B1 wr cv cur∧kz (V.tabs.filter (gK E.drop)) E.add=kz cur (E.add.drop i)∧cur.length≤10000+i∧B1≤wr.heap.size
theorem arx {l:List Tb} {add:List Tb} {i:Nat} {t:Tb} (h:add[i]?=some t):kz l (add.drop i)=if ik l t=true then none else kz (l++ [t]) (add.drop (i+1)):=by
 obtain ⟨hi,rfl⟩:=dQ.1 h;rw [List.drop_eq_getElem_cons hi,kz]
def ary (W0:World) (l:List Tb) (drop:List Int) (iv:Value) (wr:World):Prop:=
 ∃ i:Nat,iv= .int .i64 i∧i≤drop.length∧qz l [] drop=qz l (drop.take i) (drop.drop i)∧Grow W0 wr
theorem arz {l:List Tb} {drop:List Int} {i:Nat} {n:Int} (h:drop[i]?=some n):qz l (drop.take i) (drop.drop i)=((!ou l n||(drop.take i).contains n)||qz l (drop.take (i+1)) (drop.drop (i+1))):=by
 obtain ⟨hi,rfl⟩:=dQ.1 h;rw [List.drop_eq_getElem_cons hi,qz,BK (List.getElem?_eq_getElem hi)]
theorem arA {w:World} {t:Array Value} {rb:Nat} {x0 x1 x2 x3:Value} {c:Int} (h4:t.getD 4 undef= .pointer (some ⟨rb,0,none⟩)) (h5:t.getD 5 undef= .int .i64 c) (hW:w.heap[rb]?=some (.cells #[x0,x1,x2,x3] 85 (0,0))):
  (results Tryz.f161 t).run Tryz.prog w= .ok (.tuple #[.agg #[x0,x1,x2,x3],.int .i64 c]) w:=by
 obtain ⟨k0,k1,k2,k3⟩:=bZ hW;simp only [fI] at h4 h5;simp [results,Tryz.results161,go_sem,h4,h5,k0,k1,k2,k3]
theorem abF {w:World} {t:Array Value} {rb:Nat} {x0 x1 x2 x3:Value} {c:Int} (h4:t.getD 4 undef= .pointer (some ⟨rb,0,none⟩)) (h5:t.getD 5 undef= .int .i64 c) (hW:w.heap[rb]?=some (.cells #[x0,x1,x2,x3] 85 (0,0))):
  (results Tryz.f110 t).run Tryz.prog w= .ok (.tuple #[.agg #[x0,x1,x2,x3],.int .i64 c]) w:=by
 obtain ⟨k0,k1,k2,k3⟩:=bZ hW;simp only [fI] at h4 h5;simp [results,Tryz.results110,go_sem,h4,h5,k0,k1,k2,k3]
structure arB (w:World) (tv:Value) (V:bu) (av dv:Value) (E:cr):Prop where
 own:Own 0 w tv V.tabs
 len:V.tabs.length≤10000
 adds:rV w av E.add
 MR:E.add.length≤10000
 drops:Ints w dv E.drop
 MS:E.drop.length≤10000
def abG:Prop:=∀ (w:World) (tv:Value) (V:bu) (av dv:Value) (E:cr),arB w tv V av dv E→
 Calls Tryz.prog 161 #[.agg (bz tv V.seq V.next V.aj),.agg (cV av dv E.seq E.next E.aj)] w (abD w (aV V E))
def eZ:bu→List cr→Int×bu
 |v,[]=>(0,v)
 |v,e::r=>if (aV v e).1=0 then eZ (aV v e).2 r else ((aV v e).1,cd)
structure IP (w:World) (b o:Nat) (av dv:Value) (e:cr):Prop where
 c0:w.cell? ⟨b,o,none⟩=some av
 c1:w.cell? ⟨b,o+1,none⟩=some dv
 c2:w.cell? ⟨b,o+2,none⟩=some (.int .u64 e.seq)
 c3:w.cell? ⟨b,o+3,none⟩=some (.int .i64 e.next)
 c4:w.cell? ⟨b,o+4,none⟩=some (.int .i64 e.aj)
 adds:rV w av e.add
 drops:Ints w dv e.drop
theorem IP.grow {w w':World} {b o:Nat} {av dv:Value} {e:cr} (h:IP w b o av dv e) (hb:b<w.heap.size) (hg:Grow w w'):IP w' b o av dv e:=by
 have hc:∀ i,w'.cell? ⟨b,i,none⟩=w.cell? ⟨b,i,none⟩:=fun i=>Grow.cells _ _ _ hg hb
 exact ⟨by rw [hc];exact h.c0,by rw [hc];exact h.c1,by rw [hc];exact h.c2,by rw [hc];exact h.c3,by rw [hc];exact h.c4,h.adds.grow hg,h.drops.grow hg⟩
def abH (w:World) (v:Value) (es:List cr):Prop:=
 ∃ a c,v= .slice a es.length c∧(es= []∨∃ b o,a=some ⟨b,o,none⟩∧b<w.heap.size∧∀ (i:Nat) (e:cr),es[i]?=some e→∃ av dv,IP w b (o+i*5) av dv e)
theorem abI:∀ {r l l':List Tb},kz l r=some l'→l'.length=l.length+r.length
 | [],l,l',h=>by simp [kz] at h;subst h;simp
 |t::r,l,l',h=>by
  unfold kz at h
  split at h
  ·cases h
  ·have:=abI h;simp at this ⊢;omega
theorem abJ (v:bu) (e:cr):(aV v e).2.tabs.length≤v.tabs.length+e.add.length:=by
 unfold aV;split
 ·simp [cd]
 ·split
  ·simp [cd]
  ·rename_i l hl
   have h1:=abI hl;have h2:(v.tabs.filter (gK e.drop)).length≤v.tabs.length:=List.length_filter_le _ _;have h3:=(zb l).length_eq;split
   ·simp [cd]
   ·split
    ·simp [cd]
    ·split
     ·simp [cd]
     ·dsimp only;omega
def Tm (w:World) (V:bu) (es:List cr) (iv:Value) (wr:World):Prop:=
 ∃ (i:Nat) (cv:Value) (V':bu),iv= .int .i64 i∧i≤es.length∧wr.heap[w.heap.size]?=some (.cells (bz cv V'.seq V'.next V'.aj) 85 (0,0))∧wr.heap[w.heap.size+1]?=some (.cells (bz (.slice none 0 0) 0 0 0) 85 (0,0))∧
  Own w.heap.size wr cv V'.tabs∧eZ V es=eZ V' (es.drop i)∧V'.tabs.length≤V.tabs.length+5000*i∧Grow w wr
theorem zh {w:World} {b:Nat} {x0 x1 x2 x3:Value} (h:w.heap[b]?=some (.cells #[x0,x1,x2,x3] 85 (0,0))) (y0 y1 y2 y3:Value):
  ((((w.setCell ⟨b,0,none⟩ y0).setCell ⟨b,1,none⟩ y1).setCell ⟨b,2,none⟩ y2).setCell ⟨b,3,none⟩ y3).heap[b]?=some (.cells #[y0,y1,y2,y3] 85 (0,0)):=
 aI (aI (aI (aI h 0 y0) 1 y1) 2 y2) 3 y3
theorem Et {w:World} {b c:Nat} (h:c≠b) (y0 y1 y2 y3:Value):
  ((((w.setCell ⟨b,0,none⟩ y0).setCell ⟨b,1,none⟩ y1).setCell ⟨b,2,none⟩ y2).setCell ⟨b,3,none⟩ y3).heap[c]?=w.heap[c]?:=by
 rw [aK _ _ _ _ h,aK _ _ _ _ h,aK _ _ _ _ h,aK _ _ _ _ h]
theorem BN {B:Nat} {w:World} {v:Value} {l:List Tb} {b:Nat} {x0 x1 x2 x3:Value} (ho:Own B w v l) (h:w.heap[b]?=some (.cells #[x0,x1,x2,x3] 85 (0,0))) (y0 y1 y2 y3:Value):
  Own B ((((w.setCell ⟨b,0,none⟩ y0).setCell ⟨b,1,none⟩ y1).setCell ⟨b,2,none⟩ y2).setCell ⟨b,3,none⟩ y3) v l:=
 pA (pA (pA (pA ho h (by decide)) (aI h 0 y0) (by decide)) (aI (aI h 0 y0) 1 y1) (by decide)) (aI (aI (aI h 0 y0) 1 y1) 2 y2) (by decide)
theorem uU {B:Nat} {a w:World} (h:Below B a w) {b:Nat} (hb:B≤b) (y0 y1 y2 y3:Value):
  Below B a ((((w.setCell ⟨b,0,none⟩ y0).setCell ⟨b,1,none⟩ y1).setCell ⟨b,2,none⟩ y2).setCell ⟨b,3,none⟩ y3):=
 (((h.setCell hb _).setCell hb _).setCell hb _).setCell hb _
theorem abK (hA:abG) {B:Nat} {w:World} {tv:Value} {V:bu} (hown:Own B w tv V.tabs) (hVl:V.tabs.length≤5000) {ev:Value} {es:List cr} (he:abH w ev es) (uV:es.length≤1) (zi:∀ e∈es,e.add.length≤5000∧e.drop.length≤10000):
  Calls Tryz.prog 110 #[.agg (bz tv V.seq V.next V.aj),ev] w (abD w (eZ V es)):=by
 have hg0:Grow w ((w.alloc (.cells (bz tv V.seq V.next V.aj) 85)).alloc (.cells (bz (.slice none 0 0) 0 0 0) 85)):=by (repeat (first|exact Below.refl _ _|assumption|refine Below.drew ?_|refine cp ?_|refine Below.setCell ?_ (by first|omega|(simp<;>omega)) _|refine Below.alloc ?_ (by first|omega|(simp<;>omega)) _))
 have hb1:((w.alloc (.cells (bz tv V.seq V.next V.aj) 85)).alloc (.cells (bz (.slice none 0 0) 0 0 0) 85)).heap[w.heap.size]?=some (.cells (bz tv V.seq V.next V.aj) 85 (0,0)):=(heap_alloc_old _ _ (by simp)).trans (aw _ _);have hb2:((w.alloc (.cells (bz tv V.seq V.next V.aj) 85)).alloc (.cells (bz (.slice none 0 0) 0 0 0) 85)).heap[w.heap.size+1]?=some (.cells (bz (.slice none 0 0) 0 0 0) 85 (0,0)):=by
  have:=aw (w.alloc (.cells (bz tv V.seq V.next V.aj) 85)) (.cells (bz (.slice none 0 0) 0 0 0) 85);simpa using this
 have hap:=abC (ek hown hg0) (by omega) V.seq V.next V.aj;obtain ⟨ta,tc,rfl⟩:=iV hown;obtain ⟨ea,ec,rfl,her⟩:=he;obtain ⟨c0,c1,c2,c3⟩:=bZ hb1;have l1:=af hb1;have l2:=af hb2;have eG:=ae hap;have uT:=ae hb1;have pB:=ae hb2;have BJ:=ae hg0;have Her:=ae her;have HA:=ae hA;have zj:=ae zi;clear hap hb1 hb2 hg0 her hA zi hown;go_enter Tryz.func110,Tryz.ntmps110
 go_wp2_with fail
 generalize (w.alloc (.cells (bz (.slice ta V.tabs.length tc) V.seq V.next V.aj) 85)).alloc (.cells (bz (.slice none 0 0) 0 0 0) 85)=W1 at*;(with_reducible refine eG.out.mono ?_);rintro e w2 ⟨cv,rfl,eU,hg2⟩;have k1:=hg2.heap uT.out;have k2:=hg2.heap pB.out;have hst:Tm w V es (.int .i64 0) ((((w2.setCell ⟨w.heap.size,0,none⟩ cv).setCell ⟨w.heap.size,1,none⟩ (.int .u64 V.seq)).setCell ⟨w.heap.size,2,none⟩ (.int .i64 V.next)).setCell ⟨w.heap.size,3,none⟩ (.int .i64 V.aj)):=
  ⟨0,cv,V,rfl,bk _,zh k1 _ _ _ _,(Et (by omega) _ _ _ _).trans k2,BN (qx eU BJ.out.size) k1 _ _ _ _,rfl,by omega,uU (BJ.out.trans hg2) (ay _) _ _ _ _⟩
 clear c0 c1 c2 c3;obtain ⟨c0,c1,c2,c3⟩:=bZ k1;have f0:∀ i,w2.frozen? ⟨w.heap.size,i,none⟩=false:=fun i=>by simp [World.frozen?,k1]
 have l3:=af k1;obtain ⟨xa,xc,rfl⟩:=iV eU;have bI:=ae hst;clear k1 k2 hst eU hg2
 go_wp2_with fail
 go_loopw [13] (fun iv wr=>Tm w V es iv wr) (fun iv _=>es.length-(intOf iv).toNat)
 case atStart=>exact bI.out
 case round=>
  obtain ⟨i,cv,V',rfl,hi,iO,ep,hown,hall,hlen,hg⟩:=hrel;by_cases hlt:i<es.length
  ·obtain ⟨x,hx⟩:∃ x,es[i]?=some x:=⟨es[i],by simp [hlt]⟩
   obtain ⟨b,o,rfl,hbl,hed⟩:∃ b o,ea=some ⟨b,o,none⟩∧b<w.heap.size∧∀ (i:Nat) (e:cr),es[i]?=some e→∃ av dv,IP w b (o+i*5) av dv e:=by
    rcases Her.out with h1|h1
    ·rw [h1] at hlt;simp at hlt
    ·exact h1
   obtain ⟨av,dv,MT⟩:=hed i x hx;have hat:=MT.grow hbl hg;obtain ⟨hxa,hxd⟩:=zj.out x (dY hx);have hstep:eZ V' (es.drop i)=if (aV V' x).1=0 then eZ (aV V' x).2 (es.drop (i+1)) else ((aV V' x).1,cd):=by
    obtain ⟨hi',rfl⟩:=dQ.1 hx;rw [List.drop_eq_getElem_cons hi',eZ]
   have qj:=abJ V' x;obtain ⟨aa,ac,rfl,_⟩:=hat.adds;obtain ⟨da,dc,rfl,_,_⟩:=hat.drops;obtain ⟨p0,p1,p2,p3,p4,_,_⟩:=hat;have ai:Grow wr (wr.alloc (.cells (cV (.slice aa x.add.length ac) (.slice da x.drop.length dc) x.seq x.next x.aj) 148)):=Grow.alloc _ _;have fD:=HA.out (wr.alloc (.cells (cV (.slice aa x.add.length ac) (.slice da x.drop.length dc) x.seq x.next x.aj) 148)) cv V' (.slice aa x.add.length ac) (.slice da x.drop.length dc) x ⟨qx (ek hown ai) (bk _),by omega,(MT.adds.grow hg).grow ai,by omega,(MT.drops.grow hg).grow ai,by omega⟩;obtain ⟨va,vc,rfl⟩:=iV hown;clear c0 c1 c2 c3;obtain ⟨c0,c1,c2,c3⟩:=bZ iO;have lv:=af iO;have lr:=af ep;have lb:b<wr.heap.size:=cj hbl hg.size;have dJ:(i:Int)<(es.length:Int):=by omega
   have bK:(0:Int)≤(i:Int):=by omega
   have jP:=ae fD;have iM:=ae hstep;have eX:=ae hall;have MU:=ae iO;have kA:=ae ep;have bT:=ae ai;have Hg:=ae hg;clear fD hstep hall iO ep ai hg MT hed hown hx;generalize aV V' x=r at*
   go_wp2_with fail
   (with_reducible refine jP.out.mono ?_);rintro e w5 ⟨v5,rfl,fE,aO⟩;have k1:=aO.heap (bT.out.heap MU.out);have k2:=aO.heap (bT.out.heap kA.out);have MV:=(Hg.out.trans bT.out).trans aO;clear c0 c1 c2 c3;obtain ⟨c0,c1,c2,c3⟩:=bZ k1;obtain ⟨d0,d1,d2,d3⟩:=bZ k2;have g0:∀ i,w5.frozen? ⟨w.heap.size,i,none⟩=false:=fun i=>by simp [World.frozen?,k1]
   have g1:∀ i,w5.frozen? ⟨w.heap.size+1,i,none⟩=false:=fun i=>by simp [World.frozen?,k2]
   have l5:=af k1;have l6:=af k2;obtain ⟨rc,rv⟩:=r;dsimp only at fE qj iM;have wR:w.heap.size≤(wr.alloc (.cells (cV (.slice aa x.add.length ac) (.slice da x.drop.length dc) x.seq x.next x.aj) 148)).heap.size:=(Hg.out.trans bT.out).size;by_cases qB:rc=0
   ·subst qB
    have bq:Hid (Tm w V es (.int .i64 ((i+1:Nat):Int)) ((((w5.setCell ⟨w.heap.size,0,none⟩ v5).setCell ⟨w.heap.size,1,none⟩ (.int .u64 rv.seq)).setCell ⟨w.heap.size,2,none⟩ (.int .i64 rv.next)).setCell ⟨w.heap.size,3,none⟩ (.int .i64 rv.aj))):=ae
     ⟨i+1,v5,rv,rfl,hlt,zh k1 _ _ _ _,(Et (by omega) _ _ _ _).trans k2,BN (qx fE wR) k1 _ _ _ _,by rw [eX.out,iM.out,if_pos rfl],by omega,uU MV (ay _) _ _ _ _⟩
    obtain ⟨ya,yc,rfl⟩:=iV fE;clear fE aO MV k1 k2 g1 wR;go_wp2;go_roundw
    case rel=>exact bq.out
    case measure=>simp [intOf];omega
   ·have ct:Hid (eZ V es=(rc,cd)):=ae (by rw [eX.out,iM.out,if_neg qB])
    have ep:(rc != 0)=true:=by simpa using qB
    have zl:(rc==0)=false:=by simpa using qB
    have arD:=ae MV;have Hk2:=ae k2;obtain ⟨ya,yc,rfl⟩:=iV fE;clear fE aO MV k1 k2 wR qB;go_wp2;refine bodyPost_ret (abF (x0:= .slice none 0 0) (x1:= .int .u64 0) (x2:= .int .i64 0) (x3:= .int .i64 0) (c:=rc) rfl rfl (zh ((Et (by omega) _ _ _ _).trans Hk2.out) _ _ _ _)) rfl ?_;rw [ct.out];exact ⟨_,rfl,World.ownsRow_nil _ _ _ _,uU (uU arD.out (ay _) _ _ _ _) (by omega) _ _ _ _⟩
  ·obtain rfl:i=es.length:=by omega
   rw [List.drop_length] at hall;have ct:Hid (eZ V es=(0,V')):=ae hall;have cS:Hid (Own w.heap.size ((((wr.setCell ⟨w.heap.size+1,0,none⟩ cv).setCell ⟨w.heap.size+1,1,none⟩ (.int .u64 V'.seq)).setCell ⟨w.heap.size+1,2,none⟩ (.int .i64 V'.next)).setCell ⟨w.heap.size+1,3,none⟩ (.int .i64 V'.aj)) cv V'.tabs):=ae (BN hown ep _ _ _ _);obtain ⟨va,vc,rfl⟩:=iV hown;clear c0 c1 c2 c3;obtain ⟨c0,c1,c2,c3⟩:=bZ iO;obtain ⟨d0,d1,d2,d3⟩:=bZ ep;have g1:∀ i,wr.frozen? ⟨w.heap.size+1,i,none⟩=false:=fun i=>by simp [World.frozen?,ep]
   have l5:=af iO;have l6:=af ep;have Hg:=ae hg;have kA:=ae ep;clear hall iO ep hown hg f0;go_wp2;refine bodyPost_ret (abF (c:=0) rfl rfl (zh kA.out _ _ _ _)) rfl (by
    rw [ct.out];exact ⟨_,rfl,cS.out,uU Hg.out (by omega) _ _ _ _⟩)
end Go.Proofs.YtoolkdapflaeeaaGreatDoor.Mn
namespace Go.Proofs.YtoolkdapflaeeaaGreatDoor
open Go.RowKit Go.Gl Go.aH Mn
theorem abN:∀ (k n i v:Nat) (r:List UInt8),n<128^k→i+k≤10→0<k→(i=0∨0<n)→n*128^i<18446744073709551616→
  kP i v (gB k n++r)=(v+n*128^i,i+(gB k n).length,0)
 |0,n,i,v,r,hn,hik,hk,_,_=>by omega
 |k+1,n,i,v,r,hn,hik,hk,h0,Tn=>by
  unfold gB;by_cases h:n<128
  ·rw [if_pos h]
   simp only [List.cons_append,List.nil_append,kP];have e:(UInt8.ofNat n).toNat=n:=by rw [UInt8.toNat_ofNat_of_lt' (by simp [UInt8.size];omega)]
   have h9:¬ (i=9∧1<n):=by
    rintro ⟨rfl,h1⟩;have:(128:Nat)^9=9223372036854775808:=by decide
    rw [this] at Tn;omega
   rw [e,if_neg h9,if_pos h,if_neg (by omega)];simp
  ·rw [if_neg h]
   have e:(UInt8.ofNat (n%128+128)).toNat=n%128+128:=by rw [UInt8.toNat_ofNat_of_lt' (by simp [UInt8.size];omega)]
   simp only [List.cons_append,kP];have h9:i≠9:=by
    rintro rfl;have:(128:Nat)^9=9223372036854775808:=by decide
    rw [this] at Tn;omega
   rw [e,if_neg (by omega),if_neg (by omega)];have kR:0<k:=by
    rcases Nat.eq_zero_or_pos k with rfl|h1
    ·simp at hn;omega
    ·exact h1
   have hlt:n / 128<128^k:=by rw [Nat.pow_succ] at hn;exact Nat.div_lt_of_lt_mul (by rw [Nat.mul_comm];exact hn)
   have arF:n / 128*128^(i+1)<18446744073709551616:=by
    refine Nat.lt_of_le_of_lt ?_ Tn;rw [Nat.pow_succ,Nat.mul_comm (128^i) 128,←Nat.mul_assoc];exact Nat.mul_le_mul_right _ (Nat.div_mul_le_self n 128)
   rw [abN k (n / 128) (i+1) _ r hlt (by omega) kR (.inr (by omega)) arF];refine Prod.ext ?_ (Prod.ext ?_ rfl)
   ·show v+(n%128+128-128)*128^i+n / 128*128^(i+1)=v+n*128^i
    rw [Nat.add_sub_cancel,Nat.pow_succ,Nat.add_assoc];congr 1;have:n=n%128+128*(n / 128):=(Nat.mod_add_div n 128).symm
    conv=>rhs;rw [this]
    rw [Nat.add_mul];congr 1;rw [Nat.mul_comm (128^i) 128,←Nat.mul_assoc,Nat.mul_comm (n / 128) 128]
   ·simp;omega
theorem MW {n:Nat} (h:n<18446744073709551616) (r:List UInt8):ed (aA n++r)=(n,(aA n).length,0):=by
 have:=abN 10 n 0 0 r (cj h (by decide)) (by decide) (by decide) (.inl rfl) (by simpa using h);unfold ed aA;rw [this];simp
theorem cf (n:Nat):(aA n).length≤10:=GP 10 n
def il (t:Tb):List UInt8:=aA t.file.toNat++(aA t.level.toNat++(aU t.first.data.toList++(aU t.last.data.toList++aA t.size.toNat)))
def jQ (n:Int):List UInt8:=aA n.toNat
def cP (e:cr):List UInt8:=
 aA e.add.length++(e.add.flatMap il++(aA e.drop.length++(e.drop.flatMap jQ++(aA e.seq.toNat++(aA e.next.toNat++aA e.aj.toNat)))))
def lA (n:Int):Prop:=0≤n∧n≤1099511627776
structure Tp (t:Tb):Prop where
 file:lA t.file
 level:lA t.level
 first:t.first.size≤67108864
 last:t.last.size≤67108864
 size:lA t.size
structure zm (e:cr):Prop where
 adds:∀ t∈e.add,Tp t
 MR:e.add.length≤65536
 drops:∀ n∈e.drop,lA n
 MS:e.drop.length≤65536
 seq:0≤e.seq∧e.seq<18446744073709551616
 next:lA e.next
 aj:lA e.aj
def iC (l:List Tb):Nat:=(l.map fun t=>t.first.size+t.last.size).sum
theorem arG (t:Tb):(il t).length≤50+(t.first.size+t.last.size):=by
 have h1:=cf t.file.toNat;have h2:=cf t.level.toNat;have h3:=cf t.first.data.toList.length;have h4:=cf t.last.data.toList.length;have h5:=cf t.size.toNat;have e1:t.first.data.toList.length=t.first.size:=by rw [Array.length_toList];rfl
 have e2:t.last.data.toList.length=t.last.size:=by rw [Array.length_toList];rfl
 simp only [il,aU,List.length_append] at*;omega
theorem MX:∀ l:List Tb,(l.flatMap il).length≤50*l.length+iC l
 | []=>by simp [iC]
 |t::l=>by
  have h1:=arG t;have h2:=MX l;simp only [List.flatMap_cons,List.length_append,List.length_cons,iC,List.map_cons,List.sum_cons] at*;omega
theorem Tq:∀ l:List Int,(l.flatMap jQ).length≤10*l.length
 | []=>by simp
 |n::l=>by
  have h1:=cf n.toNat;have h2:=Tq l;simp only [List.flatMap_cons,List.length_append,List.length_cons,jQ] at*;omega
theorem abO (e:cr):(cP e).length≤50+50*e.add.length+iC e.add+10*e.drop.length:=by
 have h1:=cf e.add.length;have h2:=MX e.add;have h3:=cf e.drop.length;have h4:=Tq e.drop;have h5:=cf e.seq.toNat;have h6:=cf e.next.toNat;have h7:=cf e.aj.toNat;simp only [cP,List.length_append] at*;omega
theorem arH (a b:List Tb):iC (a++b)=iC a+iC b:=by simp [iC]
theorem arI (l:List Tb) (i:Nat):iC (l.take i)≤iC l:=by
 have h:=arH (l.take i) (l.drop i);rw [List.take_append_drop] at h;omega
theorem abP {l:List Tb} {t:Tb} (h:t∈l):t.first.size+t.last.size≤iC l:=by
 induction l with
 |nil=>cases h
 |cons u l ih=>
  have e:iC (u::l)=u.first.size+u.last.size+iC l:=by simp [iC]
  rcases List.mem_cons.1 h with rfl|h
  ·omega
  ·have:=ih h;omega
end Go.Proofs.YtoolkdapflaeeaaGreatDoor
namespace Go.Proofs.YtoolkdapflaeeaaGreatDoor.Mn
open Go.RowKit Go.Gl
def pC (l:List Tb):Prop:=(l.map Tb.file).Nodup
theorem Ts:∀ {r l l':List Tb},pC l→kz l r=some l'→pC l'
 | [],l,l',h,he=>by simp [kz] at he;subst he;exact h
 |t::r,l,l',h,he=>by
  unfold kz at he
  split at he
  ·cases he
  ·rename_i hb
   refine Ts ?_ he;have hf:ou l t.file=false:=by
    cases hh:ou l t.file with
    |false=>rfl
    |true=>exact absurd (by simp only [ik,hh,Bool.true_or,Bool.or_true]) hb
   unfold pC;rw [List.map_append];refine List.nodup_append.2 ⟨h,by simp,?_⟩;intro a ha b hb';simp only [List.map_cons,List.map_nil,cY] at hb';subst hb';intro e;obtain ⟨x,hx,rfl⟩:=List.mem_map.1 ha;have:ou l t.file=true:=List.any_eq_true.2 ⟨x,hx,by simpa using e⟩;rw [hf] at this;cases this
theorem arJ {v:bu} {e:cr} (h:pC v.tabs):pC (aV v e).2.tabs:=by
 have hz:pC cd.tabs:=by simp [pC,cd]
 unfold aV;split
 ·exact hz
 ·split
  ·exact hz
  ·rename_i l hl
   have h1:pC (v.tabs.filter (gK e.drop)):=h.sublist (List.filter_sublist.map _);have h2:=Ts h1 hl;split
   ·exact hz
   ·split
    ·exact hz
    ·split
     ·exact hz
     ·exact ((zb l).map Tb.file).nodup_iff.2 h2
def IQ (l:List Tb):Prop:=l.Pairwise pq
theorem arK {l:List Tb} (h:pC l):IQ (jq l):=by
 have h1:pC (jq l):=((zb l).map Tb.file).nodup_iff.2 h;have h2:=aqQ l;have h3:(jq l).Pairwise (fun x y=>x.file≠y.file):=List.pairwise_map.1 h1;refine (h2.and h3).imp fun {a b} hab=> ?_
 by_cases hl:pq a b
 ·exact hl
 ·exact absurd (abo a b hl hab.1).2.2 hab.2
theorem arL {v:bu} {e:cr} (h:pC v.tabs):IQ (aV v e).2.tabs:=by
 have hz:IQ cd.tabs:=List.Pairwise.nil;unfold aV;split
 ·exact hz
 ·split
  ·exact hz
  ·rename_i l hl
   have h1:pC (v.tabs.filter (gK e.drop)):=h.sublist (List.filter_sublist.map _);have h2:=Ts h1 hl;split
   ·exact hz
   ·split
    ·exact hz
    ·split
     ·exact hz
     ·exact arK h2
theorem arM (v:bu) (e:cr) (h:(aV v e).1≠0):(aV v e).2=cd:=by
 revert h
 unfold aV;split
 ·intro _;rfl
 ·split
  ·intro _;rfl
  ·split
   ·intro _;rfl
   ·split
    ·intro _;rfl
    ·split
     ·intro _;rfl
     ·intro h;exact absurd rfl h
theorem IU:∀ {ts:List cr} {v v':bu} {e:cr},eZ v ts=(0,v')→(aV v' e).1=0→eZ v (ts++ [e])=(0,(aV v' e).2)
 | [],v,v',e,h,he=>by
  simp only [eZ,Prod.mk.injEq,true_and] at h;subst h;simp only [List.nil_append,eZ,he,if_true]
 |t::ts,v,v',e,h,he=>by
  unfold eZ at h;by_cases ht:(aV v t).1=0
  ·rw [if_pos ht] at h
   rw [List.cons_append,eZ,if_pos ht];exact IU h he
  ·rw [if_neg ht] at h
   exact absurd (congrArg Prod.fst h) ht
theorem Tt (v:bu) (e:cr):eZ v [e]=if (aV v e).1=0 then (0,(aV v e).2) else ((aV v e).1,cd):=rfl
end Go.Proofs.YtoolkdapflaeeaaGreatDoor.Mn
namespace Go.Proofs.YtoolkdapflaeeaaGreatDoor
open Go.RowKit Go.Gl Go.aH Mn
structure MZ (t:Tb):Prop where
 file:lA t.file
 level:0≤t.level∧t.level≤6
 size:lA t.size
 keys:(Op.bytesLess t.first.toList t.last.toList||t.first.toList==t.last.toList)=true
structure Good (V:bu):Prop where
 once:pC V.tabs
 strict:IQ V.tabs
 tabs:∀ t∈V.tabs,MZ t
 len:V.tabs.length≤65536
 apart:ky V.tabs=false
 seq:0≤V.seq∧V.seq<18446744073709551616
 next:lA V.next
 aj:lA V.aj
theorem abQ:lA 0:=by unfold lA;omega
theorem arN:Good cd:=
 ⟨List.nodup_nil,List.Pairwise.nil,fun t h=>by simp [cd] at h,bk _,rfl,by decide,abQ,abQ⟩
theorem arO {l:List Tb} {t:Tb} (h:¬ ik l t=true):MZ t∧ou l t.file=false:=by
 have h':ik l t=false:=by simpa using h
 unfold ik at h';simp only [Bool.or_eq_false_iff,decide_eq_false_iff_not,Bool.not_eq_false'] at h';obtain ⟨h1,h2,h3,h4,h5,h6,h7,h8⟩:=h';exact ⟨⟨⟨by omega,by omega⟩,⟨by omega,by omega⟩,⟨by omega,by omega⟩,h5⟩,h2⟩
theorem abR:∀ {r l l':List Tb},kz l r=some l'→l'=l++r∧∀ t∈r,MZ t
 | [],l,l',h=>by simp [kz] at h;subst h;exact ⟨by simp,fun t h=>by cases h⟩
 |t::r,l,l',h=>by
  unfold kz at h
  split at h
  ·cases h
  ·rename_i hb
   obtain ⟨h1,h2⟩:=abR h;refine ⟨by rw [h1];simp,fun u hu=> ?_⟩;rcases List.mem_cons.1 hu with rfl|hu
   ·exact (arO hb).1
   ·exact h2 u hu
structure Tu (V:bu) (e:cr) (V':bu):Prop where
 drops:∀ n∈e.drop,ou V.tabs n=true
 adds:∀ t∈e.add,MZ t
 tabs:V'.tabs=jq (V.tabs.filter (gK e.drop)++e.add)
 len:V'.tabs.length≤65536
 apart:ky V'.tabs=false
 gV:qA V e=false
 seq:V'.seq=cJ e.seq V.seq
 next:V'.next=cJ e.next V.next
 aj:V'.aj=cJ e.aj V.aj
theorem abS:∀ {r pre:List Int} {l:List Tb},qz l pre r=false→∀ n∈r,ou l n=true
 | [],_,_,_,n,hn=>by cases hn
 |m::r,pre,l,h,n,hn=>by
  unfold qz at h;simp only [Bool.or_eq_false_iff,Bool.not_eq_false'] at h;rcases List.mem_cons.1 hn with rfl|hn
  ·exact h.1.1
  ·exact abS h.2 n hn
theorem BO {V:bu} {e:cr} (h:(aV V e).1=0):Tu V e (aV V e).2:=by
 revert h
 unfold aV;split
 ·intro h;cases h
 ·rename_i hd
  split
  ·intro h;cases h
  ·rename_i l hl
   obtain ⟨e1,e2⟩:=abR hl;subst e1;split
   ·intro h;cases h
   ·rename_i h65
    split
    ·intro h;cases h
    ·rename_i rU
     split
     ·intro h;cases h
     ·rename_i hn
      intro _;exact ⟨abS (by simpa using hd),e2,rfl,by simpa using h65,by simpa using rU,by simpa using hn,rfl,rfl,rfl⟩
theorem abT {x y z:Int} (h:lA y) (h1:(x != 0&&decide (x<y))=false) (h2:¬ 1099511627776<x) (hz:z=cJ x y):lA z:=by
 subst hz;unfold cJ lA at*;split
 ·exact h
 ·rename_i hx
  simp only [Bool.and_eq_false_iff,decide_eq_false_iff_not,bne_eq_false_iff_eq] at h1;rcases h1 with h1|h1
  ·exact absurd h1 hx
  ·omega
theorem abU {V:bu} {e:cr} (h:qA V e=false):(e.seq != 0&&decide (e.seq<V.seq))=false∧(e.next != 0&&decide (e.next<V.next))=false∧(e.aj != 0&&decide (e.aj<V.aj))=false∧¬ 1099511627776<e.next∧¬ 1099511627776<e.aj:=by
 unfold qA at h;simp only [Bool.or_eq_false_iff,decide_eq_false_iff_not] at h;exact ⟨h.1,h.2.1,h.2.2.1,h.2.2.2.1,h.2.2.2.2⟩
theorem arQ {V V':bu} {e:cr} (hV:Good V) (h:Tu V e V') (ho:pC V'.tabs) (hs:IQ V'.tabs) (hseq:0≤e.seq∧e.seq<18446744073709551616):Good V':=by
 obtain ⟨n1,n2,n3,n4,n5⟩:=abU h.gV;refine ⟨ho,hs,fun t ht=> ?_,h.len,h.apart,?_,abT hV.next n2 n4 h.next,abT hV.aj n3 n5 h.aj⟩
 ·rw [h.tabs] at ht
  rcases List.mem_append.1 ((zb _).mem_iff.1 ht) with h1|h1
  ·exact hV.tabs t (List.mem_filter.1 h1).1
  ·exact h.adds t h1
 ·rw [h.seq]
  unfold cJ;split
  ·exact hV.seq
  ·exact hseq
theorem abV {V:bu} {e:cr} (hV:Good V) (h:(aV V e).1=0) (hseq:0≤e.seq∧e.seq<18446744073709551616):Good (aV V e).2:=
 arQ hV (BO h) (arJ hV.once) (arL hV.once) hseq
theorem abW {x y:Int} (h:lA y) (h1:(x != 0&&decide (x<y))=false) (h2:¬ 1099511627776<x):lA x:=by
 unfold lA at*;simp only [Bool.and_eq_false_iff,decide_eq_false_iff_not,bne_eq_false_iff_eq] at h1;rcases h1 with h1|h1
 ·omega
 ·omega
theorem arR {V V':bu} {e:cr} (hV:Good V) (h:Tu V e V') (hseq:0≤e.seq∧e.seq<18446744073709551616) (np:e.add.length≤65536) (fS:e.drop.length≤65536) (hk:iC e.add≤67108864):zm e:=by
 obtain ⟨n1,n2,n3,n4,n5⟩:=abU h.gV;refine ⟨fun t ht=> ?_,np,fun n hn=> ?_,fS,hseq,abW hV.next n2 n4,abW hV.aj n3 n5⟩
 ·have ok:=h.adds t ht
  have hkm:=abP ht;exact ⟨ok.file,⟨ok.level.1,by have:=ok.level.2;omega⟩,by omega,by omega,ok.size⟩
 ·have hh:=h.drops n hn
  unfold ou at hh;obtain ⟨t,ht,Eu⟩:=List.any_eq_true.1 hh;have:=(hV.tabs t ht).file;rw [←(by simpa using Eu:t.file=n)];exact this
end Go.Proofs.YtoolkdapflaeeaaGreatDoor
namespace Go.Proofs.YtoolkdapflaeeaaGreatDoor
open Go.RowKit Go.Gl Go.aH Mn
def zn (t:TypeId):Prop:=t=125∨t=165∨t=5∨t=154
structure gU (r:Nat) (w w':World):Prop where
 os:w'.os=w.os
 tape:w'.tape=w.tape
 output:w'.output=w.output
 size:w.heap.size≤w'.heap.size
 keep:∀ (b:Nat) (arr:Array Value) (t:TypeId) (f:Nat×Nat),w.heap[b]?=some (.cells arr t f)→¬ zn t→w'.heap[b]?=some (.cells arr t f)
 maps:∀ (b:Nat) (o:Obj),w.heap[b]?=some o→(∀ arr t f,o≠ .cells arr t f)→b≠r→w'.heap[b]?=some o
theorem gU.refl (r:Nat) (w:World):gU r w w:=⟨rfl,rfl,rfl,ay _,fun _ _ _ _ h _=>h,fun _ _ h _ _=>h⟩
theorem gU.trans {r:Nat} {a b c:World} (h:gU r a b) (k:gU r b c):gU r a c:=
 ⟨k.os.trans h.os,k.tape.trans h.tape,k.output.trans h.output,aN h.size k.size,fun x arr t f hx hs=>k.keep x arr t f (h.keep x arr t f hx hs) hs,fun x o hx hc hn=>k.maps x o (h.maps x o hx hc hn) hc hn⟩
theorem gU.grow {r:Nat} {w w':World} (h:Grow w w'):gU r w w':=⟨h.os,h.tape,h.output,h.size,fun _ _ _ _ hb _=>h.heap hb,fun _ _ hb _ _=>h.heap hb⟩
theorem Dl.Tv {Z B:Nat} {w:World} {p r:Nat} {f:Lk} {T K:Nat} {F:Nat→Prop} (hd:Dl Z B w p r f T K F) {b:Nat} {o:Obj} (hb:w.heap[b]?=some o) (hc:(∀ arr t f,o≠ .cells arr t f)) (hn:b≠r):¬ F b:=by
 obtain ⟨V,⟨hZ,h0,born,fs,h,rfl,rfl⟩,_⟩:=hd;obtain ⟨c,hm,_⟩:=h.map;rintro (rfl|rfl|⟨g,hg,rfl|hr⟩)
 ·rw [h.self] at hb;cases hb;exact hc _ _ _ rfl
 ·exact hn rfl
 ·rw [(h.files g hg).cell] at hb;cases hb;exact hc _ _ _ rfl
 ·obtain ⟨cur,rX⟩:=(h.files g hg).row.block hr
  rw [rX] at hb;cases hb;exact hc _ _ _ rfl
theorem gU.sep {Z B:Nat} {w w':World} {p r:Nat} {f:Lk} {T K:Nat} {F F':Nat→Prop} (hd:Dl Z B w p r f T K F) (h:Sep F w w' F'):gU r w w':=
 ⟨h.os,h.tape,h.output,h.size,fun b arr t fz hb hs=>by
   rw [h.out b (af hb) (hd.apart hb (fun e=>hs (.inl e)) (fun e=>hs (.inr (.inl e))) (fun e=>hs (.inr (.inr (.inl e)))))];exact hb,
  fun b o hb hc hn=>by rw [h.out b (af hb) (hd.Tv hb hc hn)];exact hb⟩
theorem gU.set {r:Nat} {w:World} {sb:Nat} {cs:Array Value} {f:Nat×Nat} (hb:w.heap[sb]?=some (.cells cs 154 f)) (j:Nat) (v:Value):gU r w (w.setCell ⟨sb,j,none⟩ v):=
 ⟨rfl,rfl,rfl,by simp,fun b arr t f h hs=>by
   rw [aK _ _ _ _ (fun e=> ?_)]
   ·exact h
   ·subst e
    rw [hb] at h;cases h;exact hs (.inr (.inr (.inr rfl))),
  fun b o h hc _=>by
   rw [aK _ _ _ _ (fun e=> ?_)]
   ·exact h
   ·subst e
    rw [hb] at h;cases h;exact hc _ _ _ rfl⟩
theorem Nb {B r:Nat} {w w':World} {v:Value} {l:List Tb} (h:Own B w v l) (hh:gU r w w'):Own B w' v l:=by
 refine ⟨h.1,?_⟩;rcases h.2 with h1|⟨g,cap,cur,h1,h2,h3,h4⟩
 ·exact .inl h1
 ·exact .inr ⟨g,cap,cur,h1,h2,hh.keep _ _ _ _ h3 (by unfold zn;decide),h4⟩
abbrev setCells (p:Nat) (tv:Value) (V:bu) (n:Int):Array Value:=#[.pointer (some ⟨p,0,none⟩),tv,.int .u64 V.seq,.int .i64 V.next,.int .i64 V.aj,.int .i64 n]
def dy (w:World) (sb p:Nat) (tv:Value) (V:bu) (n:Int):Prop:=w.heap[sb]?=some (.cells (setCells p tv V n) 154 (0,0))
theorem dy.grow {w w':World} {sb p:Nat} {tv:Value} {V:bu} {n:Int} (h:dy w sb p tv V n) (hg:Grow w w'):dy w' sb p tv V n:=hg.heap h
theorem dy.sep {Z B:Nat} {w w':World} {sb p p' r:Nat} {tv:Value} {V:bu} {n:Int} {f:Lk} {T K:Nat} {F F':Nat→Prop} (h:dy w sb p tv V n) (hd:Dl Z B w p' r f T K F) (hs:Sep F w w' F'):dy w' sb p tv V n:=by
 have h':w.heap[sb]?=some (.cells (setCells p tv V n) 154 (0,0)):=h;exact (hs.out sb (af h') (hd.apart h' (by decide) (by decide) (by decide))).trans h'
theorem dy.cells {w:World} {sb p:Nat} {tv:Value} {V:bu} {n:Int} (h:dy w sb p tv V n):
  w.cell? ⟨sb,0,none⟩=some (.pointer (some ⟨p,0,none⟩))∧w.cell? ⟨sb,1,none⟩=some tv∧w.cell? ⟨sb,2,none⟩=some (.int .u64 V.seq)∧w.cell? ⟨sb,3,none⟩=some (.int .i64 V.next)∧w.cell? ⟨sb,4,none⟩=some (.int .i64 V.aj)∧w.cell? ⟨sb,5,none⟩=some (.int .i64 n)∧sb<w.heap.size:=by
 have h':w.heap[sb]?=some (.cells (setCells p tv V n) 154 (0,0)):=h;exact ⟨by simp [World.cell?,h'],by simp [World.cell?,h'],by simp [World.cell?,h'],by simp [World.cell?,h'],by simp [World.cell?,h'],by simp [World.cell?,h'],af h'⟩
variable {Z B:Nat} {w w':World} {p r:Nat} {f:Lk} {T K:Nat} {F:Nat→Prop}
def BP (Z:Nat) (n:ByteArray) (x:List UInt8) (f:Lk) (T:Nat):Bool×Lk×Nat:=
 if T-jE f n+x.length≤Z then (true,f.set n (x,x.length),T-jE f n+x.length) else (false,f.del n,T-jE f n)
def okC (b:Bool):Int:=if b then 0 else 5
theorem arS {f:Lk} {n:ByteArray} (x:List UInt8):(f.del n).add n x=f.set n (x,0):=by
 unfold Lk.add;rw [aba];exact aqn f n (x,0)
theorem abZ {sb:Nat} {tv:Value} {V:bu} {m:Int} (hS:dy w sb p tv V m) (h:Dl Z B w p r f T K F) {n:ByteArray} (hn:jC n) {bv:Value} {x:List UInt8} (hx:Bv w bv x) (ic:x.length≤1000000000000)
  (IV:∀ w' F',Sep F w w' F'→Bv w' bv x):
  Calls Tryz.prog 183 #[.pointer (some ⟨sb,0,none⟩),.string n,bv] w fun e w'=>e= .returned (.int .i64 (okC (BP Z n x f T).1))∧mZ Z B w p r F w' (BP Z n x f T).2.1 (BP Z n x f T).2.2 (K+1):=by
 obtain ⟨c0,_,_,_,_,_,lM⟩:=hS.cells;obtain ⟨xa,xc,rfl⟩:=hx.slice;have H:=ae h;have HS:=ae hS;have Hk:=ae IV;clear h hS hx IV;go_enter Tryz.func183,Tryz.ntmps183
 go_wp2_with fail
 have nr:=Grow.alloc w (.cells #[.string n] 9);(with_reducible refine (aqu (H.out.grow nr) n (aw _ _)).mono ?_);rintro e w1 ⟨⟨c,rfl⟩,F1,fR,hs1⟩;have Ew:=(Sep.bF (F:=F) nr).trans hs1;have hS1:=HS.out.sep H.out Ew;have hx1:=Hk.out _ _ Ew;obtain ⟨d0,_,_,_,_,_,ld⟩:=hS1.cells;have H1:=ae fR;have HS1:=ae hS1;have zo:=ae Ew;have Hx1:=ae hx1;clear fR hs1 Ew hS1 hx1 nr Hk c0 lM
 go_wp2_with fail
 have zq:=Grow.alloc w1 (.cells #[.slice xa x.length xc] 49);by_cases hroom:T-jE f n+x.length≤Z
 ·have hD:BP Z n x f T=(true,f.set n (x,x.length),T-jE f n+x.length):=if_pos hroom
  have HD:=ae hD;clear hD;(with_reducible refine (abg (H1.out.grow zq) hn (aw _ _) (Hx1.out.grow zq) hroom).mono ?_);rintro e w2 ⟨rfl,F2,cn,hs2⟩;rw [arS] at cn;have BQ:=(Sep.bF zq).trans hs2;have nu:=HS1.out.sep H1.out BQ;obtain ⟨k0,_,_,_,_,_,lk⟩:=nu.cells;have H2:=ae cn;have oZ:=ae (zo.out.trans BQ);clear zq hs2 cn BQ nu d0 ld
  go_wp2_with fail
  have Tw:=Grow.alloc w2 (.cells #[.string n] 9);(with_reducible refine (IJ (H2.out.grow Tw) (qw _ _ _) (aw _ _)).mono ?_);rintro e w3 ⟨rfl,F3,eV,hs3⟩;rw [ML] at eV;have bG:=ae (ah eV (oZ.out.trans ((Sep.bF Tw).trans hs3)));clear Tw hs3 eV k0 lk;go_wp2;go_ret;rw [HD.out];exact ⟨rfl,F3,bG.out.1,bG.out.2⟩
 ·have hD:BP Z n x f T=(false,f.del n,T-jE f n):=if_neg hroom
  have HD:=ae hD;clear hD;(with_reducible refine (abh (H1.out.grow zq) hn (aw _ _) (Hx1.out.grow zq) ic (by omega)).mono ?_);rintro e w2 ⟨rfl,hg2⟩;have my:=zq.trans hg2;have bG:=ae (ah (H1.out.grow my) (zo.out.trans (Sep.bF my)));clear zq hg2 my d0 ld;go_wp2;go_ret;rw [HD.out];exact ⟨rfl,F1,bG.out.1.more (by omega),bG.out.2⟩
end Go.Proofs.YtoolkdapflaeeaaGreatDoor
namespace Go.Proofs.YtoolkdapflaeeaaGreatDoor
open Go.RowKit Go.Gl Go.aH
theorem Tx {w:World} {bv:Value} {x r:List UInt8} (h:Bv w bv (aU x++r)) (hx:x.length≤67108864) (hr:r.length≤1000000000000) {m:Nat} (ow:x.length≤m) (hm:m≤2000000000000):
  Calls Tryz.prog 103 #[bv,.int .i64 (m:Int)] w fun e w'=>∃ v,e= .returned (.tuple #[v,.int .i64 (((aA x.length).length+x.length:Nat):Int),.int .i64 0])∧aG w.heap.size w' v x∧Grow w w':=by
 have eR:=GW h;have he:ed (aU x++r)=(x.length,(aA x.length).length,0):=by unfold aU;rw [List.append_assoc];exact MW (by omega) _
 rw [he] at eR;have hk:=cf x.length;have hlen:(aU x++r).length=(aA x.length).length+x.length+r.length:=by simp [aU];omega
 obtain ⟨ba,bc,rfl⟩:=h.slice;have hcut:=rA h (i:=(aA x.length).length) (j:=(aA x.length).length+x.length) (by omega) (by omega);have IW:((aU x++r).drop (aA x.length).length).take ((aA x.length).length+x.length-(aA x.length).length)=x:=by
  unfold aU;rw [List.append_assoc,List.drop_left,Nat.add_sub_cancel_left,List.take_left]
 rw [IW,Nat.add_sub_cancel_left] at hcut;have aQ:=uJ hcut (by omega);have hle:(aA x.length).length+x.length≤bc:=by obtain ⟨a',c',e',hc',_⟩:=h;cases e';omega
 rw [hlen] at eR ⊢;generalize (aA x.length).length=k at*;obtain ⟨ad,had⟩:∃ ad,(if bc=k then ba else ba.map (fun x=>x.add k))=ad:=⟨_,rfl⟩
 rw [had] at aQ;have fL:=ae aQ;have gF:=ae eR;have e1:decide ((m:Int)<(x.length:Int))=false:=by simp;omega
 have e0:(0:Int)≤(m:Int):=by omega
 have wm:IntKind.u64.wrap (m:Int)=(m:Int):=by simp [IntKind.wrap,IntKind.bits,IntKind.signed];omega
 have w1:IntKind.u64.wrap (((k+x.length+r.length:Nat):Int)-(k:Int))=((x.length+r.length:Nat):Int):=by simp [IntKind.wrap,IntKind.bits,IntKind.signed];omega
 have w2:IntKind.i64.wrap ((k:Int)+(x.length:Int))=(k:Int)+(x.length:Int):=aR _ (by omega);have w3:IntKind.i64.wrap (x.length:Int)=(x.length:Int):=aR _ (by omega);clear h eR hcut aQ he IW hlen;go_enter Tryz.func103,Tryz.ntmps103
 go_wp2_with fail
 (with_reducible refine gF.out.mono ?_);rintro e w1 ⟨rfl,bS⟩;have hw2:=bS.symm;subst hw2;clear bS gF
 go_wp2_with fail
 (with_reducible refine fL.out.mono ?_);rintro e w2 ⟨cv,rfl,ho,hg⟩;obtain ⟨ca,cc,rfl⟩:=ho.slice;go_wp2;go_ret3;exact ⟨_,by simp,ho,hg⟩
theorem arU {w:World} {bv:Value} {x r:List UInt8} (h:Bv w bv (aU x++r)) (hx:x.length≤67108864) (hr:r.length≤1000000000000):
  Calls Tryz.prog 103 #[bv,.int .i64 67108864] w fun e w'=>∃ v,e= .returned (.tuple #[v,.int .i64 (((aA x.length).length+x.length:Nat):Int),.int .i64 0])∧aG w.heap.size w' v x∧Grow w w':=
 Tx h hx hr (m:=67108864) hx (by omega)
structure jG (w0 W:World) (rb:Nat) (l:List UInt8):Prop where
 cell:∃ bv,W.heap[rb]?=some (.cells #[bv,.int .i64 0] 293 (0,0))∧Bv w0 bv l
 grow:Grow w0 W
 new:w0.heap.size≤rb
abbrev GX (g:Nat) (w w':World):Prop:=w.grownBy w' (some g)
theorem GX.of {g:Nat} {w w':World} (h:Grow w w'):GX g w w':=by
 obtain ⟨a,b,c,d,e⟩:=h;exact ⟨a,b,c,d,fun k hk _=>e k hk⟩
theorem GX.refl (g:Nat) (w:World):GX g w w:=GX.of (Grow.refl w)
theorem GX.trans {g:Nat} {a b c:World} (h:GX g a b) (k:GX g b c):GX g a c:=uH h k
theorem GX.heap {g:Nat} {w w':World} (h:GX g w w') {b:Nat} {o:Obj} (hb:w.heap[b]?=some o) (hne:b≠g):w'.heap[b]?=some o:=by
 obtain ⟨_,_,_,_,e⟩:=h;rw [e b (af hb) (fun x=>hne (by cases x;rfl))];exact hb
theorem arV {w:World} {a:Option Addr} {c:Nat} {l:List UInt8} (h:Bv w (.slice a l.length c) l) {n:Nat} (hn:n≤l.length):Bv w (.slice (if c=n then a else a.map (fun x=>x.add n)) (l.length-n) (c-n)) (l.drop n):=by
 have:=rA h hn (ay _);rw [List.take_of_length_le (by simp)] at this;exact this
theorem jG.mz {w0 W W':World} {rb:Nat} {l:List UInt8} (h:jG w0 W rb l) (hg:Grow W W'):jG w0 W' rb l:=by
 obtain ⟨bv,h1,h2⟩:=h.cell;exact ⟨⟨bv,hg.heap h1,h2⟩,h.grow.trans hg,h.new⟩
theorem acb {w0 W:World} {rb:Nat} {l:List UInt8} (h:jG w0 W rb l) {n:Nat} (hn:n≤l.length) (_hl:l.length≤1000000000000):
  Calls Tryz.prog 218 #[.pointer (some ⟨rb,0,none⟩),.int .i64 n,.int .i64 0] W fun e w'=>e= .returned (.tuple #[])∧jG w0 w' rb (l.drop n)∧GX rb W w':=by
 obtain ⟨bv,h1,h2⟩:=h.cell;obtain ⟨ba,bc,rfl⟩:=h2.slice;have hb':=arV h2 hn;have hle:l.length≤bc:=by obtain ⟨a',c',e',hc',_⟩:=h2;cases e';omega
 obtain ⟨ad,had⟩:∃ ad,(if bc=n then ba else ba.map (fun x=>x.add n))=ad:=⟨_,rfl⟩
 rw [had] at hb';have c0:W.cell? ⟨rb,0,none⟩=some (.slice ba l.length bc):=by simp [World.cell?,h1]
 have c1:W.cell? ⟨rb,1,none⟩=some (.int .i64 0):=by simp [World.cell?,h1]
 have f0:∀ i,W.frozen? ⟨rb,i,none⟩=false:=fun i=>by simp [World.frozen?,h1]
 have lr:=af h1;have cE:((W.setCell ⟨rb,1,none⟩ (.int .i64 0)).setCell ⟨rb,0,none⟩ (.slice ad (l.length-n) (bc-n))).heap[rb]?=some (.cells #[.slice ad (l.length-n) (bc-n),.int .i64 0] 293 (0,0)):=aI (aI h1 1 _) 0 _;have Hp:Hid (jG w0 ((W.setCell ⟨rb,1,none⟩ (.int .i64 0)).setCell ⟨rb,0,none⟩ (.slice ad (l.length-n) (bc-n))) rb (l.drop n)∧GX rb W ((W.setCell ⟨rb,1,none⟩ (.int .i64 0)).setCell ⟨rb,0,none⟩ (.slice ad (l.length-n) (bc-n)))):=
  ae ⟨⟨⟨_,cE,hb'⟩,Below.setCell (Below.setCell h.grow (p:=⟨rb,1,none⟩) h.new _) (p:=⟨rb,0,none⟩) h.new _,h.new⟩,uH (iJ _ _ _ _) (iJ _ _ _ _)⟩
 clear h h1 h2 hb' cE;go_enter Tryz.func218,Tryz.ntmps218;go_wp2;exact ⟨rfl,.tuple #[],by simp [results,Tryz.results218,go_sem],rfl,Hp.out⟩
theorem acd {w0 W:World} {rb:Nat} {n:Nat} {r:List UInt8} (h:jG w0 W rb (aA n++r)) (hn:n<18446744073709551616) (hr:r.length≤900000000000):
  Calls Tryz.prog 189 #[.pointer (some ⟨rb,0,none⟩)] W fun e w'=>e= .returned (.int .u64 n)∧jG w0 w' rb r∧GX rb W w':=by
 obtain ⟨bv,h1,h2⟩:=h.cell;have eR:=GW (h2.grow h.grow);rw [MW hn r] at eR;have hk:=cf n;have ht:=acb h (n:=(aA n).length) (by simp) (by simp;omega);rw [List.drop_left] at ht;have c0:W.cell? ⟨rb,0,none⟩=some bv:=by simp [World.cell?,h1]
 have lr:=af h1;obtain ⟨ba,bc,rfl⟩:=h2.slice;have gF:=ae eR;have Ht:=ae ht;clear h h1 h2 eR ht;generalize (aA n++r).length=L at*;generalize (aA n).length=k at*;go_enter Tryz.func189,Tryz.ntmps189
 go_wp2_with fail
 (with_reducible refine gF.out.mono ?_);rintro e w1 ⟨rfl,bS⟩;have hw2:=bS.symm;subst hw2;clear bS gF
 go_wp2_with fail
 (with_reducible refine Ht.out.mono ?_);rintro e w2 ⟨rfl,hR,hG⟩;go_wp2;go_ret;exact ⟨rfl,hR,hG⟩
theorem ace {w0 W:World} {rb:Nat} {n most:Nat} {r:List UInt8} (h:jG w0 W rb (aA n++r)) (hn:n≤most) (hm:most≤1099511627776) (hr:r.length≤900000000000):
  Calls Tryz.prog 217 #[.pointer (some ⟨rb,0,none⟩),.int .u64 most] W fun e w'=>e= .returned (.int .i64 n)∧jG w0 w' rb r∧GX rb W w':=by
 have Ha:=ae (acd h (by omega) hr);have e1:decide ((most:Int)<(n:Int))=false:=by simp;omega
 have w1:IntKind.i64.wrap (n:Int)=(n:Int):=aR _ (by omega);clear h;go_enter Tryz.func217,Tryz.ntmps217
 go_wp2_with fail
 (with_reducible refine Ha.out.mono ?_);rintro e w2 ⟨rfl,hR,hG⟩;obtain ⟨bv,h1,h2⟩:=hR.cell;have c1:w2.cell? ⟨rb,1,none⟩=some (.int .i64 0):=by simp [World.cell?,h1]
 have lr:=af h1;have HR:=ae (ah hR hG);clear h1 h2 hR hG Ha;go_wp2;go_ret;exact ⟨rfl,HR.out⟩
theorem Ex {w0 W:World} {rb:Nat} {n:Nat} {r:List UInt8} (h:jG w0 W rb (aA n++r)) (hn:n≤1099511627776) (hr:r.length≤900000000000):
  Calls Tryz.prog 186 #[.pointer (some ⟨rb,0,none⟩)] W fun e w'=>e= .returned (.int .i64 n)∧jG w0 w' rb r∧GX rb W w':=by
 have Ha:Hid (Calls Tryz.prog 217 #[.pointer (some ⟨rb,0,none⟩),.int .u64 1099511627776] W fun e w'=>e= .returned (.int .i64 n)∧jG w0 w' rb r∧GX rb W w'):=ae (ace h hn (ay _) hr);clear h;go_enter Tryz.func186,Tryz.ntmps186
 go_wp2_with fail
 (with_reducible refine Ha.out.mono ?_);rintro e w2 ⟨rfl,hR,hG⟩;go_wp2;go_ret;exact ⟨rfl,hR,hG⟩
theorem acf {w0 W:World} {rb:Nat} {x r:List UInt8} (h:jG w0 W rb (aU x++r)) (hx:x.length≤67108864) (hr:r.length≤900000000000):
  Calls Tryz.prog 187 #[.pointer (some ⟨rb,0,none⟩)] W fun e w'=>e= .returned (.string ⟨x.toArray⟩)∧jG w0 w' rb r∧GX rb W w':=by
 obtain ⟨bv,h1,h2⟩:=h.cell;have eR:=arU (h2.grow h.grow) hx (by omega);have hk:=cf x.length;have hlen:(aU x++r).length=(aA x.length).length+x.length+r.length:=by simp [aU];omega
 have hd:(aU x++r).drop ((aA x.length).length+x.length)=r:=by
  have:(aU x).length=(aA x.length).length+x.length:=by simp [aU]
  rw [←this,List.drop_left]
 have Ht:=ae (fun (w':World) (hg:Grow W w')=>acb (h.mz hg) (n:=(aA x.length).length+x.length) (by omega) (by omega));rw [hd] at Ht;have c0:W.cell? ⟨rb,0,none⟩=some bv:=by simp [World.cell?,h1]
 have lr:=af h1;obtain ⟨ba,bc,rfl⟩:=h2.slice;have gF:=ae eR;clear h h1 h2 eR hd hlen;generalize (aU x++r).length=L at*;generalize (aA x.length).length+x.length=k at*;go_enter Tryz.func187,Tryz.ntmps187
 go_wp2_with fail
 (with_reducible refine gF.out.mono ?_);rintro e w1 ⟨v,rfl,hb,hg⟩;have ht:=Ht.out w1 hg;have Hb:=ae hb;have Hg:=ae hg;have hne:∀ g,v.ownBlock=some g→g≠rb∧g<w1.heap.size:=fun g hv=>⟨by have:=(hb.lt hv).1;omega,(hb.lt hv).2⟩
 have pD:=ae hne;clear hne;have IX:=ae ht;obtain ⟨va,vc,rfl⟩:=hb.slice;clear hb hg gF Ht ht
 go_wp2_with fail
 (with_reducible refine IX.out.mono ?_);rintro e w2 ⟨rfl,hR,hG⟩;have hb2:=Hb.out.keep (w':=w2) (fun g hv=>by
  obtain ⟨_,_,_,_,hk⟩:=hG;exact hk g (pD.out g hv).2 (fun e=>(pD.out g hv).1 (by cases e;rfl)))
 have zt:=wN (cy hb2);have HR:=ae (ah hR ((GX.of Hg.out).trans hG));clear hR hG hb2 Hb Hg pD IX;go_wp2;go_ret;exact ⟨rfl,HR.out⟩
end Go.Proofs.YtoolkdapflaeeaaGreatDoor
namespace Go.Proofs.YtoolkdapflaeeaaGreatDoor
open Go.RowKit Go.Gl Go.aH Mn
def acg (I:Nat→World→Prop) (m:Nat) (nv:Value) (wr:World):Prop:=∃ i:Nat,nv= .int .i64 ((m-i:Nat):Int)∧i≤m∧I i wr
theorem ach {w0 W:World} {rb m:Nat} {rest:List UInt8} {fn:FuncId} {aci:Array Value} (I:Nat→World→Prop) (h:jG w0 W rb (aA m++rest)) (hm:m≤65536) (hr:rest.length≤900000000000)
  (h0:∀ w1,jG w0 w1 rb rest→GX rb W w1→I 0 w1) (hI:∀ i wr,I i wr→∃ l,jG w0 wr rb l)
  (hstep:∀ i wr,i<m→I i wr→Calls Tryz.prog fn aci wr fun e w'=>e= .returned (.tuple #[])∧I (i+1) w')
  (hfn:∃ F,Tryz.prog.funcs[fn]?=some F∧F.params.size=0) (aoY:∀ args w,(callFunc fn args).run Tryz.prog w= .ok (.enter fn args) w):
  Calls Tryz.prog 184 #[.pointer (some ⟨rb,0,none⟩),.func (.func fn) #[] aci] W fun e w'=>e= .returned (.tuple #[])∧I m w':=by
 have Ha:Hid (Calls Tryz.prog 217 #[.pointer (some ⟨rb,0,none⟩),.int .u64 65536] W fun e w'=>e= .returned (.int .i64 m)∧jG w0 w' rb rest∧GX rb W w'):=ae (ace h hm (by decide) hr);have H0:=ae h0;have HI:=ae hI;have Hs:=ae hstep;clear h h0 hI hstep;go_enter Tryz.func184,Tryz.ntmps184
 go_wp2_with fail
 (with_reducible refine Ha.out.mono ?_);rintro e w1 ⟨rfl,hR,hG⟩;have Hi0:=ae (H0.out w1 hR hG);clear hR hG H0 Ha
 go_wp2_with fail
 go_loopw [4] (fun nv wr=>acg I m nv wr) (fun nv _=>(intOf nv).toNat)
 case atStart=>exact ⟨0,rfl,bk _,Hi0.out⟩
 case round=>
  obtain ⟨i,rfl,hi,IY⟩:=hrel;obtain ⟨l,hR⟩:=HI.out i wr IY;obtain ⟨bv,h1,_⟩:=hR.cell;have c1:wr.cell? ⟨rb,1,none⟩=some (.int .i64 0):=by simp [World.cell?,h1]
  have lr:=af h1;clear h1 hR;by_cases hlt:i<m
  ·have hc:=Hs.out i wr hlt IY
   obtain ⟨k,hk⟩:∃ k,m-i=k+1:=⟨m-i-1,by omega⟩
   have Hk:=ae hk;rw [hk];have e1:decide ((0:Int)<((k+1:Nat):Int))=true:=by simp
   have w1':IntKind.i64.wrap (k:Int)=(k:Int):=aR _ (by omega);have Hc:=ae hc;clear hk hc IY
   go_wp2_with fail
   (with_reducible refine Hc.out.mono ?_);rintro e w2 ⟨rfl,Ey⟩;have bq:Hid (acg I m (.int .i64 (k:Int)) w2):=ae ⟨i+1,by rw [show m-(i+1)=k by have:=Hk.out;omega],hlt,Ey⟩;clear Ey;go_wp2;go_roundw
   case rel=>exact bq.out
   case measure=>simp [intOf]
  ·have e0:m-i=0:=by omega
   obtain rfl:i=m:=by omega
   have HIm:=ae IY;rw [e0];clear IY e0;go_wp2;exact ⟨rfl,.tuple #[],by simp [results,Tryz.results184,go_sem],rfl,HIm.out⟩
end Go.Proofs.YtoolkdapflaeeaaGreatDoor
namespace Go.Proofs.YtoolkdapflaeeaaGreatDoor.Mn
open Go.RowKit Go.Gl
theorem acj (w:World) (aa:Option Addr) (al ac:Nat) (da:Option Addr) (dl dc:Nat) (s n wl:Int):(Instr.buildSlice 272 1 #[(0,.agg (cV (.slice aa al ac) (.slice da dl dc) s n wl))]).run Tryz.prog w= .ok (.slice (some ⟨w.heap.size,0,none⟩) 1 1) (w.alloc (.cells (cV (.slice aa al ac) (.slice da dl dc) s n wl) 148)):=by
 simp [Instr.buildSlice,run_underlying Tryz.underlying272,Tryz.sizeOf148,Tryz.zeroValue148,Instr.fill,newRow,Value.cells];congr 2;apply Array.ext
 ·simp
 ·intro i h1 h2
  simp at h1
  match i,h1 with
  |0,_=>simp
  |1,_=>simp
  |2,_=>simp
  |3,_=>simp
  |4,_=>simp
theorem arY (w:World) (f l:Int) (a b:ByteArray) (s:Int):(Instr.buildSlice 83 1 #[(0,.agg #[.int .i64 f,.int .i64 l,.string a,.string b,.int .i64 s])]).run Tryz.prog w= .ok (.slice (some ⟨w.heap.size,0,none⟩) 1 1) (w.alloc (.cells #[.int .i64 f,.int .i64 l,.string a,.string b,.int .i64 s] 101)):=by
 simp [Instr.buildSlice,run_underlying Tryz.underlying83,Tryz.sizeOf101,Tryz.zeroValue101,Instr.fill,newRow,Value.cells];congr 2;apply Array.ext
 ·simp
 ·intro i h1 h2
  simp at h1
  match i,h1 with
  |0,_=>simp
  |1,_=>simp
  |2,_=>simp
  |3,_=>simp
  |4,_=>simp
theorem ack {W:World} {b:Nat} {av dv:Value} {e:cr} (hb:W.heap[b]?=some (.cells (cV av dv e.seq e.next e.aj) 148 (0,0))) (hA:rV W av e.add) (hD:Ints W dv e.drop):abH W (.slice (some ⟨b,0,none⟩) 1 1) [e]:=by
 refine ⟨_,1,rfl,.inr ⟨b,0,rfl,af hb,fun i x hx=> ?_⟩⟩
 match i,hx with
 |0,hx=>
  cases hx;obtain ⟨c0,c1,c2,c3,c4⟩:=cw hb;exact ⟨av,dv,c0,c1,c2,c3,c4,hA,hD⟩
 |i+1,hx=>simp at hx
theorem arZ (W:World):rV W (.slice none 0 0) []:=⟨none,0,rfl,.inl rfl⟩
theorem asa (W:World):Ints W (.slice none 0 0) []:=⟨none,0,rfl,ay _,.inl rfl⟩
end Go.Proofs.YtoolkdapflaeeaaGreatDoor.Mn
