/- Helpers. -/
import Derived.Deep.CutRange
import Derived.Deep.DeepCutAuto
import Derived.Test.YtoolkdapflaeeaaGreatDoorW09
import Derived.Test.YtoolkdapflaeeaaGreatDoorW07
set_option maxRecDepth 100000
set_option maxHeartbeats 16000000
namespace Go.Proofs.YtoolkdapflaeeaaGreatDoor.Mn
open Go.RowKit Go.Gl
theorem adh:abG:=by
 intro w tv V av dv E h;have eO:=mq.start w tv V.seq V.next V.aj av dv E.seq E.next E.aj;obtain ⟨ta,tc,rfl⟩:=iV h.own;obtain ⟨da,dc,rfl,aEp,hdr⟩:=h.drops;obtain ⟨aa,ac,rfl,qI⟩:=h.adds;obtain ⟨v0,v1,v2,v3⟩:=bZ eO.vb;obtain ⟨e0,e1,e2,e3,e4⟩:=cw eO.eb;have lv:=af eO.vb;have le:=af eO.eb;have lr:=af eO.rb;have H:=ae h;have rT:=ae eO;have pz:=ae hdr;have TM:=ae qI;have hlen:=h.len;have fS:=h.MS;have np:=h.MR;clear h eO hdr qI;go_enter Tryz.func161,Tryz.ntmps161
 go_wp2_with fail
 generalize ((w.alloc (.cells (bz (.slice ta V.tabs.length tc) V.seq V.next V.aj) 85)).alloc (.cells (cV (.slice aa E.add.length ac) (.slice da E.drop.length dc) E.seq E.next E.aj) 148)).alloc (.cells (bz (.slice none 0 0) 0 0 0) 85)=W0 at*
 go_loopw [13] (fun iv wr=>ary W0 V.tabs E.drop iv wr) (fun iv _=>E.drop.length-(intOf iv).toNat)
 case atStart=>exact ⟨0,rfl,bk _,rfl,Grow.refl _⟩
 case round=>
  obtain ⟨i,rfl,hi,oz,hg⟩:=hrel;by_cases hlt:i<E.drop.length
  ·obtain ⟨n,hn⟩:∃ n,E.drop[i]?=some n:=⟨E.drop[i],by simp [hlt]⟩
   have eI:=rT.out.grow hg;clear v0 v1 v2 v3 e0 e1 e2 e3 e4;obtain ⟨v0,v1,v2,v3⟩:=bZ eI.vb;obtain ⟨e0,e1,e2,e3,e4⟩:=cw eI.eb;obtain ⟨r0,r1,r2,r3⟩:=bZ eI.rb;have lv2:=af eI.vb;have Je:=af eI.eb;have lr2:=af eI.rb;have hst:=arz (l:=V.tabs) hn;obtain ⟨b,o,rfl,hbl,zx⟩:∃ b o,da=some ⟨b,o,none⟩∧b<w.heap.size∧∀ (j:Nat) (k:Int),E.drop[j]?=some k→w.cell? ⟨b,o+j,none⟩=some (.int .i64 k):=by
    rcases pz.out with h1|h1
    ·rw [h1] at hlt;simp at hlt
    ·exact h1
   have c0:=zx i n hn;rw [←Grow.cells _ _ _ eI.gr hbl] at c0;have Jm:=abq (ek H.out.own eI.gr) (by omega) n;have dJ:(i:Int)<(E.drop.length:Int):=by omega
   have bK:(0:Int)≤(i:Int):=by omega
   have jI:=ae Jm;have rZ:=ae eI;have Hdc:=ae zx;have bI:=ae hst;have se:=ae oz;clear Jm eI zx hst oz hn;cases hh:ou V.tabs n with
   |false=>
    rw [hh] at jI;have ct:Hid (aV V E=(4,cd)):=ae (by unfold aV;rw [if_pos (by rw [se.out,bI.out,hh];rfl)]);clear hh
    go_wp2_with fail
    (with_reducible refine jI.out.mono ?_);rintro e w1 ⟨rfl,hg1⟩;have js:=rZ.out.grow hg1;have TV:=af js.rb;have fr:∀ i,w1.frozen? ⟨w.heap.size+1+1,i,none⟩=false:=fun i=>by simp [World.frozen?,js.rb]
    obtain ⟨s0,s1,s2,s3⟩:=bZ js.rb;have TW:=ae js.gr;clear js hg1;go_wp2;refine bodyPost_ret (v:= .tuple #[.agg (bz (.slice none 0 0) 0 0 0),.int .i64 4]) (by simp [results,Tryz.results161,go_sem, *]) rfl (by
     rw [ct.out];refine ⟨_,rfl,World.ownsRow_nil _ _ _ _,?_⟩;have gh:=TW.out
     (repeat (first|exact Below.refl _ _|assumption|refine Below.drew ?_|refine cp ?_|refine Below.setCell ?_ (by first|omega|(simp<;>omega)) _|refine Below.alloc ?_ (by first|omega|(simp<;>omega)) _)))
   |true=>
    rw [hh] at jI;cases yX:(E.drop.take i).contains n with
    |true=>
     have ct:Hid (aV V E=(4,cd)):=ae (by unfold aV;rw [if_pos (by rw [se.out,bI.out,hh,yX];rfl)])
     go_wp2_with fail
     (with_reducible refine jI.out.mono ?_);rintro e w1 ⟨rfl,hg1⟩;have js:=rZ.out.grow hg1;clear v0 v1 v2 v3 e0 e1 e2 e3 e4;obtain ⟨e0,e1,e2,e3,e4⟩:=cw js.eb;have Nq:=af js.eb;have TV:=af js.rb;have fr:∀ i,w1.frozen? ⟨w.heap.size+1+1,i,none⟩=false:=fun i=>by simp [World.frozen?,js.rb]
     obtain ⟨s0,s1,s2,s3⟩:=bZ js.rb;have Ch:=Tc w1 b o i dc E.drop n hi (by omega) (fun j k hk=>by rw [Grow.cells _ _ _ js.gr hbl];exact Hdc.out j k hk);rw [yX] at Ch;have TX:=ae Ch;have TW:=ae js.gr;have atb:(i:Int)≤(E.drop.length:Int):=by omega
     have atc:(i:Int)≤(dc:Int):=by omega
     clear js hg1 Ch hh yX
     go_wp2_with fail
     (with_reducible refine TX.out.mono ?_);rintro e w2 ⟨rfl,rfl⟩;go_wp2;refine bodyPost_ret (v:= .tuple #[.agg (bz (.slice none 0 0) 0 0 0),.int .i64 4]) (by simp [results,Tryz.results161,go_sem, *]) rfl (by
      rw [ct.out];refine ⟨_,rfl,World.ownsRow_nil _ _ _ _,?_⟩;have gh:=TW.out
      (repeat (first|exact Below.refl _ _|assumption|refine Below.drew ?_|refine cp ?_|refine Below.setCell ?_ (by first|omega|(simp<;>omega)) _|refine Below.alloc ?_ (by first|omega|(simp<;>omega)) _)))
    |false=>
     have cS:Hid (qz V.tabs [] E.drop=qz V.tabs (E.drop.take (i+1)) (E.drop.drop (i+1))):=ae (by rw [se.out,bI.out,hh,yX];rfl)
     go_wp2_with fail
     (with_reducible refine jI.out.mono ?_);rintro e w1 ⟨rfl,hg1⟩;have js:=rZ.out.grow hg1;clear v0 v1 v2 v3 e0 e1 e2 e3 e4;obtain ⟨e0,e1,e2,e3,e4⟩:=cw js.eb;have Nq:=af js.eb;have Ch:=Tc w1 b o i dc E.drop n hi (by omega) (fun j k hk=>by rw [Grow.cells _ _ _ js.gr hbl];exact Hdc.out j k hk);rw [yX] at Ch;have TX:=ae Ch;have dK:=ae (hg.trans hg1);have atb:(i:Int)≤(E.drop.length:Int):=by omega
     have atc:(i:Int)≤(dc:Int):=by omega
     clear js hg1 Ch hh yX
     go_wp2_with fail
     (with_reducible refine TX.out.mono ?_);rintro e w2 ⟨rfl,rfl⟩;go_wp2;go_roundw
     case rel=>exact ⟨i+1,rfl,hlt,cS.out,dK.out⟩
     case measure=>simp [intOf];omega
  ·obtain rfl:i=E.drop.length:=by omega
   have dw:qz V.tabs [] E.drop=false:=by rw [oz,List.drop_length];rfl
   have eI:=rT.out.grow hg;clear v0 v1 v2 v3 e0 e1 e2 e3 e4;obtain ⟨v0,v1,v2,v3⟩:=bZ eI.vb;obtain ⟨e0,e1,e2,e3,e4⟩:=cw eI.eb;have lv2:=af eI.vb;have Je:=af eI.eb;have lr2:=af eI.rb;have hown:=ek H.out.own eI.gr;have aQ:=uJ hown (by omega);have fL:=ae aQ;have rZ:=ae eI;have gS:=ae dw;clear aQ hown eI dw oz hg
   go_wp2_with fail
   (with_reducible refine fL.out.mono ?_);rintro e w1 ⟨cv,rfl,hown1,hg1⟩;have js:=rZ.out.grow hg1;have hdel:=ars (w0:=wr) hown1 (by omega) hg1.size (eb:=w.heap.size+1) (by omega) js.eb hg1 (H.out.drops.grow rZ.out.gr) (ay _) (by omega);have adj:=ae hdel;obtain ⟨ca,cc,rfl⟩:=iV hown1;have atd:=ae js;have dK:=ae hg1;clear hdel hown1 js hg1
   go_wp2_with fail
   (with_reducible refine adj.out.mono ?_);rintro e w2 ⟨Nw,rfl,hown2,hb2⟩;obtain ⟨B1,TY⟩:∃ B1,B1=wr.heap.size:=⟨_,rfl⟩
   have EG:w.heap.size+1+1<B1:=by omega
   have wY:=atd.out.below (B:=B1) (by rw [TY];exact hb2) EG;have adk:=wY.SG Nw;have gI:=pA (i:=0) (x:=Nw) hown2 wY.vb (by decide);have zF:B1≤w2.heap.size:=by rw [TY];exact aN dK.out.size hb2.size
   obtain ⟨xa,xc,rfl⟩:=iV hown2;clear v0 v1 v2 v3 e0 e1 e2 e3 e4;obtain ⟨v0,v1,v2,v3⟩:=bZ wY.vb;obtain ⟨e0,e1,e2,e3,e4⟩:=cw wY.eb;have lv3:=af wY.vb;have Nq:=af wY.eb;have TV:=af wY.rb;have fv3:∀ i,w2.frozen? ⟨w.heap.size,i,none⟩=false:=fun i=>by simp [World.frozen?,wY.vb]
   have ate:=ae adk;have Jn:=ae gI;rw [←TY] at Jn;have dA:(V.tabs.filter (gK E.drop)).length≤10000:=aN (List.length_filter_le _ _) hlen;clear wY adk hown2 gI hb2 adj fL
   go_wp2_with fail
   generalize hw3:w2.setCell ⟨w.heap.size,0,none⟩ (.slice xa (V.tabs.filter (gK E.drop)).length xc)=W3 at*;have hB3:B1≤W3.heap.size:=by rw [←hw3];simpa using zF
   clear hw3 zF
   go_loopw [42] (fun iv wr=>abE w B1 V E (.slice aa E.add.length ac) (.slice da E.drop.length dc) iv wr) (fun iv _=>E.add.length-(intOf iv).toNat)
   case atStart=>exact ⟨0,_,_,rfl,bk _,ate.out,Jn.out,rfl,by omega,hB3⟩
   case round=>
    obtain ⟨i,cv,cur,rfl,hi,pH,hown,lC,aQ,zF⟩:=hrel;have zf:=pH.gr;clear v0 v1 v2 v3 e0 e1 e2 e3 e4;by_cases hlt:i<E.add.length
    ·obtain ⟨t,ht⟩:∃ t,E.add[i]?=some t:=⟨E.add[i],by simp [hlt]⟩
     obtain ⟨b,o,rfl,hbl,aY⟩:∃ b o,aa=some ⟨b,o,none⟩∧b<w.heap.size∧Rd w b o ig 5 E.add:=by
      rcases TM.out with h1|h1
      ·rw [h1] at hlt;simp at hlt
      ·exact h1
     have gW:=aY.grow hbl zf i t ht;obtain ⟨f0,f1,f2,f3,f4⟩:=t;have a0:=gW 0 _ rfl;have a1:=gW 1 _ rfl;have a2:=gW 2 _ rfl;have a3:=gW 3 _ rfl;have a4:=gW 4 _ rfl;simp only [Nat.add_zero] at a0;dsimp only at a0 a1 a2 a3 a4;have hstep:=arx (l:=cur) ht;have aM:Grow wr (wr.alloc (.cells #[.int .i64 f0,.int .i64 f1,.string f2,.string f3,.int .i64 f4] 101)):=Grow.alloc _ _;have dp:(wr.alloc (.cells #[.int .i64 f0,.int .i64 f1,.string f2,.string f3,.int .i64 f4] 101)).heap[wr.heap.size]?=some (.cells #[.int .i64 f0,.int .i64 f1,.string f2,.string f3,.int .i64 f4] 101 (0,0)):=aw _ _;have EH:=pH.grow aM;have Jm:=abq (ek hown aM) (by omega) f0;obtain ⟨ca,cc,rfl⟩:=iV hown;obtain ⟨v0,v1,v2,v3⟩:=bZ EH.vb;obtain ⟨e0,e1,e2,e3,e4⟩:=cw EH.eb;obtain ⟨r0,r1,r2,r3⟩:=bZ EH.rb;obtain ⟨t0,t1,t2,t3,t4⟩:=cw dp;have lv4:=af pH.vb;have le4:=af pH.eb;have lr4:=af pH.rb;have lb4:b<wr.heap.size:=cj hbl zf.size;have fr4:∀ i,(wr.alloc (.cells #[.int .i64 f0,.int .i64 f1,.string f2,.string f3,.int .i64 f4] 101)).frozen? ⟨w.heap.size+1+1,i,none⟩=false:=fun i=>by simp [World.frozen?,EH.rb]
     obtain ⟨rr0,rr1,rr2,rr3⟩:=bZ pH.rb;have frr:∀ i,wr.frozen? ⟨w.heap.size+1+1,i,none⟩=false:=fun i=>by simp [World.frozen?,pH.rb]
     have dJ:(i:Int)<(E.add.length:Int):=by omega
     have bK:(0:Int)≤(i:Int):=by omega
     have jI:=ae Jm;have vo:=ae EH;have wZ:=ae lC;have iM:=ae hstep;have eT:=ae hown;have Ci:=ae aM;have fw:=ae dp;have nZ:True:=trivial;have atj:=ae zf;clear Jm EH pH lC hstep hown aM dp aY gW ht zf;cases h1:decide (f0<0) with
     |true=>
      have ct:Hid (aV V E=(1,cd)):=ae (by
       have lS:ik cur ⟨f0,f1,f2,f3,f4⟩=true:=by simp only [ik,h1];rfl
       unfold aV;rw [if_neg (by rw [gS.out];decide),wZ.out,iM.out,if_pos lS])
      have dU:=atj;clear nZ;go_wp2;refine bodyPost_ret (v:= .tuple #[.agg (bz (.slice none 0 0) 0 0 0),.int .i64 1]) (by simp [results,Tryz.results161,go_sem, *]) rfl (by
       rw [ct.out];refine ⟨_,rfl,World.ownsRow_nil _ _ _ _,?_⟩;have gh:=dU.out
       (repeat (first|exact Below.refl _ _|assumption|refine Below.drew ?_|refine cp ?_|refine Below.setCell ?_ (by first|omega|(simp<;>omega)) _|refine Below.alloc ?_ (by first|omega|(simp<;>omega)) _)))
     |false=>
      cases h2:ou cur f0 with
      |true=>
       have ct:Hid (aV V E=(1,cd)):=ae (by
        have lS:ik cur ⟨f0,f1,f2,f3,f4⟩=true:=by simp only [ik,h1,h2];rfl
        unfold aV;rw [if_neg (by rw [gS.out];decide),wZ.out,iM.out,if_pos lS])
       rw [h2] at jI
       go_wp2_with fail
       (with_reducible refine jI.out.mono ?_);rintro e w5 ⟨rfl,aO⟩;have bH:=vo.out.grow aO;clear v0 v1 v2 v3 e0 e1 e2 e3 e4 r0 r1 r2 r3 t0 t1 t2 t3 t4;obtain ⟨v0,v1,v2,v3⟩:=bZ bH.vb;obtain ⟨r0,r1,r2,r3⟩:=bZ bH.rb;obtain ⟨t0,t1,t2,t3,t4⟩:=cw (aO.heap fw.out);have zG:=af bH.vb;have Cj:=af bH.rb;have im:=af (aO.heap fw.out);have pI:∀ i,w5.frozen? ⟨w.heap.size,i,none⟩=false:=fun i=>by simp [World.frozen?,bH.vb]
       have zH:∀ i,w5.frozen? ⟨w.heap.size+1+1,i,none⟩=false:=fun i=>by simp [World.frozen?,bH.rb]
       have dU:=ae bH.gr;clear bH aO h2 pI;go_wp2;refine bodyPost_ret (v:= .tuple #[.agg (bz (.slice none 0 0) 0 0 0),.int .i64 1]) (by simp [results,Tryz.results161,go_sem, *]) rfl (by
        rw [ct.out];refine ⟨_,rfl,World.ownsRow_nil _ _ _ _,?_⟩;have gh:=dU.out
        (repeat (first|exact Below.refl _ _|assumption|refine Below.drew ?_|refine cp ?_|refine Below.setCell ?_ (by first|omega|(simp<;>omega)) _|refine Below.alloc ?_ (by first|omega|(simp<;>omega)) _)))
      |false=>
       cases h3:decide (f1<0) with
       |true=>
        have ct:Hid (aV V E=(1,cd)):=ae (by
         have lS:ik cur ⟨f0,f1,f2,f3,f4⟩=true:=by simp only [ik,h1,h2,h3];rfl
         unfold aV;rw [if_neg (by rw [gS.out];decide),wZ.out,iM.out,if_pos lS])
        rw [h2] at jI
        go_wp2_with fail
        (with_reducible refine jI.out.mono ?_);rintro e w5 ⟨rfl,aO⟩;have bH:=vo.out.grow aO;clear v0 v1 v2 v3 e0 e1 e2 e3 e4 r0 r1 r2 r3 t0 t1 t2 t3 t4;obtain ⟨v0,v1,v2,v3⟩:=bZ bH.vb;obtain ⟨r0,r1,r2,r3⟩:=bZ bH.rb;obtain ⟨t0,t1,t2,t3,t4⟩:=cw (aO.heap fw.out);have zG:=af bH.vb;have Cj:=af bH.rb;have im:=af (aO.heap fw.out);have pI:∀ i,w5.frozen? ⟨w.heap.size,i,none⟩=false:=fun i=>by simp [World.frozen?,bH.vb]
        have zH:∀ i,w5.frozen? ⟨w.heap.size+1+1,i,none⟩=false:=fun i=>by simp [World.frozen?,bH.rb]
        have dU:=ae bH.gr;clear bH aO h2 pI;go_wp2;refine bodyPost_ret (v:= .tuple #[.agg (bz (.slice none 0 0) 0 0 0),.int .i64 1]) (by simp [results,Tryz.results161,go_sem, *]) rfl (by
         rw [ct.out];refine ⟨_,rfl,World.ownsRow_nil _ _ _ _,?_⟩;have gh:=dU.out
         (repeat (first|exact Below.refl _ _|assumption|refine Below.drew ?_|refine cp ?_|refine Below.setCell ?_ (by first|omega|(simp<;>omega)) _|refine Below.alloc ?_ (by first|omega|(simp<;>omega)) _)))
       |false=>
        cases h4:decide (6<f1) with
        |true=>
         have ct:Hid (aV V E=(1,cd)):=ae (by
          have lS:ik cur ⟨f0,f1,f2,f3,f4⟩=true:=by simp only [ik,h1,h2,h3,h4];rfl
          unfold aV;rw [if_neg (by rw [gS.out];decide),wZ.out,iM.out,if_pos lS])
         rw [h2] at jI
         go_wp2_with fail
         (with_reducible refine jI.out.mono ?_);rintro e w5 ⟨rfl,aO⟩;have bH:=vo.out.grow aO;clear v0 v1 v2 v3 e0 e1 e2 e3 e4 r0 r1 r2 r3 t0 t1 t2 t3 t4;obtain ⟨v0,v1,v2,v3⟩:=bZ bH.vb;obtain ⟨r0,r1,r2,r3⟩:=bZ bH.rb;obtain ⟨t0,t1,t2,t3,t4⟩:=cw (aO.heap fw.out);have zG:=af bH.vb;have Cj:=af bH.rb;have im:=af (aO.heap fw.out);have pI:∀ i,w5.frozen? ⟨w.heap.size,i,none⟩=false:=fun i=>by simp [World.frozen?,bH.vb]
         have zH:∀ i,w5.frozen? ⟨w.heap.size+1+1,i,none⟩=false:=fun i=>by simp [World.frozen?,bH.rb]
         have dU:=ae bH.gr;clear bH aO h2 pI;go_wp2;refine bodyPost_ret (v:= .tuple #[.agg (bz (.slice none 0 0) 0 0 0),.int .i64 1]) (by simp [results,Tryz.results161,go_sem, *]) rfl (by
          rw [ct.out];refine ⟨_,rfl,World.ownsRow_nil _ _ _ _,?_⟩;have gh:=dU.out
          (repeat (first|exact Below.refl _ _|assumption|refine Below.drew ?_|refine cp ?_|refine Below.setCell ?_ (by first|omega|(simp<;>omega)) _|refine Below.alloc ?_ (by first|omega|(simp<;>omega)) _)))
        |false=>
         cases h5:(Op.bytesLess f2.toList f3.toList||f2.toList==f3.toList) with
         |false=>
          have ct:Hid (aV V E=(1,cd)):=ae (by
           have lS:ik cur ⟨f0,f1,f2,f3,f4⟩=true:=by simp only [ik,h1,h2,h3,h4,h5];rfl
           unfold aV;rw [if_neg (by rw [gS.out];decide),wZ.out,iM.out,if_pos lS])
          rw [h2] at jI
          go_wp2_with fail
          (with_reducible refine jI.out.mono ?_);rintro e w5 ⟨rfl,aO⟩;have bH:=vo.out.grow aO;clear v0 v1 v2 v3 e0 e1 e2 e3 e4 r0 r1 r2 r3 t0 t1 t2 t3 t4;obtain ⟨v0,v1,v2,v3⟩:=bZ bH.vb;obtain ⟨r0,r1,r2,r3⟩:=bZ bH.rb;obtain ⟨t0,t1,t2,t3,t4⟩:=cw (aO.heap fw.out);have zG:=af bH.vb;have Cj:=af bH.rb;have im:=af (aO.heap fw.out);have pI:∀ i,w5.frozen? ⟨w.heap.size,i,none⟩=false:=fun i=>by simp [World.frozen?,bH.vb]
          have zH:∀ i,w5.frozen? ⟨w.heap.size+1+1,i,none⟩=false:=fun i=>by simp [World.frozen?,bH.rb]
          have dU:=ae bH.gr;clear bH aO h2 pI;go_wp2;refine bodyPost_ret (v:= .tuple #[.agg (bz (.slice none 0 0) 0 0 0),.int .i64 1]) (by simp [results,Tryz.results161,go_sem, *]) rfl (by
           rw [ct.out];refine ⟨_,rfl,World.ownsRow_nil _ _ _ _,?_⟩;have gh:=dU.out
           (repeat (first|exact Below.refl _ _|assumption|refine Below.drew ?_|refine cp ?_|refine Below.setCell ?_ (by first|omega|(simp<;>omega)) _|refine Below.alloc ?_ (by first|omega|(simp<;>omega)) _)))
         |true=>
          cases h6:decide (f4<0) with
          |true=>
           have ct:Hid (aV V E=(1,cd)):=ae (by
            have lS:ik cur ⟨f0,f1,f2,f3,f4⟩=true:=by simp only [ik,h1,h2,h3,h4,h5,h6];rfl
            unfold aV;rw [if_neg (by rw [gS.out];decide),wZ.out,iM.out,if_pos lS])
           rw [h2] at jI
           go_wp2_with fail
           (with_reducible refine jI.out.mono ?_);rintro e w5 ⟨rfl,aO⟩;have bH:=vo.out.grow aO;clear v0 v1 v2 v3 e0 e1 e2 e3 e4 r0 r1 r2 r3 t0 t1 t2 t3 t4;obtain ⟨v0,v1,v2,v3⟩:=bZ bH.vb;obtain ⟨r0,r1,r2,r3⟩:=bZ bH.rb;obtain ⟨t0,t1,t2,t3,t4⟩:=cw (aO.heap fw.out);have zG:=af bH.vb;have Cj:=af bH.rb;have im:=af (aO.heap fw.out);have pI:∀ i,w5.frozen? ⟨w.heap.size,i,none⟩=false:=fun i=>by simp [World.frozen?,bH.vb]
           have zH:∀ i,w5.frozen? ⟨w.heap.size+1+1,i,none⟩=false:=fun i=>by simp [World.frozen?,bH.rb]
           have dU:=ae bH.gr;clear bH aO h2 pI;go_wp2;refine bodyPost_ret (v:= .tuple #[.agg (bz (.slice none 0 0) 0 0 0),.int .i64 1]) (by simp [results,Tryz.results161,go_sem, *]) rfl (by
            rw [ct.out];refine ⟨_,rfl,World.ownsRow_nil _ _ _ _,?_⟩;have gh:=dU.out
            (repeat (first|exact Below.refl _ _|assumption|refine Below.drew ?_|refine cp ?_|refine Below.setCell ?_ (by first|omega|(simp<;>omega)) _|refine Below.alloc ?_ (by first|omega|(simp<;>omega)) _)))
          |false=>
           cases h7:decide (1099511627776<f0) with
           |true=>
            have ct:Hid (aV V E=(1,cd)):=ae (by
             have lS:ik cur ⟨f0,f1,f2,f3,f4⟩=true:=by simp only [ik,h1,h2,h3,h4,h5,h6,h7];rfl
             unfold aV;rw [if_neg (by rw [gS.out];decide),wZ.out,iM.out,if_pos lS])
            rw [h2] at jI
            go_wp2_with fail
            (with_reducible refine jI.out.mono ?_);rintro e w5 ⟨rfl,aO⟩;have bH:=vo.out.grow aO;clear v0 v1 v2 v3 e0 e1 e2 e3 e4 r0 r1 r2 r3 t0 t1 t2 t3 t4;obtain ⟨v0,v1,v2,v3⟩:=bZ bH.vb;obtain ⟨r0,r1,r2,r3⟩:=bZ bH.rb;obtain ⟨t0,t1,t2,t3,t4⟩:=cw (aO.heap fw.out);have zG:=af bH.vb;have Cj:=af bH.rb;have im:=af (aO.heap fw.out);have pI:∀ i,w5.frozen? ⟨w.heap.size,i,none⟩=false:=fun i=>by simp [World.frozen?,bH.vb]
            have zH:∀ i,w5.frozen? ⟨w.heap.size+1+1,i,none⟩=false:=fun i=>by simp [World.frozen?,bH.rb]
            have dU:=ae bH.gr;clear bH aO h2 pI;go_wp2;refine bodyPost_ret (v:= .tuple #[.agg (bz (.slice none 0 0) 0 0 0),.int .i64 1]) (by simp [results,Tryz.results161,go_sem, *]) rfl (by
             rw [ct.out];refine ⟨_,rfl,World.ownsRow_nil _ _ _ _,?_⟩;have gh:=dU.out
             (repeat (first|exact Below.refl _ _|assumption|refine Below.drew ?_|refine cp ?_|refine Below.setCell ?_ (by first|omega|(simp<;>omega)) _|refine Below.alloc ?_ (by first|omega|(simp<;>omega)) _)))
           |false=>
            cases h8:decide (1099511627776<f4) with
            |true=>
             have ct:Hid (aV V E=(1,cd)):=ae (by
              have lS:ik cur ⟨f0,f1,f2,f3,f4⟩=true:=by simp only [ik,h1,h2,h3,h4,h5,h6,h7,h8];rfl
              unfold aV;rw [if_neg (by rw [gS.out];decide),wZ.out,iM.out,if_pos lS])
             rw [h2] at jI
             go_wp2_with fail
             (with_reducible refine jI.out.mono ?_);rintro e w5 ⟨rfl,aO⟩;have bH:=vo.out.grow aO;clear v0 v1 v2 v3 e0 e1 e2 e3 e4 r0 r1 r2 r3 t0 t1 t2 t3 t4;obtain ⟨v0,v1,v2,v3⟩:=bZ bH.vb;obtain ⟨r0,r1,r2,r3⟩:=bZ bH.rb;obtain ⟨t0,t1,t2,t3,t4⟩:=cw (aO.heap fw.out);have zG:=af bH.vb;have Cj:=af bH.rb;have im:=af (aO.heap fw.out);have pI:∀ i,w5.frozen? ⟨w.heap.size,i,none⟩=false:=fun i=>by simp [World.frozen?,bH.vb]
             have zH:∀ i,w5.frozen? ⟨w.heap.size+1+1,i,none⟩=false:=fun i=>by simp [World.frozen?,bH.rb]
             have dU:=ae bH.gr;clear bH aO h2 pI;go_wp2;refine bodyPost_ret (v:= .tuple #[.agg (bz (.slice none 0 0) 0 0 0),.int .i64 1]) (by simp [results,Tryz.results161,go_sem, *]) rfl (by
              rw [ct.out];refine ⟨_,rfl,World.ownsRow_nil _ _ _ _,?_⟩;have gh:=dU.out
              (repeat (first|exact Below.refl _ _|assumption|refine Below.drew ?_|refine cp ?_|refine Below.setCell ?_ (by first|omega|(simp<;>omega)) _|refine Below.alloc ?_ (by first|omega|(simp<;>omega)) _)))
            |false=>
             have adl:ik cur ⟨f0,f1,f2,f3,f4⟩=false:=by simp only [ik,h1,h2,h3,h4,h5,h6,h7,h8];rfl
             have atk:=ae adl;rw [h2] at jI
             go_wp2_with fail
             (with_reducible refine jI.out.mono ?_);rintro e w5 ⟨rfl,aO⟩;have bH:=vo.out.grow aO;clear v0 v1 v2 v3 e0 e1 e2 e3 e4 r0 r1 r2 r3 t0 t1 t2 t3 t4;obtain ⟨v0,v1,v2,v3⟩:=bZ bH.vb;obtain ⟨r0,r1,r2,r3⟩:=bZ bH.rb;obtain ⟨t0,t1,t2,t3,t4⟩:=cw (aO.heap fw.out);have zG:=af bH.vb;have Cj:=af bH.rb;have im:=af (aO.heap fw.out);have pI:∀ i,w5.frozen? ⟨w.heap.size,i,none⟩=false:=fun i=>by simp [World.frozen?,bH.vb]
             have zH:∀ i,w5.frozen? ⟨w.heap.size+1+1,i,none⟩=false:=fun i=>by simp [World.frozen?,bH.rb]
             have dU:=ae bH.gr;have uZ:=ek (ek eT.out Ci.out) aO;obtain ⟨i0,bK,hz0,hz1,hz2⟩:=info_parts Tryz.Td;have dV:(w5.alloc (.cells #[.int .i64 f0,.int .i64 f1,.string f2,.string f3,.int .i64 f4] 101)).heap[w5.heap.size]?=some (.cells #[.int .i64 f0,.int .i64 f1,.string f2,.string f3,.int .i64 f4] 101 (0,0)):=aw _ _;have wR:B1≤w5.heap.size:=aN (aN zF Ci.out.size) aO.size;obtain ⟨g6,Nx,w6,adm,Jo,TZ,atl,atm⟩:=run_append_lies (P:=Tryz.prog) (w5.alloc (.cells #[.int .i64 f0,.int .i64 f1,.string f2,.string f3,.int .i64 f4] 101)) 83 83 B1 101 i0 _ 5 56 Tryz.underlying83 bK hz0 hz1 hz2 rfl (by decide) _ _ _ (uZ.alloc _)
              ⟨w5.heap.size,0,none⟩ 1 1 (ig ⟨f0,f1,f2,f3,f4⟩) rfl (fun j u hu=>World.news_of_block dV j u (by simpa [ig] using hu)) (MN _) (by decide) (by unfold maxLen;omega) (by omega) (by simp;omega) _ rfl
             have lU:mq w w6 (.slice ca cur.length cc) V.seq V.next V.aj (.slice (some ⟨b,o,none⟩) E.add.length ac) (.slice da E.drop.length dc) E.seq E.next E.aj:=(bH.grow (Grow.alloc _ _)).grown TZ (fun k hk=>((uZ.lt k hk).1)) (by omega);have adn:=lU.SG (.slice (some ⟨g6,0,none⟩) (cur.length+1) Nx);have zI:Own B1 (w6.setCell ⟨w.heap.size,0,none⟩ (.slice (some ⟨g6,0,none⟩) (cur.length+1) Nx)) (.slice (some ⟨g6,0,none⟩) (cur.length+1) Nx) (cur++ [⟨f0,f1,f2,f3,f4⟩]):=by
              refine pA ?_ lU.vb (by decide);have wT:kx (cur++ [(⟨f0,f1,f2,f3,f4⟩:Tb)])=kx cur++ig ⟨f0,f1,f2,f3,f4⟩:=by simp [kx]
              rw [List.length_append,wT];exact Jo
             have bq:Hid (abE w B1 V E (.slice (some ⟨b,o,none⟩) E.add.length ac) (.slice da E.drop.length dc) (.int .i64 ((i+1:Nat):Int)) (w6.setCell ⟨w.heap.size,0,none⟩ (.slice (some ⟨g6,0,none⟩) (cur.length+1) Nx))):=ae ⟨i+1,_,_,rfl,hlt,adn,zI,by rw [wZ.out,iM.out,if_neg (by rw [atk.out];decide)],by simp;omega,by have:=TZ.size;simp at this ⊢;omega⟩;have atn:=ae adm;obtain ⟨q0,q1,q2,q3⟩:=bZ lU.vb;have lq6:=af lU.vb;have fq6:∀ i,w6.frozen? ⟨w.heap.size,i,none⟩=false:=fun i=>by simp [World.frozen?,lU.vb]
             clear bH aO h2 zH uZ bK hz0 hz1 hz2 dV adm Jo TZ atl atm lU adn zI adl
             go_wp2_with (at_builtin;refine fC rfl rfl rfl rfl atn.out ?_)
             go_roundw
             case rel=>exact bq.out
             case measure=>simp [intOf];omega
    ·obtain rfl:i=E.add.length:=by omega
     rw [List.drop_length] at lC;have ado:kz (V.tabs.filter (gK E.drop)) E.add=some cur:=lC;have mo:(jq cur).length=cur.length:=(zb cur).length_eq;have eG:Hid (aV V E=if ky (jq cur)=true then (15,cd) else if qA V E=true then (1,cd) else (0,⟨jq cur,cJ E.seq V.seq,cJ E.next V.next,cJ E.aj V.aj⟩)):=ae (by
      unfold aV;rw [if_neg (by rw [gS.out];decide),ado];dsimp only;rw [if_neg (by rw [mo];omega)])
     have Ck:=aqR hown (by omega);have adp:=hown.lt;obtain ⟨ca,cc,rfl⟩:=iV hown;obtain ⟨v0,v1,v2,v3⟩:=bZ pH.vb;have lv4:=af pH.vb;have le4:=af pH.eb;have lr4:=af pH.rb;have adq:=ae Ck;have vo:=ae pH;have atp:=ae adp;have adr:(cur.length:Int)≤65536:=by omega
     clear Ck pH adp hown lC ado zf
     go_wp2_with fail
     (with_reducible refine adq.out.mono ?_);rintro e w5 ⟨rfl,uZ,nz⟩;have bH:=vo.out.grown nz (fun k hk=>(atp.out k hk).1) EG;have rU:=arv uZ (by rw [mo];omega);have BL:=ae rU;have Ny:=ae uZ;have atq:=ae bH;clear v0 v1 v2 v3;obtain ⟨v0,v1,v2,v3⟩:=bZ bH.vb;have zG:=af bH.vb;clear rU uZ nz bH
     go_wp2_with fail
     (with_reducible refine BL.out.mono ?_);rintro e w6 ⟨rfl,cM⟩;have lU:=atq.out.grow cM;have Jo:=ek Ny.out cM;clear v0 v1 v2 v3;obtain ⟨v0,v1,v2,v3⟩:=bZ lU.vb;obtain ⟨e0,e1,e2,e3,e4⟩:=cw lU.eb;obtain ⟨r0,r1,r2,r3⟩:=bZ lU.rb;have lv6:=af lU.vb;have le6:=af lU.eb;have lr6:=af lU.rb;have fv6:∀ i,w6.frozen? ⟨w.heap.size,i,none⟩=false:=fun i=>by simp [World.frozen?,lU.vb]
     have fr6:∀ i,w6.frozen? ⟨w.heap.size+1+1,i,none⟩=false:=fun i=>by simp [World.frozen?,lU.rb]
     have Nz:=ae lU;have NA:=ae Jo;have Cl:=ae lU.gr;clear lU Jo cM BL adq;cases NB:ky (jq cur) with
     |true=>
      have ct:Hid (aV V E=(15,cd)):=ae (by rw [eG.out,if_pos NB]);clear NB fv6;go_wp2;refine bodyPost_ret (v:= .tuple #[.agg (bz (.slice none 0 0) 0 0 0),.int .i64 15]) (by simp [results,Tryz.results161,go_sem, *]) rfl (by
       rw [ct.out];refine ⟨_,rfl,World.ownsRow_nil _ _ _ _,?_⟩;have gh:=Cl.out
       (repeat (first|exact Below.refl _ _|assumption|refine Below.drew ?_|refine cp ?_|refine Below.setCell ?_ (by first|omega|(simp<;>omega)) _|refine Below.alloc ?_ (by first|omega|(simp<;>omega)) _)))
     |false=>
     rw [if_neg (by rw [NB];decide)] at eG;clear NB
     go_upto_region 20 with fail
     go_cut [110] from 111 to 120 (fun c wx=>c= .bool ((E.seq != 0)&&decide (E.seq<V.seq))∧wx=w6)
     case first=>
      cases p1:(E.seq != 0) with
      |false=>
       go_wp2;go_meet;exact ⟨by rw [p1];rfl,rfl⟩
      |true=>
       go_wp2;go_meet;exact ⟨by rw [p1];rfl,rfl⟩
     case rest=>
     obtain ⟨rfl,hwc⟩:=hcut;have hwc':=hwc.symm;subst hwc';clear hwc;cases n1:((E.seq != 0)&&decide (E.seq<V.seq)) with
     |true=>
      have ct:Hid (aV V E=(1,cd)):=ae (by rw [eG.out,if_pos (by simp only [qA,n1];rfl)]);go_wp2;refine bodyPost_ret (v:= .tuple #[.agg (bz (.slice none 0 0) 0 0 0),.int .i64 1]) (by simp [results,Tryz.results161,go_sem, *]) rfl (by
       rw [ct.out];refine ⟨_,rfl,World.ownsRow_nil _ _ _ _,?_⟩;have gh:=Cl.out
       (repeat (first|exact Below.refl _ _|assumption|refine Below.drew ?_|refine cp ?_|refine Below.setCell ?_ (by first|omega|(simp<;>omega)) _|refine Below.alloc ?_ (by first|omega|(simp<;>omega)) _)))
     |false=>
     go_upto_region 21 with fail
     go_cut [110] from 121 to 130 (fun c wx=>c= .bool ((E.next != 0)&&decide (E.next<V.next))∧wx=w6)
     case first=>
      cases p1:(E.next != 0) with
      |false=>
       go_wp2;go_meet;exact ⟨by rw [p1];rfl,rfl⟩
      |true=>
       go_wp2;go_meet;exact ⟨by rw [p1];rfl,rfl⟩
     case rest=>
     obtain ⟨rfl,hwc⟩:=hcut;have hwc':=hwc.symm;subst hwc';clear hwc;cases n2:((E.next != 0)&&decide (E.next<V.next)) with
     |true=>
      have ct:Hid (aV V E=(1,cd)):=ae (by rw [eG.out,if_pos (by simp only [qA,n1,n2];rfl)]);go_wp2;refine bodyPost_ret (v:= .tuple #[.agg (bz (.slice none 0 0) 0 0 0),.int .i64 1]) (by simp [results,Tryz.results161,go_sem, *]) rfl (by
       rw [ct.out];refine ⟨_,rfl,World.ownsRow_nil _ _ _ _,?_⟩;have gh:=Cl.out
       (repeat (first|exact Below.refl _ _|assumption|refine Below.drew ?_|refine cp ?_|refine Below.setCell ?_ (by first|omega|(simp<;>omega)) _|refine Below.alloc ?_ (by first|omega|(simp<;>omega)) _)))
     |false=>
     go_upto_region 22 with fail
     go_cut [110] from 131 to 140 (fun c wx=>c= .bool ((E.aj != 0)&&decide (E.aj<V.aj))∧wx=w6)
     case first=>
      cases p1:(E.aj != 0) with
      |false=>
       go_wp2;go_meet;exact ⟨by rw [p1];rfl,rfl⟩
      |true=>
       go_wp2;go_meet;exact ⟨by rw [p1];rfl,rfl⟩
     case rest=>
     obtain ⟨rfl,hwc⟩:=hcut;have hwc':=hwc.symm;subst hwc';clear hwc;cases n3:((E.aj != 0)&&decide (E.aj<V.aj)) with
     |true=>
      have ct:Hid (aV V E=(1,cd)):=ae (by rw [eG.out,if_pos (by simp only [qA,n1,n2,n3];rfl)]);go_wp2;refine bodyPost_ret (v:= .tuple #[.agg (bz (.slice none 0 0) 0 0 0),.int .i64 1]) (by simp [results,Tryz.results161,go_sem, *]) rfl (by
       rw [ct.out];refine ⟨_,rfl,World.ownsRow_nil _ _ _ _,?_⟩;have gh:=Cl.out
       (repeat (first|exact Below.refl _ _|assumption|refine Below.drew ?_|refine cp ?_|refine Below.setCell ?_ (by first|omega|(simp<;>omega)) _|refine Below.alloc ?_ (by first|omega|(simp<;>omega)) _)))
     |false=>
     cases n4:decide (1099511627776<E.next) with
     |true=>
      have ct:Hid (aV V E=(1,cd)):=ae (by rw [eG.out,if_pos (by simp only [qA,n1,n2,n3,n4];rfl)]);go_wp2;refine bodyPost_ret (v:= .tuple #[.agg (bz (.slice none 0 0) 0 0 0),.int .i64 1]) (by simp [results,Tryz.results161,go_sem, *]) rfl (by
       rw [ct.out];refine ⟨_,rfl,World.ownsRow_nil _ _ _ _,?_⟩;have gh:=Cl.out
       (repeat (first|exact Below.refl _ _|assumption|refine Below.drew ?_|refine cp ?_|refine Below.setCell ?_ (by first|omega|(simp<;>omega)) _|refine Below.alloc ?_ (by first|omega|(simp<;>omega)) _)))
     |false=>
     cases n5:decide (1099511627776<E.aj) with
     |true=>
      have ct:Hid (aV V E=(1,cd)):=ae (by rw [eG.out,if_pos (by simp only [qA,n1,n2,n3,n4,n5];rfl)]);go_wp2;refine bodyPost_ret (v:= .tuple #[.agg (bz (.slice none 0 0) 0 0 0),.int .i64 1]) (by simp [results,Tryz.results161,go_sem, *]) rfl (by
       rw [ct.out];refine ⟨_,rfl,World.ownsRow_nil _ _ _ _,?_⟩;have gh:=Cl.out
       (repeat (first|exact Below.refl _ _|assumption|refine Below.drew ?_|refine cp ?_|refine Below.setCell ?_ (by first|omega|(simp<;>omega)) _|refine Below.alloc ?_ (by first|omega|(simp<;>omega)) _)))
     |false=>
     have ct:Hid (aV V E=(0,⟨jq cur,cJ E.seq V.seq,cJ E.next V.next,cJ E.aj V.aj⟩)):=ae (by rw [eG.out,if_neg (by simp only [qA,n1,n2,n3,n4,n5];decide)])
     go_upto_region 26 with fail
     go_cut [] from 148 to 168 (fun wx=>jH w B1 (.slice ca cur.length cc) (jq cur) V E (.slice aa E.add.length ac) (.slice da E.drop.length dc) true true true wx)
     case first=>
      rename_i J K hJ hK
      refine uD (fun a0 ha0=> ?_);have F2:a0.tmps[2]?=some (.pointer (some ⟨w.heap.size,0,none⟩)):=by rw [ha0];rfl
      have F3:a0.tmps[3]?=some (.pointer (some ⟨w.heap.size+1,0,none⟩)):=by rw [ha0];rfl
      have hsz:a0.tmps.size=170:=by rw [ha0];rfl
      have tj:Hid (∀ a1 wx,qg [148,149,150,151,152,153,154,155,156,157,158,159,160,161,162,163,164,165,166,167,168] a0 a1→jH w B1 (.slice ca cur.length cc) (jq cur) V E (.slice aa E.add.length ac) (.slice da E.drop.length dc) true true true wx→K a1 wx):=ae (fun a1 wx ha hT=>by
       refine hK _ _ (hJ _ _ ?_);refine ⟨a1.tmps.getD 148 undef,a1.tmps.getD 149 undef,a1.tmps.getD 150 undef,a1.tmps.getD 151 undef,a1.tmps.getD 152 undef,a1.tmps.getD 153 undef,a1.tmps.getD 154 undef,a1.tmps.getD 155 undef,a1.tmps.getD 156 undef,a1.tmps.getD 157 undef,a1.tmps.getD 158 undef,a1.tmps.getD 159 undef,a1.tmps.getD 160 undef,a1.tmps.getD 161 undef,a1.tmps.getD 162 undef,a1.tmps.getD 163 undef,a1.tmps.getD 164 undef,a1.tmps.getD 165 undef,a1.tmps.getD 166 undef,a1.tmps.getD 167 undef,a1.tmps.getD 168 undef,hT,ha.fill.trans ?_⟩;subst ha0;kernel_rfl)
      clear ha0 n1 n2 n3 n4 n5 fr6 r0 r1 r2 r3 hK hJ;refine uG (Cg w V E) (dD w B1 (.slice ca cur.length cc) (jq cur) V E (.slice aa E.add.length ac) (.slice da E.drop.length dc)) (Rest w.heap.size) [148,149,150,151,152,153,154,155,156,157,158,159,160,161,162,163,164,165,166,167,168] (by kernel_rfl) (by kernel_rfl) (by rw [hsz];rfl) Cg.keep ?_ ?_ (fun a1 W hf=>tj.out a1 W hf.alike hf.world)
      ·exact jH.grow ⟨NA.out,Nz.out.vb,Nz.out.eb,Nz.out.rb,Cl.out⟩ (Grow.drew _)
      clear tj NA Nz;refine ⟨?_,?_,?_,?_,?_,?_,?_,?_,?_,?_,?_,?_,?_,?_,?_,?_,?_,?_,?_,?_,?_,?_,?_,?_,True.intro⟩
      ·intro listed a W hf ar ak
       have hs1:a.tmps.size=170:=hf.alike.size.trans hsz;have G3:a.tmps[3]'(by rw [hs1];decide)= .pointer (some ⟨w.heap.size+1,0,none⟩):=ax ((hf.alike.same 3 (by decide)).trans F3) _;refine aX rfl (by rfl) (fun K' hK'=> ?_);go_simp;exact hK' _ _ ⟨_,rfl,(fun _ _=>rfl),Rest.refl _ _,dD.other 0 (by decide) (by decide) (by decide) hf.world⟩
      ·intro listed a W hf ar ak
       have hs1:a.tmps.size=170:=hf.alike.size.trans hsz;obtain ⟨v0,s0,q0⟩:=hf.slot 0 148 rfl (aJ ak 0 (by kernel_rfl));have kZ:v0=_:=q0;subst kZ;have aED:=ax s0 (by rw [hs1];decide);obtain ⟨e0,e1,e2,e3,e4⟩:=cw hf.world.eb;have le:=af hf.world.eb;refine aX rfl (by rfl) (fun K' hK'=> ?_);go_simp;exact hK' _ _ ⟨_,rfl,(fun _ _=>rfl),Rest.refl _ _,dD.other 1 (by decide) (by decide) (by decide) hf.world⟩
      ·intro listed a W hf ar ak
       have hs1:a.tmps.size=170:=hf.alike.size.trans hsz;have G2:a.tmps[2]'(by rw [hs1];decide)= .pointer (some ⟨w.heap.size,0,none⟩):=ax ((hf.alike.same 2 (by decide)).trans F2) _;refine aX rfl (by rfl) (fun K' hK'=> ?_);go_simp;exact hK' _ _ ⟨_,rfl,(fun _ _=>rfl),Rest.refl _ _,dD.other 2 (by decide) (by decide) (by decide) hf.world⟩
      ·intro listed a W hf ar ak
       have hs1:a.tmps.size=170:=hf.alike.size.trans hsz;obtain ⟨v2,s2,q2⟩:=hf.slot 2 150 rfl (aJ ak 2 (by kernel_rfl));have od:v2=_:=q2;subst od;have aEE:=ax s2 (by rw [hs1];decide);have cW:=dZ hf.closed (n:=6) (e:=19) (i:=3) (by kernel_rfl) ar;have hv:=hf.world.wX;rw [cW] at hv;obtain ⟨e0,e1,e2,e3⟩:=bZ hv;have le:=af hv;simp only [cond] at e1 e2 e3;refine aX rfl (by rfl) (fun K' hK'=> ?_);go_simp;exact hK' _ _ ⟨_,rfl,(fun _ _=>rfl),Rest.refl _ _,dD.other 3 (by decide) (by decide) (by decide) hf.world⟩
      ·intro listed a W hf ar ak
       have hs1:a.tmps.size=170:=hf.alike.size.trans hsz;obtain ⟨v1,s1,q1⟩:=hf.slot 1 149 rfl (aJ ak 1 (by kernel_rfl));have kn:v1=_:=q1;subst kn;have aEF:=ax s1 (by rw [hs1];decide);obtain ⟨v3,s3,q3⟩:=hf.slot 3 151 rfl (aJ ak 3 (by kernel_rfl));have qF:v3=_:=q3;subst qF;have aEG:=ax s3 (by rw [hs1];decide);have lv:=af hf.world.wX;refine aX rfl (by rfl) (fun K' hK'=> ?_);go_simp;exact hK' _ (W.alloc (.cells #[.int .u64 E.seq,.int .u64 V.seq] 37)) ⟨_,rfl,(fun _ _=>⟨W.heap.size,by omega,rfl,aw _ _⟩),Rest.grow (Grow.alloc _ _),dD.other 4 (by decide) (by decide) (by decide) (hf.world.grow (Grow.alloc _ _))⟩
      ·intro listed a W hf ar ak
       have hs1:a.tmps.size=170:=hf.alike.size.trans hsz;obtain ⟨v4,s4,q4⟩:=hf.slot 4 152 rfl (aJ ak 4 (by kernel_rfl));obtain ⟨b4,ne4,q4,c4⟩:=q4;have qi:v4=_:=q4;subst qi;have aEI:=ax s4 (by rw [hs1];decide);refine jc rfl (by rfl) (by go_simp) (aqE E.seq V.seq b4 W (by simp [World.cell?,c4]) (by simp [World.cell?,c4])) ?_;rintro e w7 ⟨rfl,rfl⟩;exact ⟨_,rfl,_,rfl,(fun _ _=>rfl),Rest.refl _ _,dD.other 5 (by decide) (by decide) (by decide) hf.world⟩
      ·intro listed a W hf ar ak
       have hs1:a.tmps.size=170:=hf.alike.size.trans hsz;have G3:a.tmps[3]'(by rw [hs1];decide)= .pointer (some ⟨w.heap.size+1,0,none⟩):=ax ((hf.alike.same 3 (by decide)).trans F3) _;refine aX rfl (by rfl) (fun K' hK'=> ?_);go_simp;exact hK' _ _ ⟨_,rfl,(fun _ _=>rfl),Rest.refl _ _,dD.other 6 (by decide) (by decide) (by decide) hf.world⟩
      ·intro listed a W hf ar ak
       have hs1:a.tmps.size=170:=hf.alike.size.trans hsz;obtain ⟨v6,s6,q6⟩:=hf.slot 6 154 rfl (aJ ak 6 (by kernel_rfl));have Bj:v6=_:=q6;subst Bj;have aEJ:=ax s6 (by rw [hs1];decide);obtain ⟨e0,e1,e2,e3,e4⟩:=cw hf.world.eb;have le:=af hf.world.eb;refine aX rfl (by rfl) (fun K' hK'=> ?_);go_simp;exact hK' _ _ ⟨_,rfl,(fun _ _=>rfl),Rest.refl _ _,dD.other 7 (by decide) (by decide) (by decide) hf.world⟩
      ·intro listed a W hf ar ak
       have hs1:a.tmps.size=170:=hf.alike.size.trans hsz;have G2:a.tmps[2]'(by rw [hs1];decide)= .pointer (some ⟨w.heap.size,0,none⟩):=ax ((hf.alike.same 2 (by decide)).trans F2) _;refine aX rfl (by rfl) (fun K' hK'=> ?_);go_simp;exact hK' _ _ ⟨_,rfl,(fun _ _=>rfl),Rest.refl _ _,dD.other 8 (by decide) (by decide) (by decide) hf.world⟩
      ·intro listed a W hf ar ak
       have hs1:a.tmps.size=170:=hf.alike.size.trans hsz;obtain ⟨v8,s8,q8⟩:=hf.slot 8 156 rfl (aJ ak 8 (by kernel_rfl));have Bn:v8=_:=q8;subst Bn;have aEK:=ax s8 (by rw [hs1];decide);have cW:=dZ hf.closed (n:=6) (e:=21) (i:=9) (by kernel_rfl) ar;have hv:=hf.world.wX;rw [cW] at hv;obtain ⟨e0,e1,e2,e3⟩:=bZ hv;have le:=af hv;simp only [cond] at e1 e2 e3;refine aX rfl (by rfl) (fun K' hK'=> ?_);go_simp;exact hK' _ _ ⟨_,rfl,(fun _ _=>rfl),Rest.refl _ _,dD.other 9 (by decide) (by decide) (by decide) hf.world⟩
      ·intro listed a W hf ar ak
       have hs1:a.tmps.size=170:=hf.alike.size.trans hsz;obtain ⟨v7,s7,q7⟩:=hf.slot 7 155 rfl (aJ ak 7 (by kernel_rfl));have BV:v7=_:=q7;subst BV;have aEL:=ax s7 (by rw [hs1];decide);obtain ⟨v9,s9,q9⟩:=hf.slot 9 157 rfl (aJ ak 9 (by kernel_rfl));have Bo:v9=_:=q9;subst Bo;have aEM:=ax s9 (by rw [hs1];decide);have lv:=af hf.world.wX;refine aX rfl (by rfl) (fun K' hK'=> ?_);go_simp;exact hK' _ (W.alloc (.cells #[.int .i64 E.next,.int .i64 V.next] 3)) ⟨_,rfl,(fun _ _=>⟨W.heap.size,by omega,rfl,aw _ _⟩),Rest.grow (Grow.alloc _ _),dD.other 10 (by decide) (by decide) (by decide) (hf.world.grow (Grow.alloc _ _))⟩
      ·intro listed a W hf ar ak
       have hs1:a.tmps.size=170:=hf.alike.size.trans hsz;obtain ⟨v10,tq,mU⟩:=hf.slot 10 158 rfl (aJ ak 10 (by kernel_rfl));obtain ⟨NC,aEN,mU,c10⟩:=mU;have RT:v10=_:=mU;subst RT;have aEO:=ax tq (by rw [hs1];decide);refine jc rfl (by rfl) (by go_simp) (SS E.next V.next NC W (by simp [World.cell?,c10]) (by simp [World.cell?,c10])) ?_;rintro e w7 ⟨rfl,rfl⟩;exact ⟨_,rfl,_,rfl,(fun _ _=>rfl),Rest.refl _ _,dD.other 11 (by decide) (by decide) (by decide) hf.world⟩
      ·intro listed a W hf ar ak
       have hs1:a.tmps.size=170:=hf.alike.size.trans hsz;have G3:a.tmps[3]'(by rw [hs1];decide)= .pointer (some ⟨w.heap.size+1,0,none⟩):=ax ((hf.alike.same 3 (by decide)).trans F3) _;refine aX rfl (by rfl) (fun K' hK'=> ?_);go_simp;exact hK' _ _ ⟨_,rfl,(fun _ _=>rfl),Rest.refl _ _,dD.other 12 (by decide) (by decide) (by decide) hf.world⟩
      ·intro listed a W hf ar ak
       have hs1:a.tmps.size=170:=hf.alike.size.trans hsz;obtain ⟨v12,s12,wF⟩:=hf.slot 12 160 rfl (aJ ak 12 (by kernel_rfl));have GY:v12=_:=wF;subst GY;have aEP:=ax s12 (by rw [hs1];decide);obtain ⟨e0,e1,e2,e3,e4⟩:=cw hf.world.eb;have le:=af hf.world.eb;refine aX rfl (by rfl) (fun K' hK'=> ?_);go_simp;exact hK' _ _ ⟨_,rfl,(fun _ _=>rfl),Rest.refl _ _,dD.other 13 (by decide) (by decide) (by decide) hf.world⟩
      ·intro listed a W hf ar ak
       have hs1:a.tmps.size=170:=hf.alike.size.trans hsz;have G2:a.tmps[2]'(by rw [hs1];decide)= .pointer (some ⟨w.heap.size,0,none⟩):=ax ((hf.alike.same 2 (by decide)).trans F2) _;refine aX rfl (by rfl) (fun K' hK'=> ?_);go_simp;exact hK' _ _ ⟨_,rfl,(fun _ _=>rfl),Rest.refl _ _,dD.other 14 (by decide) (by decide) (by decide) hf.world⟩
      ·intro listed a W hf ar ak
       have hs1:a.tmps.size=170:=hf.alike.size.trans hsz;obtain ⟨v14,TU,Ce⟩:=hf.slot 14 162 rfl (aJ ak 14 (by kernel_rfl));have atu:v14=_:=Ce;subst atu;have aEQ:=ax TU (by rw [hs1];decide);have cW:=dZ hf.closed (n:=6) (e:=23) (i:=15) (by kernel_rfl) ar;have hv:=hf.world.wX;rw [cW] at hv;obtain ⟨e0,e1,e2,e3⟩:=bZ hv;have le:=af hv;simp only [cond] at e1 e2 e3;refine aX rfl (by rfl) (fun K' hK'=> ?_);go_simp;exact hK' _ _ ⟨_,rfl,(fun _ _=>rfl),Rest.refl _ _,dD.other 15 (by decide) (by decide) (by decide) hf.world⟩
      ·intro listed a W hf ar ak
       have hs1:a.tmps.size=170:=hf.alike.size.trans hsz;obtain ⟨v13,TS,vh⟩:=hf.slot 13 161 rfl (aJ ak 13 (by kernel_rfl));have TT:v13=_:=vh;subst TT;have aER:=ax TS (by rw [hs1];decide);obtain ⟨v15,s15,Cm⟩:=hf.slot 15 163 rfl (aJ ak 15 (by kernel_rfl));have atw:v15=_:=Cm;subst atw;have aES:=ax s15 (by rw [hs1];decide);have lv:=af hf.world.wX;refine aX rfl (by rfl) (fun K' hK'=> ?_);go_simp;exact hK' _ (W.alloc (.cells #[.int .i64 E.aj,.int .i64 V.aj] 3)) ⟨_,rfl,(fun _ _=>⟨W.heap.size,by omega,rfl,aw _ _⟩),Rest.grow (Grow.alloc _ _),dD.other 16 (by decide) (by decide) (by decide) (hf.world.grow (Grow.alloc _ _))⟩
      ·intro listed a W hf ar ak
       have hs1:a.tmps.size=170:=hf.alike.size.trans hsz;obtain ⟨v16,s16,qK⟩:=hf.slot 16 164 rfl (aJ ak 16 (by kernel_rfl));obtain ⟨b16,aET,qK,c16⟩:=qK;have atz:v16=_:=qK;subst atz;have aEU:=ax s16 (by rw [hs1];decide);refine jc rfl (by rfl) (by go_simp) (SS E.aj V.aj b16 W (by simp [World.cell?,c16]) (by simp [World.cell?,c16])) ?_;rintro e w7 ⟨rfl,rfl⟩;exact ⟨_,rfl,_,rfl,(fun _ _=>rfl),Rest.refl _ _,dD.other 17 (by decide) (by decide) (by decide) hf.world⟩
      ·intro listed a W hf ar ak
       have hs1:a.tmps.size=170:=hf.alike.size.trans hsz;have G2:a.tmps[2]'(by rw [hs1];decide)= .pointer (some ⟨w.heap.size,0,none⟩):=ax ((hf.alike.same 2 (by decide)).trans F2) _;refine aX rfl (by rfl) (fun K' hK'=> ?_);go_simp;exact hK' _ _ ⟨_,rfl,(fun _ _=>rfl),Rest.refl _ _,dD.other 18 (by decide) (by decide) (by decide) hf.world⟩
      ·intro listed a W hf ar ak
       have hs1:a.tmps.size=170:=hf.alike.size.trans hsz;obtain ⟨v18,s18,q18⟩:=hf.slot 18 166 rfl (aJ ak 18 (by kernel_rfl));have atC:v18=_:=q18;subst atC;have aEV:=ax s18 (by rw [hs1];decide);obtain ⟨v5,s5,q5⟩:=hf.slot 5 153 rfl (aJ ak 5 (by kernel_rfl));have tk:v5=_:=q5;subst tk;have aEW:=ax s5 (by rw [hs1];decide);have hv:=hf.world.wX;obtain ⟨e0,e1,e2,e3⟩:=bZ hv;have le:=af hv;have fy:∀ i,W.frozen? ⟨w.heap.size,i,none⟩=false:=fun i=>by simp [World.frozen?,hv]
       refine aX rfl (by rfl) (fun K' hK'=> ?_);go_simp;exact hK' _ _ ⟨undef,rfl,(fun _ h=>by cases h),Rest.set _ _ _ _,hf.world.st1 (by rw [hf.size];decide)⟩
      ·intro listed a W hf ar ak
       have hs1:a.tmps.size=170:=hf.alike.size.trans hsz;have G2:a.tmps[2]'(by rw [hs1];decide)= .pointer (some ⟨w.heap.size,0,none⟩):=ax ((hf.alike.same 2 (by decide)).trans F2) _;refine aX rfl (by rfl) (fun K' hK'=> ?_);go_simp;exact hK' _ _ ⟨_,rfl,(fun _ _=>rfl),Rest.refl _ _,dD.other 20 (by decide) (by decide) (by decide) hf.world⟩
      ·intro listed a W hf ar ak
       have hs1:a.tmps.size=170:=hf.alike.size.trans hsz;obtain ⟨v20,s20,q20⟩:=hf.slot 20 167 rfl (aJ ak 20 (by kernel_rfl));have atG:v20=_:=q20;subst atG;have aEX:=ax s20 (by rw [hs1];decide);obtain ⟨v11,yJ,tr⟩:=hf.slot 11 159 rfl (aJ ak 11 (by kernel_rfl));have TR:v11=_:=tr;subst TR;have aEY:=ax yJ (by rw [hs1];decide);have hv:=hf.world.wX;obtain ⟨e0,e1,e2,e3⟩:=bZ hv;have le:=af hv;have fy:∀ i,W.frozen? ⟨w.heap.size,i,none⟩=false:=fun i=>by simp [World.frozen?,hv]
       refine aX rfl (by rfl) (fun K' hK'=> ?_);go_simp;exact hK' _ _ ⟨undef,rfl,(fun _ h=>by cases h),Rest.set _ _ _ _,hf.world.st2 (by rw [hf.size];decide)⟩
      ·intro listed a W hf ar ak
       have hs1:a.tmps.size=170:=hf.alike.size.trans hsz;have G2:a.tmps[2]'(by rw [hs1];decide)= .pointer (some ⟨w.heap.size,0,none⟩):=ax ((hf.alike.same 2 (by decide)).trans F2) _;refine aX rfl (by rfl) (fun K' hK'=> ?_);go_simp;exact hK' _ _ ⟨_,rfl,(fun _ _=>rfl),Rest.refl _ _,dD.other 22 (by decide) (by decide) (by decide) hf.world⟩
      ·intro listed a W hf ar ak
       have hs1:a.tmps.size=170:=hf.alike.size.trans hsz;obtain ⟨v22,s22,q22⟩:=hf.slot 22 168 rfl (aJ ak 22 (by kernel_rfl));have atJ:v22=_:=q22;subst atJ;have aEZ:=ax s22 (by rw [hs1];decide);obtain ⟨v17,s17,zJ⟩:=hf.slot 17 165 rfl (aJ ak 17 (by kernel_rfl));have atL:v17=_:=zJ;subst atL;have aFa:=ax s17 (by rw [hs1];decide);have hv:=hf.world.wX;obtain ⟨e0,e1,e2,e3⟩:=bZ hv;have le:=af hv;have fy:∀ i,W.frozen? ⟨w.heap.size,i,none⟩=false:=fun i=>by simp [World.frozen?,hv]
       refine aX rfl (by rfl) (fun K' hK'=> ?_);go_simp;exact hK' _ _ ⟨undef,rfl,(fun _ h=>by cases h),Rest.set _ _ _ _,hf.world.st3 (by rw [hf.size];decide)⟩
     case rest=>
     have ep:=hcut.rb;have iO:=hcut.vb;simp only [cond] at iO;clear v0 v1 v2 v3;obtain ⟨v0,v1,v2,v3⟩:=bZ iO;obtain ⟨z0,z1,z2,z3⟩:=bZ ep;have lv7:=af iO;have lr7:=af ep;have fr7:∀ i,wc.frozen? ⟨w.heap.size+1+1,i,none⟩=false:=fun i=>by simp [World.frozen?,ep]
     have Jp:=ae hcut;have kA:=ae ep;clear hcut ep iO;go_wp2;refine bodyPost_ret (arA (c:=0) rfl rfl (zh kA.out _ _ _ _)) rfl ?_;rw [ct.out];exact ⟨_,rfl,qx (BN Jp.out.own kA.out _ _ _ _) (by omega),uU Jp.out.below (by omega) _ _ _ _⟩
end Go.Proofs.YtoolkdapflaeeaaGreatDoor.Mn
namespace Go.Proofs.YtoolkdapflaeeaaGreatDoor
open Go.RowKit Go.Gl Go.aH Mn
theorem atM {B:Nat} {w:World} {v:Value} {l:List Tb} (h:Own B w v l):rV w v l:=by
 rcases h.2 with ⟨rfl,h0⟩|⟨g,cap,cur,rfl,h2,h3,h4⟩
 ·have hl:l= []:=jb h0
  subst hl;exact arZ w
 ·exact ⟨_,_,rfl,.inr ⟨g,0,rfl,af h3,wO pw h⟩⟩
theorem atN {w:World} {t:Array Value} {rb:Nat} {x0 x1 x2 x3:Value} (h2:t.getD 2 undef= .pointer (some ⟨rb,0,none⟩)) (hW:w.heap[rb]?=some (.cells #[x0,x1,x2,x3] 85 (0,0))):
  (results Tryz.f31 t).run Tryz.prog w= .ok (.agg #[x0,x1,x2,x3]) w:=by
 obtain ⟨k0,k1,k2,k3⟩:=bZ hW;simp only [fI] at h2;simp [results,Tryz.results31,go_sem,h2,k0,k1,k2,k3]
theorem Ua {w:World} {sb p:Nat} {tv:Value} {V:bu} {n:Int} {B:Nat} (hS:dy w sb p tv V n) (hown:Own B w tv V.tabs) (hl:V.tabs.length<1000000000):
  Calls Tryz.prog 31 #[.pointer (some ⟨sb,0,none⟩)] w fun e w'=>∃ v',e= .returned (.agg (bz v' V.seq V.next V.aj))∧Own w.heap.size w' v' V.tabs∧Grow w w':=by
 have ai:Grow w (w.alloc (.cells (bz (.slice none 0 0) 0 0 0) 85)):=Grow.alloc _ _;have hb:=aw w (.cells (bz (.slice none 0 0) 0 0 0) 85);have hS1:=hS.grow ai;obtain ⟨_,c1,c2,c3,c4,_,ls⟩:=hS1.cells;have eG:=ae (abC (ek hown ai) hl V.seq V.next V.aj);obtain ⟨ta,tc,rfl⟩:=iV hown;have Hb:=ae hb;have bT:=ae ai;have hz:(w.alloc (.cells (bz (.slice none 0 0) 0 0 0) 85)).heap.size=w.heap.size+1:=by simp
 clear hS hS1 hown hb ai;go_enter Tryz.func31,Tryz.ntmps31
 go_upto_region 1 with fail
 generalize w.alloc (.cells (bz (.slice none 0 0) 0 0 0) 85)=w1 at*
 go_wp2_with fail
 (with_reducible refine eG.out.mono ?_);rintro e w2 ⟨v,rfl,ho,hg⟩;have hb2:=hg.heap Hb.out;obtain ⟨q0,q1,q2,q3⟩:=bZ hb2;have lq:=af hb2;have fq:∀ i,w2.frozen? ⟨w.heap.size,i,none⟩=false:=fun i=>by simp [World.frozen?,hb2]
 obtain ⟨va,vc,rfl⟩:=iV ho;have cE:=zh hb2 (.slice va V.tabs.length vc) (.int .u64 V.seq) (.int .i64 V.next) (.int .i64 V.aj);have hown:=BN (qx ho bT.out.size) hb2 (.slice va V.tabs.length vc) (.int .u64 V.seq) (.int .i64 V.next) (.int .i64 V.aj);have hgr:=uU (bT.out.trans hg) (ay _) (.slice va V.tabs.length vc) (.int .u64 V.seq) (.int .i64 V.next) (.int .i64 V.aj);have cS:=ae (ah cE (ah hown hgr));clear ho hg hb2 cE hown hgr c1 c2 c3 c4 ls eG;go_wp2;exact bodyPost_ret (atN rfl cS.out.1) rfl ⟨_,rfl,cS.out.2.1,cS.out.2.2⟩
structure Rl (B r:Nat) (w w':World):Prop where
 hold:gU r w w'
 below:Below B w w'
theorem Rl.refl (B r:Nat) (w:World):Rl B r w w:=⟨gU.refl r w,Below.refl _ _⟩
theorem Rl.trans {B r:Nat} {a b c:World} (h:Rl B r a b) (k:Rl B r b c):Rl B r a c:=⟨h.hold.trans k.hold,h.below.trans k.below⟩
theorem Rl.grow {B r:Nat} {w w':World} (h:Grow w w') (hB:B≤w.heap.size):Rl B r w w':=⟨gU.grow h,h.mono hB⟩
theorem Rl.sep {Z B:Nat} {w w':World} {p r:Nat} {f:Lk} {T K:Nat} {F F':Nat→Prop} (hd:Dl Z B w p r f T K F) (h:Sep F w w' F'):Rl B r w w':=
 ⟨gU.sep hd h,h.below (fun _ hb=>(hd.foot hb).1) hd.base⟩
theorem Rl.set {B r:Nat} {w:World} {sb:Nat} {cs:Array Value} {f:Nat×Nat} (hb:w.heap[sb]?=some (.cells cs 154 f)) (hB:B≤sb) (j:Nat) (v:Value):Rl B r w (w.setCell ⟨sb,j,none⟩ v):=
 ⟨gU.set (r:=r) hb j v,(Below.refl _ _).setCell (p:=⟨sb,j,none⟩) hB v⟩
theorem Dl.EI {Z B:Nat} {w:World} {p r:Nat} {f:Lk} {T K:Nat} {F:Nat→Prop} (h:Dl Z B w p r f T K F) {sb:Nat} {cs:Array Value} {fz:Nat×Nat} (hb:w.heap[sb]?=some (.cells cs 154 fz)) (j:Nat) (v:Value):Dl Z B (w.setCell ⟨sb,j,none⟩ v) p r f T K F:=by
 have Br:=h.apart hb (by decide) (by decide) (by decide);obtain ⟨V,⟨hZ,h0,born,fs,hd,h1,h2⟩,h3,h4,h5⟩:=h;subst h2;obtain ⟨c,hm,hc⟩:=hd.map;have ho:∀ b,cN p r fs b→(w.setCell ⟨sb,j,none⟩ v).heap[b]?=w.heap[b]?:=fun b jU=>aK _ _ _ _ (fun e=>Br (by have e':b=sb:=e;subst e';exact jU))
 refine ⟨V,⟨hZ,h0,born,fs,⟨(ho p (.inl rfl)).trans hd.self,⟨c,(ho r (.inr (.inl rfl))).trans hm,hc⟩,hd.names,hd.rD,hd.rE,hd.rows,fun f hf=> ?_,hd.base.1,hd.base.2.1,by simpa using hd.base.2.2⟩,h1,rfl⟩,h3,h4,h5⟩;have bh:=hd.files f hf;exact ⟨(ho _ (.inr (.inr ⟨f,hf,.inl rfl⟩))).trans bh.cell,bh.row.keep (fun b hb=>ho b (.inr (.inr ⟨f,hf,.inr hb⟩))),bh.base,bh.sync⟩
theorem ads {w w':World} {F F':Nat→Prop} {v:Value} {x:List UInt8} (h:Bv w v x) (hf:∀ b,v.ownBlock=some b→¬ F b) (hs:Sep F w w' F'):Bv w' v x:=by
 obtain ⟨a,c,rfl,h1,h2,h3,h4⟩:=h;refine ⟨a,c,rfl,h1,h2,h3,?_⟩;rcases h4 with h4|⟨b,o,rfl,hb,hc⟩
 ·exact .inl h4
 ·refine .inr ⟨b,o,rfl,cj hb hs.size,fun j k hk=> ?_⟩
  rw [←hc j k hk];simp only [World.cell?,hs.out b hb (hf b rfl)]
abbrev jJ (n:Nat):List UInt8:=Lib.decDigits n
def ND (n:Nat) (x:List UInt8) (f:Lk):Lk:=(f.set (cD n) (x,x.length)).set rR (jJ n,(jJ n).length)
theorem Lk.adt {f:Lk} {m n:ByteArray} {q:List UInt8×Nat} (h:f m=none) (hne:m≠n):(f.set n q) m=none:=by rw [fZ f hne];exact h
theorem atO {n:Nat} {x:List UInt8} {f:Lk} (ht:f pg=none):((((f.set (cD n) (x,x.length)).set pg (jJ n,(jJ n).length)).del pg).set rR (jJ n,(jJ n).length))=ND n x f:=by
 rw [abc,SK (Lk.adt ht (Ne.symm (MJ n)))];rfl
theorem atP {Z B N:Nat} {w:World} {p r:Nat} {f:Lk} {T K:Nat} {F:Nat→Prop} {sb:Nat} {tv:Value} {V:bu} {m:Int} (hS:dy w sb p tv V m) (h:Dl Z B w p r f T K F) (hB:B≤sb) (hN:cI N B w) {n:Nat} (hn:n<N) (h6:n<1000000)
  {bv:Value} {x:List UInt8} (hx:Bv w bv x) (ic:x.length≤1000000000000) (nZ:∀ b,bv.ownBlock=some b→¬ F b) (NG:f pg=none) (hroom:T+x.length+6≤Z):
  Calls Tryz.prog 135 #[.pointer (some ⟨sb,0,none⟩),.int .i64 n,bv] w fun e w'=>e= .returned .nilIface∧dy w' sb p tv V n∧(∃ T' F',T'≤T+x.length+6∧Dl Z B w' p r (ND n x f) T' (K+3) F')∧Rl B r w w':=by
 have nB:=Ej h6;have atQ:(jJ n).length≤6:=nB;obtain ⟨xa,xc,rfl⟩:=hx.slice;have Hm:=ae (IG hN hn h6);have H:=ae h;have HS:=ae hS;have HN:=ae hN;have Hx:=ae hx;have Hf:=ae nZ;clear h hS hN hx nZ;go_enter Tryz.func135,Tryz.ntmps135
 go_wp2_with fail
 (with_reducible refine Hm.out.mono ?_);rintro e w1 ⟨rfl,hg1⟩;have gL:BP Z (cD n) x f T=(true,f.set (cD n) (x,x.length),T-jE f (cD n)+x.length):=if_pos (by omega);have Hw:=ae (abZ (HS.out.grow hg1) (H.out.grow hg1) (aaT h6) (Hx.out.grow hg1) ic (fun w' F' hs=>ads (Hx.out.grow hg1) Hf.out hs));rw [gL] at Hw;have dK:=ae hg1;clear hg1 gL Hm
 go_wp2_with fail
 (with_reducible refine Hw.out.mono ?_);rintro e w2 ⟨rfl,F2,cn,hs2⟩;have NH:=(Sep.bF (F:=F) dK.out).trans hs2;have zK:=HN.out.keep (w':=w2) (fun b hb=>NH.out b (by have:=H.out.base;omega) (fun hf=>by have:=(H.out.foot hf).1;omega));have Hi:=ae (zK n hn w2 (fun _ _=>rfl));have jK:=ae (HS.out.sep H.out NH);have rN:=ae cn;have pE:=ae (Rl.sep H.out NH);clear hs2 cn NH zK Hw dK Hx Hf H HS HN;have ok0:okC true=0:=rfl;rw [ok0]
 go_wp2_with fail
 (with_reducible refine Hi.out.mono ?_);rintro e w3 ⟨rfl,hg3⟩;obtain ⟨cap,w4,zt,bg,hg4⟩:=yZ ⟨(Lib.decDigits n).toArray⟩ (by simp [ByteArray.size];omega) w3;have gj:=hg3.trans hg4;have jh:=rN.out.grow gj;have hbl:∀ b,(Value.slice (some ⟨w3.heap.size,0,none⟩) (ByteArray.size ⟨(Lib.decDigits n).toArray⟩) cap).ownBlock=some b→¬ F2 b:=fun b hb hf=>by
  have e:w3.heap.size=b:=by simpa [Value.ownBlock] using hb
  have:=(rN.out.foot hf).2;have:=hg3.size;omega
 have Ub:Bv w4 (.slice (some ⟨w3.heap.size,0,none⟩) (ByteArray.size ⟨(Lib.decDigits n).toArray⟩) cap) (Lib.decDigits n):=by simpa using bg
 have mP:jE (f.set (cD n) (x,x.length)) pg=0:=by unfold jE;rw [Lk.adt NG (Ne.symm (MJ n))]
 have rY:BP Z pg (Lib.decDigits n) (f.set (cD n) (x,x.length)) (T-jE f (cD n)+x.length)=(true,(f.set (cD n) (x,x.length)).set pg (jJ n,(jJ n).length),T-jE f (cD n)+x.length-jE (f.set (cD n) (x,x.length)) pg+(jJ n).length):=if_pos (by rw [mP];omega);have pd:=ae (abZ (jK.out.grow gj) jh apY Ub (by omega) (fun w' F' hs=>ads Ub hbl hs));rw [rY] at pd;have Uc:=ae jh;have Jq:=ae (jK.out.grow gj);have zw:=ae (pE.out.trans (Rl.grow (r:=r) gj rN.out.base));have atS:ByteArray.size ⟨(Lib.decDigits n).toArray⟩=(Lib.decDigits n).length:=by simp [ByteArray.size]
 clear bg Ub hbl jh gj rY hg3 Hi rN jK pE;rw [atS] at pd
 go_wp2_with fail
 (with_reducible refine pd.out.mono ?_);rintro e w5 ⟨rfl,F5,gM,hs5⟩;have tL:=Jq.out.sep Uc.out hs5;have tM:=ae (zw.out.trans (Rl.sep Uc.out hs5));obtain ⟨c0,_,_,_,_,_,ls⟩:=tL.cells;have oA:=ae gM;have qL:=ae tL;clear gM hs5 tL pd Uc Jq zw;rw [ok0]
 go_wp2_with fail
 (with_reducible refine (aqw oA.out (Ne.symm apW) apX (qw _ _ _)).mono ?_);rintro e w6 ⟨rfl,F6,nB,ox⟩;rw [atO NG] at nB;have Jr:=qL.out.sep oA.out ox;have hr6:=tM.out.trans (Rl.sep oA.out ox);have vp:w6.heap[sb]?=some (.cells (setCells p tv V m) 154 (0,0)):=Jr;have ls6:=af vp;have c5:w6.cell? ⟨sb,5,none⟩=some (.int .i64 m):=by simp [World.cell?,vp]
 have f6:∀ i,w6.frozen? ⟨sb,i,none⟩=false:=fun i=>by simp [World.frozen?,vp]
 have EJ:dy (w6.setCell ⟨sb,5,none⟩ (.int .i64 (n:Int))) sb p tv V n:=Go.Gl.aI vp 5 _;have tN:=nB.EI vp 5 (.int .i64 (n:Int));have Js:=hr6.trans (Rl.set (r:=r) vp hB 5 (.int .i64 (n:Int)));have bG:=ae (ah EJ (ah tN Js));clear nB ox Jr hr6 vp EJ tN Js c0 ls;go_wp2;go_ret;exact ⟨rfl,bG.out.1,⟨_,F6,by have:=atQ;omega,bG.out.2.1⟩,bG.out.2.2⟩
structure kE (W W':World):Prop where
 keep:∀ (b:Nat) (arr:Array Value) (t:TypeId) (f:Nat×Nat),W.heap[b]?=some (.cells arr t f)→t≠85→W'.heap[b]?=some (.cells arr t f)
 ver:∀ (b:Nat) (cs:Array Value),W.heap[b]?=some (.cells cs 85 (0,0))→cs.size=4→∃ cs':Array Value,W'.heap[b]?=some (.cells cs' 85 (0,0))∧cs'.size=4
theorem kE.refl (W:World):kE W W:=⟨fun _ _ _ _ h _=>h,fun _ cs h hs=>⟨cs,h,hs⟩⟩
theorem kE.grow {W W':World} (h:Grow W W'):kE W W':=⟨fun _ _ _ _ hb _=>h.heap hb,fun _ cs hb hs=>⟨cs,h.heap hb,hs⟩⟩
theorem kE.own {W W':World} (h:kE W W') {B:Nat} {v:Value} {l:List Tb} (ho:Own B W v l):Own B W' v l:=uW ho fun g hg=>by
 obtain ⟨cur,hc,_⟩:=qC ho hg;rw [h.keep _ _ _ _ hc (by decide),hc]
def Cn (B sb:Nat) (tv av dv:Value) (V:bu) (E:cr) (r:Int×bu) (j:Nat) (v:Value) (W:World):Prop:=
 match j with
 |0=>v= .pointer (some ⟨sb,0,none⟩)
 |1=>v= .pointer (some ⟨sb,0,none⟩)
 |2=>v= .pointer (some ⟨sb,1,none⟩)
 |3=>v= .agg (bz tv V.seq V.next V.aj)
 |4=>v= .agg (cV av dv E.seq E.next E.aj)
 |5=>∃ q:Nat,v= .slice (some ⟨q,0,none⟩) 1 1∧W.heap[q]?=some (.cells (cV av dv E.seq E.next E.aj) 148 (0,0))
 |6=>∃ cg,v= .tuple #[.agg (bz cg r.2.seq r.2.next r.2.aj),.int .i64 r.1]∧Own B W cg r.2.tabs
 |7=>∃ cg,v= .tuple #[.agg (bz cg r.2.seq r.2.next r.2.aj),.int .i64 r.1]∧Own B W cg r.2.tabs
 |8=>∃ cg,v= .agg (bz cg r.2.seq r.2.next r.2.aj)∧Own B W cg r.2.tabs
 |9=>v= .int .i64 r.1
 |10=>∃ (vb:Nat) (cs:Array Value),v= .pointer (some ⟨vb,0,none⟩)∧B≤vb∧W.heap[vb]?=some (.cells cs 85 (0,0))∧cs.size=4
 |12=>v= .int .i64 r.1
 |_=>True
theorem Cn.keep {B sb:Nat} {tv av dv:Value} {V:bu} {E:cr} {r:Int×bu}:∀ (j:Nat) (v:Value) (W W':World),kE W W'→Cn B sb tv av dv V E r j v W→Cn B sb tv av dv V E r j v W':=by
 intro j v W W' hR h;unfold Cn at h
 split at h<;>first
  |exact h
  |(obtain ⟨q,h1,h2⟩:=h;exact ⟨q,h1,hR.keep _ _ _ _ h2 (by decide)⟩)
  |(obtain ⟨cg,h1,h2⟩:=h;exact ⟨cg,h1,hR.own h2⟩)
  |(obtain ⟨vb,cs,h1,h2,h3,h4⟩:=h;obtain ⟨cs',h5,h6⟩:=hR.ver _ _ h3 h4;exact ⟨vb,cs',h1,h2,h5,h6⟩)
  |(unfold Cn;split<;>first|trivial|(exfalso;simp_all))
def lV (w1:World) (r:Int×bu) (l:Array Bool) (a:Act) (W:World):Prop:=
 Grow w1 W∧(l.getD 11 false=true→∃ (vb:Nat) (cg:Value),a.tmps[5]?=some (.pointer (some ⟨vb,0,none⟩))∧w1.heap.size≤vb∧W.heap[vb]?=some (.cells (bz cg r.2.seq r.2.next r.2.aj) 85 (0,0))∧Own w1.heap.size W cg r.2.tabs)
theorem lV.jR {w1:World} {r:Int×bu} {l:Array Bool} {a':Act} {W':World} (i:Nat) (hi:i≠11) (cW:l.getD 11 false=false) (h:Grow w1 W'):lV w1 r (l.setIfInBounds i true) a' W':=
 ⟨h,fun h=>by rw [getD_set_ne false hi,cW] at h;cases h⟩
theorem lV.next {w1:World} {r:Int×bu} {l:Array Bool} {a:Act} {W:World} {i d:Nat} {v:Value} (h:lV w1 r l a W) (hi:i≠11) (hd:d≠5):lV w1 r (l.setIfInBounds i true) (a.put (some d) v) W:=
 ⟨h.1,fun hl=>by
  obtain ⟨vb,cg,h1,h2⟩:=h.2 (by rw [getD_set_ne false hi] at hl;exact hl);exact ⟨vb,cg,ix hd h1,h2⟩⟩
theorem atU {cs:Array Value} (hs:cs.size=4):∃ x0 x1 x2 x3,cs=#[x0,x1,x2,x3]:=by
 obtain ⟨l⟩:=cs
 match l,hs with
 | [x0,x1,x2,x3],_=>exact ⟨_,_,_,_,rfl⟩
theorem atV {Z B:Nat} {w:World} {p r:Nat} {f:Lk} {T K:Nat} {F:Nat→Prop} {sb p':Nat} {tv:Value} {V:bu} {n:Int} (hS:dy w sb p' tv V n) (h:Dl Z B w p r f T K F) (hB:B≤sb) (cg:Value) (V':bu):
  dy ((((w.setCell ⟨sb,1,none⟩ cg).setCell ⟨sb,2,none⟩ (.int .u64 V'.seq)).setCell ⟨sb,3,none⟩ (.int .i64 V'.next)).setCell ⟨sb,4,none⟩ (.int .i64 V'.aj)) sb p' cg V' n∧
  Dl Z B ((((w.setCell ⟨sb,1,none⟩ cg).setCell ⟨sb,2,none⟩ (.int .u64 V'.seq)).setCell ⟨sb,3,none⟩ (.int .i64 V'.next)).setCell ⟨sb,4,none⟩ (.int .i64 V'.aj)) p r f T K F∧
  Rl B r w ((((w.setCell ⟨sb,1,none⟩ cg).setCell ⟨sb,2,none⟩ (.int .u64 V'.seq)).setCell ⟨sb,3,none⟩ (.int .i64 V'.next)).setCell ⟨sb,4,none⟩ (.int .i64 V'.aj)):=by
 have h1:w.heap[sb]?=some (.cells (setCells p' tv V n) 154 (0,0)):=hS;have h2:=Go.Gl.aI h1 1 cg;have h3:=Go.Gl.aI h2 2 (.int .u64 V'.seq);have h4:=Go.Gl.aI h3 3 (.int .i64 V'.next);have h5:=Go.Gl.aI h4 4 (.int .i64 V'.aj);exact ⟨h5,(((h.EI h1 1 _).EI h2 2 _).EI h3 3 _).EI h4 4 _,(((Rl.set (r:=r) h1 hB 1 _).trans (Rl.set (r:=r) h2 hB 2 _)).trans (Rl.set (r:=r) h3 hB 3 _)).trans (Rl.set (r:=r) h4 hB 4 _)⟩
abbrev S4 (sb p eb:Nat) (n:Int) (x0 x1 x2 x3 x4:Value) (W:World):Prop:=
 (W.cell? ⟨sb,0,none⟩=some (.pointer (some ⟨p,0,none⟩))∧W.cell? ⟨sb,5,none⟩=some (.int .i64 n)∧sb<W.heap.size)∧
 (W.cell? ⟨eb,0,none⟩=some x0∧W.cell? ⟨eb,0+1,none⟩=some x1∧W.cell? ⟨eb,0+2,none⟩=some x2∧W.cell? ⟨eb,0+3,none⟩=some x3∧W.cell? ⟨eb,0+4,none⟩=some x4∧eb<W.heap.size)
theorem EK {sb p eb:Nat} {tv:Value} {V:bu} {n:Int} {x0 x1 x2 x3 x4:Value} {W:World} (hS:dy W sb p tv V n) (hb:W.heap[eb]?=some (.cells #[x0,x1,x2,x3,x4] 148 (0,0))):S4 sb p eb n x0 x1 x2 x3 x4 W:=by
 obtain ⟨c0,_,_,_,_,c5,ls⟩:=hS.cells;obtain ⟨e0,e1,e2,e3,e4⟩:=cw hb;exact ⟨⟨c0,c5,ls⟩,e0,e1,e2,e3,e4,af hb⟩
end Go.Proofs.YtoolkdapflaeeaaGreatDoor
