/- Helpers. -/
import Derived.Test.YtoolkdapflaeeaaGreatDoorW0C
import Derived.LaidEql
import Derived.Stop.Asserts
import Derived.Lib.IfaceEq
import Derived.RowKitTokens
import Derived.Test.YtoolkdapflaeeaaGreatDoorW05
set_option maxRecDepth 100000
set_option maxHeartbeats 16000000
set_option linter.unusedSimpArgs false
open Go
variable {A A' B B' C C' K K' T T' Z b db ha aU hm i i' lb mb n p qb r s sb seq tb tm wal xb : Nat} {F F' G G' M N : Nat → Prop} {W w w' w1 w2 w3 wr : World} {arr cs : Array Value} {bv dv lv pv tv u v x0 x1 x2 x3 x4 : Value} {ds : List Int} {e ty : TypeId} {fz : Nat × Nat} {k0 k1 m : ByteArray} {l nm : List UInt8} {xs : List Value}
namespace Go.Proofs.YtoolkdapflaeeaaGreatDoor
open Go.RowKit Go.Gl Go.aF Mn
def zE (a:Option En) (b:Option En):Option En:=
 match b with
 |none=>a
 |some x=>match a with
  |none=>some x
  |some y=>if y.seq<x.seq then some x else some y
def EJ (key:ByteArray) (up:Nat) (ls:List (List En)):Option En:=(ls.map (fT key up)).foldl zE none
theorem akQ (key:ByteArray) (up:Nat) (ls:List (List En)) (l:List En):EJ key up (ls++ [l])=zE (EJ key up ls) (fT key up l):=by simp [EJ]
abbrev zEn:En:=⟨⟨#[]⟩,0,false,[]⟩
structure Mr (w:World) (pb:Nat) (acc:Option En) (x:En) (sv:Value) (wr:World):Prop where
 cell:wr.heap[pb]?=some (.cells (bW ⟨x,sv⟩) 60 (0,0))
 own:aI w.heap.size wr sv x.val
 is:acc=some x∨acc=none
 grow:Grow w wr
theorem Mr.step {pb:Nat} {acc:Option En} {x:En} {sv:Value} (h:Mr w pb acc x sv wr) (hg:Grow wr w'):Mr w pb acc x sv w':=
 ⟨hg.heap h.cell,h.own.grow hg,h.is,h.grow.trans hg⟩
def Ms (w:World) (pb:Nat) (key:ByteArray) (up:Nat) (ls:List (List En)) (sb:Nat) (cur:Array Value) (fv iv:Value) (wr:World):Prop:=
 ∃ (i:Nat) (acc:Option En) (x:En) (sv:Value),fv= .bool acc.isSome∧iv= .int .i64 (i:Int)∧i≤ls.length∧acc=EJ key up (ls.take i)∧Mr w pb acc x sv wr∧wr.heap[sb]?=some (.cells cur 113 (0,0))
def Mt (w:World) (r:Option En) (e:Ending) (w':World):Prop:=
 (match r with
  |none=>e= .returned (.tuple #[.slice none 0 0,.bool false])
  |some x=>if x.gone then e= .returned (.tuple #[.slice none 0 0,.bool false]) else ∃ v,e= .returned (.tuple #[v,.bool true])∧aI w.heap.size w' v x.val)∧Grow w w'
theorem Tryz.aDd (v:Value) (w:World):(method 492 89 v "Get").run Tryz.prog w= .ok (272,v) w:=by kernel_rfl
theorem Tryz.aDe (v:Value) (w:World):(method 492 143 v "Get").run Tryz.prog w= .ok (275,v) w:=by kernel_rfl
theorem aDf {o:Od} {drv:Value} {V:bI} {k:Int} (hC:ep w db sb o drv lv mb tm seq hm) (hS:eh w sb p tv V k) (hown:Mn.Own B' w tv V.tabs) (qu:V.tabs.length≤100000)
  {g:Int→Option Value} {m:Nat} (hM:fj w tm encI g m) {tbs:List Nat} (ib:tbs.length=V.tabs.length) (dY:∀ (i:Nat) (t:Tb) (b:Nat),V.tabs[i]?=some t→tbs[i]?=some b→g t.file=some (.pointer (some ⟨b,0,none⟩))) {ns:List Nd} (akS:dQ N w mb ha ns aU dv ds) (hN:∀ b,N b→b<w.heap.size) (hval:∀ n∈ns,n.x.e.val.length≤1000000000000)
  {lss:List (List En)} (nk:lss.length=tbs.length) (hss:∀ (i:Nat) (b:Nat) (l:List En),tbs[i]?=some b→lss[i]?=some l→qx N w b l) (key:ByteArray) {up:Nat} (BR:up<18446744073709551616):
  Calls Tryz.prog 16 #[.pointer (some ⟨db,0,none⟩),.string key,.int .u64 (up:Int)] w (Mt w (EJ key up (ns.map (fun n=>n.x.e)::lss))):=by
 have ah:=ar w (.cells #[.string ⟨#[]⟩,.int .u64 0,.bool false,.slice none 0 0] 60);have dJ:=ax w (.cells #[.string ⟨#[]⟩,.int .u64 0,.bool false,.slice none 0 0] 60);have lH:=akv (hC.grow ah) (hS.grow ah) (eM hown ah) qu (hM.grow ah) ib dY;have hst:Mr w w.heap.size none zEn (.slice none 0 0) (w.alloc (.cells #[.string ⟨#[]⟩,.int .u64 0,.bool false,.slice none 0 0] 60)):=⟨dJ,nO _ _ _,.inr rfl,ah⟩
 have Iz:∀ (i:Nat) (l:List En) (u:Value) (W:World),Grow w W→(ns.map (fun n=>n.x.e)::lss)[i]?=some l→(nK mb tbs)[i]?=some u→(u= .iface 89 (.pointer (some ⟨mb,0,none⟩))∧Calls Tryz.prog 272 #[.pointer (some ⟨mb,0,none⟩),.string key,.int .u64 (up:Int)] W (Yd W (fT key up l)))∨(∃ b,u= .iface 143 (.pointer (some ⟨b,0,none⟩))∧Calls Tryz.prog 275 #[.pointer (some ⟨b,0,none⟩),.string key,.int .u64 (up:Int)] W (Yd W (fT key up l))):=by
  intro i l u W hg hl hu;cases i with
  |zero=>
   left;simp only [List.getElem?_cons_zero,Option.some.injEq] at hl;simp only [nK,List.getElem?_cons_zero,Option.some.injEq] at hu;subst hl;exact ⟨hu.symm,aBq (akS.grow hg) (fun b hb=>cf (hN b hb) hg.size) hval key BR⟩
  |succ i=>
   right;simp only [List.getElem?_cons_succ] at hl;simp only [nK,List.getElem?_cons_succ,gZ] at hu;cases hb:tbs[i]? with
   |none=>rw [hb] at hu;cases hu
   |some b=>
    rw [hb] at hu;simp only [Option.map_some,Option.some.injEq] at hu;exact ⟨b,hu.symm,aDc ((hss i b l hb hl).kp (.bT hg)) key⟩
 have hlen:(nK mb tbs).length=(ns.map (fun n=>n.x.e)::lss).length:=by simp [nK,nk]
 have hl6:(ns.map (fun n=>n.x.e)::lss).length≤200000:=by simp only [dH];omega
 have RU:=ae lH;have bJ:=ae hst;have aDh:=ae Iz;have qh:=ae hlen;clear ah dJ lH hst Iz hC hS hown hM akS hN hval hss dY hlen ib nk qu;generalize (ns.map (fun n=>n.x.e)::lss)=ls at*;go_enter Tryz.func16,Tryz.ntmps16
 go_upto_region 2 with fail
 generalize w.alloc (.cells #[.string ⟨#[]⟩,.int .u64 0,.bool false,.slice none 0 0] 60)=w1 at*;obtain ⟨pb,tR⟩:∃ pb,pb=w.heap.size:=⟨_,rfl⟩
 rw [←tR] at bJ ⊢;have ze:=ae tR;clear tR
 go_wp2_with fail
 (with_reducible refine RU.out.mono ?_);rintro e w2 ⟨v,rfl,hrow,hg2⟩;rcases id hrow with ⟨_,h0⟩|⟨gs,cap,cur,rfl,hB,eT,hn,hc,hmx,eG⟩
 ·exfalso;cases h0
 have hlen:=qh.out;have hat:∀ (i:Nat) (u:Value),(nK mb tbs)[i]?=some u→∀ W:World,W.heap[gs]?=some (.cells cur 113 (0,0))→W.cell? ⟨gs,i,none⟩=some u:=fun i u hu W hW=>by
  have h1:=Go.Gl.Row1.cells hrow rfl hu;simp only [World.cell?,eT] at h1;simp only [World.cell?,hW];exact h1
 rw [hlen];have Dm:Hid (Ms w pb key up ls gs cur (.bool false) (.int .i64 0) w2):=ae ⟨0,none,zEn,.slice none 0 0,rfl,rfl,aY _,rfl,bJ.out.step hg2,eT⟩;have YM:=ae hat;have lgs:=af eT;clear hrow hB eT hn hc hmx eG hat hg2 bJ RU hlen
 go_wp2_with fail
 go_loopw [9,17] (fun fv iv wr=>Ms w pb key up ls gs cur fv iv wr) (fun _ iv _=>ls.length-(intOf iv).toNat)
 case atStart=>exact Dm.out
 case round=>
  clear Dm;obtain ⟨i,acc,x,sv,rfl,rfl,hi,Mu,hs,eT⟩:=hrel;by_cases hlt:i<ls.length
  ·obtain ⟨l,hl⟩:∃ l,ls[i]?=some l:=⟨ls[i],by simp [hlt]⟩
   obtain ⟨u,hu⟩:∃ u,(nK mb tbs)[i]?=some u:=⟨(nK mb tbs)[i]'(by rw [qh.out];exact hlt),by simp [qh.out,hlt]⟩
   have BZ:=YM.out i u hu wr eT;have lg:=af eT;have eB:(i:Int)<(ls.length:Int):=by omega
   have bO:(0:Int)≤(i:Int):=by omega
   have fE:IntKind.i64.wrap ((i:Int)+1)=(i:Int)+1:=aS _ (by omega);have dS:EJ key up (ls.take (i+1))=zE acc (fT key up l):=by rw [take_one hl,akQ,Mu]
   have nA:=ae dS;have Hs:=ae hs;have LM:=ae eT;clear dS hs Mu eT;rcases aDh.out i l u wr Hs.out.grow hl hu with ⟨rfl,fS⟩|⟨b,rfl,fS⟩
   have jP:=Tryz.aDd (.pointer (some ⟨mb,0,none⟩)) wr;rotate_left;have jP:=Tryz.aDe (.pointer (some ⟨b,0,none⟩)) wr
   all_goals
    have kh:=ae fS;clear fS hl hu
    go_wp2_with fail
    (with_reducible refine kh.out.mono ?_);rintro e w3 hp;clear jP kh BZ lg;cases ql:fT key up l with
    |none=>
     rw [ql] at hp;obtain ⟨rfl,hg3⟩:=hp;have ah:=hg3.trans (ar w3 (.cells #[.string ⟨#[]⟩,.int .u64 0,.bool false,.slice none 0 0] 60));have hrel:Ms w pb key up ls gs cur (.bool acc.isSome) (.int .i64 ((i:Int)+1)) (w3.alloc (.cells #[.string ⟨#[]⟩,.int .u64 0,.bool false,.slice none 0 0] 60)):=⟨i+1,acc,x,sv,rfl,by simp,hlt,by rw [nA.out,ql];rfl,Hs.out.step ah,ah.heap LM.out⟩
     have aX:=ae hrel;clear hrel ah hg3 ql;go_wp2;go_roundw
     case rel=>exact aX.out
     case measure=>simp [intOf];omega
    |some y=>
     rw [ql] at hp;obtain ⟨⟨ys,rfl,bQ⟩,hg3⟩:=hp;have rp:=ae ql;clear ql;have YN:=Hs.out.is;obtain ⟨yk,yq,yg,yd⟩:=y;obtain ⟨xk,xq,xg,xd⟩:=x;obtain ⟨ya,yc,rfl⟩:=bQ.slice;obtain ⟨xa,xc,rfl⟩:=Hs.out.own.slice;dsimp only at bQ;have ah:=ar w3 (.cells #[.string yk,.int .u64 (yq:Int),.bool yg,.slice ya yd.length yc] 60);have dY:(w3.alloc (.cells #[.string yk,.int .u64 (yq:Int),.bool yg,.slice ya yd.length yc] 60)).heap[w3.heap.size]?=some (.cells #[.string yk,.int .u64 (yq:Int),.bool yg,.slice ya yd.length yc] 60 (0,0)):=ax _ _;have eZ:=hg3.trans ah;have nT:(w3.alloc (.cells #[.string yk,.int .u64 (yq:Int),.bool yg,.slice ya yd.length yc] 60)).heap[pb]?=some (.cells #[.string xk,.int .u64 (xq:Int),.bool xg,.slice xa xd.length xc] 60 (0,0)):=eZ.heap Hs.out.cell;obtain ⟨p0,p1,p2,p3⟩:=dy nT;obtain ⟨q0,q1,q2,q3⟩:=dy dY;have lp:=af nT;have lq:=af dY;have fp:∀ j,(w3.alloc (.cells #[.string yk,.int .u64 (yq:Int),.bool yg,.slice ya yd.length yc] 60)).frozen? ⟨pb,j,none⟩=false:=fun j=>by simp [World.frozen?,nT]
     have jW:=Hs.out.step eZ;have Mv:=eZ.heap LM.out;have YO:=bQ.grow ah;have cM:=Go.Gl.aK (Go.Gl.aK (Go.Gl.aK (Go.Gl.aK nT 0 (.string yk)) 1 (.int .u64 (yq:Int))) 2 (.bool yg)) 3 (.slice ya yd.length yc);have jx:=fun (c:Nat) (hc:c≠pb)=>FZ (w:=w3.alloc (.cells #[.string yk,.int .u64 (yq:Int),.bool yg,.slice ya yd.length yc] 60)) hc (.string yk) (.int .u64 (yq:Int)) (.bool yg) (.slice ya yd.length yc)
     have hgr:=wE jW.grow (Nat.le_of_eq ze.out.symm) (.string yk) (.int .u64 (yq:Int)) (.bool yg) (.slice ya yd.length yc)
     go_upto_region 7 with fail
     generalize w3.alloc (.cells #[.string yk,.int .u64 (yq:Int),.bool yg,.slice ya yd.length yc] 60)=w4 at*;have fP:zE acc (some ⟨yk,yq,yg,yd⟩)=some ⟨yk,yq,yg,yd⟩→Ms w pb key up ls gs cur (.bool true) (.int .i64 ((i:Int)+1)) ((((w4.setCell ⟨pb,0,none⟩ (.string yk)).setCell ⟨pb,1,none⟩ (.int .u64 (yq:Int))).setCell ⟨pb,2,none⟩ (.bool yg)).setCell ⟨pb,3,none⟩ (.slice ya yd.length yc)):=fun eK=>by
      refine ⟨i+1,some ⟨yk,yq,yg,yd⟩,⟨yk,yq,yg,yd⟩,.slice ya yd.length yc,rfl,by simp,hlt,by rw [nA.out,rp.out,eK],⟨cM,?_,.inl rfl,hgr⟩,?_⟩
      ·refine (YO.mono Hs.out.grow.size).keep (fun b hb=>jx b (fun e=> ?_))
       obtain ⟨cur',hc'⟩:=YO.block hb;rw [e,nT] at hc';exact absurd (cE (bk hc')).2.1 (by decide)
      ·refine (jx gs (fun e=> ?_)).trans Mv
       rw [e,nT] at Mv;exact absurd (cE (bk Mv)).2.1 (by decide)
     have kr:=ae fP;have iW:Hid (zE acc (some ⟨yk,yq,yg,yd⟩)=acc→Ms w pb key up ls gs cur (.bool acc.isSome) (.int .i64 ((i:Int)+1)) w4):=ae (fun eK=>⟨i+1,acc,⟨xk,xq,xg,xd⟩,.slice xa xd.length xc,rfl,by simp,hlt,by rw [nA.out,rp.out,eK],jW,Mv⟩);clear fP cM jx hgr jW Mv YO bQ hg3 ah eZ nT dY Hs LM nA;rcases YN with rfl|rfl
     ·by_cases hlq:xq<yq
      ·have aDi:(xq:Int)<(yq:Int):=by omega
       have eK:=kr.out (by simp [zE,hlq]);have aX:=ae eK;clear eK kr iW;go_wp2;go_roundw
       case rel=>exact aX.out
       case measure=>simp [intOf];omega
      ·have aDi:¬ (xq:Int)<(yq:Int):=by omega
       have aLA:(yq:Int)≤(xq:Int):=by omega
       have eK:=iW.out (by simp [zE,hlq]);have aX:=ae eK;clear eK kr iW;go_wp2;go_roundw
       case rel=>exact aX.out
       case measure=>simp [intOf];omega
     ·have eK:=kr.out (by simp [zE])
      have aX:=ae eK;clear eK kr iW;go_wp2;go_roundw
      case rel=>exact aX.out
      case measure=>simp [intOf];omega
  ·obtain rfl:i=ls.length:=by omega
   rw [ij] at Mu;have YP:=ae Mu;have Hs:=ae hs;have YN:=hs.is;obtain ⟨xk,xq,xg,xd⟩:=x;obtain ⟨p0,p1,p2,p3⟩:=dy hs.cell;obtain ⟨xa,xc,rfl⟩:=hs.own.slice;have lp:=af hs.cell;clear hs Mu eT;rcases YN with rfl|rfl
   ·cases xg with
    |true=>
     go_wp2;refine bodyPost_ret (v:= .tuple #[.slice none 0 0,.bool false]) ?_ rfl ?_
     ·simp [results,Tryz.results16,go_sem]
     ·exact ⟨by rw [←YP.out];rfl,Hs.out.grow⟩
    |false=>
     go_wp2;refine bodyPost_ret (v:= .tuple #[.slice xa xd.length xc,.bool true]) ?_ rfl ?_
     ·simp [results,Tryz.results16,go_sem]
     ·exact ⟨by rw [←YP.out];exact ⟨_,rfl,Hs.out.own⟩,Hs.out.grow⟩
   ·go_wp2
    refine bodyPost_ret (v:= .tuple #[.slice none 0 0,.bool false]) ?_ rfl ?_
    ·simp [results,Tryz.results16,go_sem]
    ·exact ⟨by rw [←YP.out],Hs.out.grow⟩
theorem aDj {key:ByteArray} {r:Option En} (h:Calls Tryz.prog 16 #[.pointer (some ⟨db,0,none⟩),.string key,.int .u64 18446744073709551615] w (Mt w r)):
  Calls Tryz.prog 15 #[.pointer (some ⟨db,0,none⟩),.string key] w (Mt w r):=by
 have H:=ae h;clear h;go_enter Tryz.func15,Tryz.ntmps15
 go_wp2_with fail
 (with_reducible refine H.out.mono ?_);rintro e w1 ⟨hp,hg⟩;have Hg:=ae hg;clear hg;cases r with
 |none=>
  obtain rfl:=hp;go_wp2;refine bodyPost_ret (v:= .tuple #[.slice none 0 0,.bool false]) ?_ rfl ?_
  ·simp [results,Tryz.results15,go_sem]
  ·exact ⟨rfl,Hg.out⟩
 |some x=>
  dsimp only at hp;by_cases hx:x.gone=true
  ·rw [if_pos hx] at hp
   subst hp;go_wp2;refine bodyPost_ret (v:= .tuple #[.slice none 0 0,.bool false]) ?_ rfl ?_
   ·simp [results,Tryz.results15,go_sem]
   ·exact ⟨by dsimp only;rw [if_pos hx],Hg.out⟩
  ·rw [if_neg hx] at hp
   obtain ⟨v,rfl,ho⟩:=hp;obtain ⟨va,vc,rfl⟩:=ho.slice;have Ho:=ae ho;clear ho;go_wp2;refine bodyPost_ret (v:= .tuple #[.slice va x.val.length vc,.bool true]) ?_ rfl ?_
   ·simp [results,Tryz.results15,go_sem]
   ·exact ⟨by dsimp only;rw [if_neg hx];exact ⟨_,rfl,Ho.out⟩,Hg.out⟩
def vG (o:Od):Prop:=1≤o.zero∧o.zero≤100∧1≤o.base∧o.base≤1073741824∧1≤o.table∧o.table≤67108864
instance (o:Od):Decidable (vG o):=by unfold vG;infer_instance
theorem akW (o:Od) (w:World):Calls Tryz.prog 21 #[.agg #[.int .i64 o.zero,.int .i64 o.base,.int .i64 o.table]] w fun e w'=>e= .returned (.int .i64 (if vG o then 0 else 1))∧Grow w w':=by
 obtain ⟨c,hc⟩:∃ c:Int,c=if vG o then 0 else 1:=⟨_,rfl⟩
 rw [←hc];have Hc:=ae hc;clear hc;go_enter Tryz.func21,Tryz.ntmps21;go_wp2
 all_goals
  go_ret;refine ⟨?_,((ar _ _).trans (ar _ _)).trans (ar _ _)⟩
  first
   |(rw [Hc.out,if_pos (by unfold vG;omega)];rfl)
   |(rw [Hc.out,if_neg (by unfold vG;omega)];rfl)
def qy (o:Od):Prop:=(1≤o.mem∧o.mem≤67108864∧1≤o.block∧o.block≤67108864)∧vG o
instance (o:Od):Decidable (qy o):=by unfold qy;infer_instance
abbrev xC (o:Od) (drv:Value):Value:= .agg #[.int .i64 o.mem,.int .i64 o.block,.int .i64 o.zero,.int .i64 o.base,.int .i64 o.table,drv]
theorem xD {o:Od} (h:W.heap[xb]?=some (.cells #[.int .i64 o.mem,.int .i64 o.block,.int .i64 o.zero,.int .i64 o.base,.int .i64 o.table,u] 26 (0,0))):(W.cell? ⟨xb,0,none⟩=some (.int .i64 o.mem)∧W.cell? ⟨xb,1,none⟩=some (.int .i64 o.block)∧W.cell? ⟨xb,2,none⟩=some (.int .i64 o.zero)∧W.cell? ⟨xb,3,none⟩=some (.int .i64 o.base)∧W.cell? ⟨xb,4,none⟩=some (.int .i64 o.table)∧W.cell? ⟨xb,5,none⟩=some u)∧xb<W.heap.size:=by
 refine ⟨⟨?_,?_,?_,?_,?_,?_⟩,af h⟩<;>simp [World.cell?,h]
theorem YQ (o:Od) (drv:Value) (w:World):Calls Tryz.prog 22 #[xC o drv] w fun e w'=>e= .returned (.int .i64 (if qy o then 0 else 1))∧Grow w w':=by
 obtain ⟨c,hc⟩:∃ c:Int,c=if qy o then 0 else 1:=⟨_,rfl⟩
 rw [←hc];have Hc:=ae hc;have Hs:=ae (fun W=>akW o W);obtain ⟨d,hd⟩:∃ d:Int,d=if vG o then 0 else 1:=⟨_,rfl⟩
 rw [←hd] at Hs;have Hd:=ae hd;clear hc hd;by_cases h4:1≤o.mem∧o.mem≤67108864∧1≤o.block∧o.block≤67108864
 ·have DA:c=d:=by
   rw [Hc.out,Hd.out];by_cases hs:vG o
   ·rw [if_pos hs,if_pos ⟨h4,hs⟩]
   ·rw [if_neg hs,if_neg (fun h=>hs h.2)]
  have Hcd:=ae DA;obtain ⟨a1,a2,a3,a4⟩:=h4;have b1:¬ o.mem<1:=by omega
  have b2:¬ 67108864<o.mem:=by omega
  have b3:¬ o.block<1:=by omega
  have b4:¬ 67108864<o.block:=by omega
  clear DA;go_enter Tryz.func22,Tryz.ntmps22
  go_wp2_with fail
  (with_reducible refine (Hs.out _).mono ?_);rintro e w1 ⟨rfl,hg⟩;go_wp2;go_ret;exact ⟨by rw [Hcd.out];rfl,(ar _ _).trans hg⟩
 ·have hc1:c=1:=by rw [Hc.out,if_neg (fun h=>h4 h.1)]
  have qI:=ae hc1;clear hc1;go_enter Tryz.func22,Tryz.ntmps22
  go_wp2_with fail
  all_goals first
   |(exfalso;omega)
   |(go_ret;exact ⟨by rw [qI.out];rfl,ar _ _⟩)
section
structure Tr where
 db:Nat
 sb:Nat
 p:Nat
 r:Nat
 lb:Nat
 mb:Nat
 tm:Nat
 hm:Nat
 ha:Nat
 o:Od
 drv:Value
 ds:List Int
 tv:Value
 dv:Value
 V:bI
 seq:Nat
 m:Nat
 N:Nat→Prop
 F:Nat→Prop
 ns:List Nd
 g:Int→Option Value
 gm:Nat
 ld:Int→Option (Nat×List En)
 hh:Int→Option Value
 hn:Nat
def FT (t:Tr):Nat→Prop:=fun b=>t.F b∨FM t.mb t.ha t.ns b∨b=t.db∨b=t.sb∨b=t.lb∨b=t.tm∨b=t.hm
structure dm (Z B Nn:Nat) (w:World) (t:Tr) (f:Lk) (T K:Nat):Prop where
 cell:ep w t.db t.sb t.o t.drv (.pointer (some ⟨t.lb,0,none⟩)) t.mb t.tm t.seq t.hm
 set:eh w t.sb t.p t.tv t.V ((0:Nat):Int)
 own:Mn.Own 0 w t.tv t.V.tabs
 log:dT w t.lb t.p cr (t.m:Int)
 mem:∃ aU,dQ t.N w t.mb t.ha t.ns aU t.dv t.ds
 tabs:fj w t.tm encI t.g t.gm
 load:∀ k b l,t.ld k=some (b,l)→t.g k=some (.pointer (some ⟨b,0,none⟩))∧qx t.N w b l
 held:fj w t.hm vC t.hh t.hn
 draws:Iw t.N w t.drv t.ds
 bg:Dl Z B w t.p t.r f T K t.F
 jn:dn Nn B w
 apart:∀ b,t.N b→b<w.heap.size∧¬ FT t b
 base:∀ b,FT t b→B≤b
 uk:¬ t.F t.tm
 um:¬ t.F t.hm
 xE:t.tm≠t.hm
def RV (ty:TypeId):Prop:=ty=125∨ty=165∨ty=5∨ty=181∨ty=176∨ty=287∨ty=93∨ty=154∨ty=167
instance (ty:TypeId):Decidable (RV ty):=by unfold RV;infer_instance
theorem fj.map {w:World} {enc:Int→Value} {g:Int→Option Value} {m:Nat} (h:fj w r enc g m):w.heap[r]?≠some (.cells arr ty fz):=h.Iu arr ty fz
theorem dQ.kind {w:World} {ns:List Nd} (h:dQ N w tb ha ns aU dv ds) (hb:FM tb ha ns b):∃ arr ty,w.heap[b]?=some (.cells arr ty (0,0))∧(ty=181∨ty=176∨ty=287):=by
 rcases hb with rfl|rfl|⟨n,hn,rfl|rfl⟩
 ·exact ⟨_,_,h.self,.inl rfl⟩
 ·exact ⟨_,_,h.skip.iZ.1,.inr (.inr rfl)⟩
 ·exact ⟨_,_,h.skip.node n hn,.inr (.inl rfl)⟩
 ·obtain ⟨pre,r,e⟩:=sN hn
  exact ⟨_,_,h.skip.iZ.2.at e,.inr (.inr rfl)⟩
variable {Z B Nn:Nat} {w w':World} {t:Tr} {f f':Lk} {T K T' K':Nat}
theorem dm.kind (h:dm Z B Nn w t f T K) (hb:FT t b) (hc:w.heap[b]?=some (.cells arr ty fz)):RV ty:=by
 have hC:w.heap[t.db]?=some (.cells (ru t.sb t.o t.drv (.pointer (some ⟨t.lb,0,none⟩)) t.mb t.tm t.seq t.hm) 93 (0,0)):=h.cell;have hS:w.heap[t.sb]?=some (.cells (setCells t.p t.tv t.V ((0:Nat):Int)) 154 (0,0)):=h.set;have inj:∀ {a1 a2:Array Value} {t1 t2:TypeId} {f1 f2:Nat×Nat},w.heap[b]?=some (.cells a1 t1 f1)→w.heap[b]?=some (.cells a2 t2 f2)→t1=t2:=fun h1 h2=>(cE (bk (h1.symm.trans h2))).2.1
 rcases hb with hb|hb|rfl|rfl|rfl|rfl|rfl
 ·by_cases h1:ty=125
  ·exact .inl h1
  ·by_cases h2:ty=165
   ·exact .inr (.inl h2)
   ·by_cases h3:ty=5
    ·exact .inr (.inr (.inl h3))
    ·exact absurd hb (h.bg.apart hc h1 h2 h3)
 ·obtain ⟨aU,hm⟩:=h.mem
  obtain ⟨aeE,ty',h1,h2⟩:=hm.kind hb;rw [inj hc h1];rcases h2 with rfl|rfl|rfl<;>decide
 ·rw [inj hc hC];decide
 ·rw [inj hc hS];decide
 ·rw [inj hc h.log.self];decide
 ·exact absurd hc h.tabs.map
 ·exact absurd hc h.held.map
theorem dm.off (h:dm Z B Nn w t f T K) (hc:w.heap[b]?=some (.cells arr ty fz)) (ht:¬ RV ty):¬ FT t b:=fun hb=>ht (h.kind hb hc)
structure NeT (t:Tr):Prop where
 xx:¬ t.F t.db
 YR:¬ t.F t.sb
 flb:¬ t.F t.lb
 fm:∀ b,FM t.mb t.ha t.ns b→¬ t.F b∧b≠t.db∧b≠t.sb∧b≠t.lb∧b≠t.tm∧b≠t.hm
 YS:t.db≠t.sb
 YT:t.db≠t.lb
 akX:t.sb≠t.lb
 YU:t.db≠t.tm
 YV:t.db≠t.hm
 YW:t.sb≠t.tm
 YX:t.sb≠t.hm
 YY:t.lb≠t.tm
 YZ:t.lb≠t.hm
theorem dm.ne (h:dm Z B Nn w t f T K):NeT t:=by
 have hC:w.heap[t.db]?=some (.cells (ru t.sb t.o t.drv (.pointer (some ⟨t.lb,0,none⟩)) t.mb t.tm t.seq t.hm) 93 (0,0)):=h.cell;have hS:w.heap[t.sb]?=some (.cells (setCells t.p t.tv t.V ((0:Nat):Int)) 154 (0,0)):=h.set;have hL:=h.log.self;have ne:∀ {a b:Nat} {a1 a2:Array Value} {t1 t2:TypeId} {f1 f2:Nat×Nat},w.heap[a]?=some (.cells a1 t1 f1)→w.heap[b]?=some (.cells a2 t2 f2)→t1≠t2→a≠b:=fun h1 h2 hn e=>by
  subst e;exact hn (cE (bk (h1.symm.trans h2))).2.1
 have nt:∀ {a:Nat} {a1:Array Value} {t1:TypeId} {f1:Nat×Nat},w.heap[a]?=some (.cells a1 t1 f1)→a≠t.tm:=fun h1 e=>by subst e;exact h.tabs.map h1
 have nh:∀ {a:Nat} {a1:Array Value} {t1:TypeId} {f1:Nat×Nat},w.heap[a]?=some (.cells a1 t1 f1)→a≠t.hm:=fun h1 e=>by subst e;exact h.held.map h1
 refine ⟨h.bg.apart hC (by decide) (by decide) (by decide),h.bg.apart hS (by decide) (by decide) (by decide),h.bg.apart hL (by decide) (by decide) (by decide),fun b hb=> ?_,ne hC hS (by decide),ne hC hL (by decide),ne hS hL (by decide),nt hC,nh hC,nt hS,nh hS,nt hL,nh hL⟩;obtain ⟨aU,hm⟩:=h.mem;obtain ⟨arr,ty,h1,h2⟩:=hm.kind hb;rcases h2 with rfl|rfl|rfl
 ·exact ⟨h.bg.apart h1 (by decide) (by decide) (by decide),ne h1 hC (by decide),ne h1 hS (by decide),ne h1 hL (by decide),nt h1,nh h1⟩
 ·exact ⟨h.bg.apart h1 (by decide) (by decide) (by decide),ne h1 hC (by decide),ne h1 hS (by decide),ne h1 hL (by decide),nt h1,nh h1⟩
 ·exact ⟨h.bg.apart h1 (by decide) (by decide) (by decide),ne h1 hC (by decide),ne h1 hS (by decide),ne h1 hL (by decide),nt h1,nh h1⟩
theorem dm.lt (h:dm Z B Nn w t f T K) (hb:FT t b):b<w.heap.size:=by
 rcases hb with hb|hb|rfl|rfl|rfl|rfl|rfl
 ·exact (h.bg.foot hb).2
 ·obtain ⟨aU,hm⟩:=h.mem;exact hm.lt hb
 ·exact h.cell.cells.2.2.2.2.2.2.2
 ·exact h.set.cells.2.2.2.2.2.2
 ·exact h.log.cells.2.2.2
 ·exact h.tabs.lt
 ·exact h.held.lt
structure fD (w:World) (t:Tr) (w':World) (t':Tr):Prop where
 sep:Sep (FT t) w w' (FT t')
 new:∀ b,t'.N b→t.N b∨w.heap.size≤b
 db:t'.db=t.db
 sb:t'.sb=t.sb
 p:t'.p=t.p
 r:t'.r=t.r
 hm:t'.hm=t.hm
 tm:t'.tm=t.tm
 lb:t'.lb=t.lb
 o:t'.o=t.o
 drv:t'.drv=t.drv
 ds:t'.ds=t.ds
theorem fD.refl (w:World) (t:Tr):fD w t w t:=⟨Sep.refl _ _,fun _ h=> .inl h,rfl,rfl,rfl,rfl,rfl,rfl,rfl,rfl,rfl,rfl⟩
theorem fD.trans {t1 t2 t3:Tr} (h:fD w1 t1 w2 t2) (k:fD w2 t2 w3 t3):fD w1 t1 w3 t3:=
 ⟨h.sep.trans k.sep,fun b hb=>(k.new b hb).elim (h.new b) (fun h2=> .inr (aM h.sep.size h2)),k.db.trans h.db,k.sb.trans h.sb,k.p.trans h.p,k.r.trans h.r,k.hm.trans h.hm,k.tm.trans h.tm,k.lb.trans h.lb,k.o.trans h.o,k.drv.trans h.drv,k.ds.trans h.ds⟩
theorem fD.grow {t1 t2:Tr} (h:fD w1 t1 w2 t2) (hg:Grow w2 w3):fD w1 t1 w3 t2:=
 ⟨h.sep.trans (Sep.bT hg),h.new,h.db,h.sb,h.p,h.r,h.hm,h.tm,h.lb,h.o,h.drv,h.ds⟩
theorem fD.bT (t:Tr) (hg:Grow w w'):fD w t w' t:=(fD.refl w t).grow hg
theorem eh.same {V:bI} {n:Int} (h:eh w sb p tv V n) (hk:w'.heap[sb]?=w.heap[sb]?):eh w' sb p tv V n:=hk.trans h
theorem dT.same {last:Int} (h:dT w lb p nm last) (hk:w'.heap[lb]?=w.heap[lb]?):dT w' lb p nm last:=⟨hk.trans h.self⟩
theorem EK {l:List Tb} (h:Mn.Own A w v l) (hk:∀ (b:Nat) (cur:Array Value),w.heap[b]?=some (.cells cur 101 (0,0))→w'.heap[b]?=w.heap[b]?):Mn.Own A w' v l:=by
 refine wG h fun g hg=> ?_
 obtain ⟨cur,hc,_⟩:=rP h hg;exact hk g cur hc
theorem dm.grow (h:dm Z B Nn w t f T K) (hg:Grow w w'):dm Z B Nn w' t f T K:=by
 obtain ⟨aU,hm⟩:=h.mem;exact ⟨h.cell.grow hg,h.set.grow hg,eM h.own hg,h.log.grow hg,⟨aU,hm.grow hg⟩,h.tabs.grow hg,fun k b l hk=>⟨(h.load k b l hk).1,(h.load k b l hk).2.kp (.bT hg)⟩,h.held.grow hg,h.draws.kp (.bT hg),h.bg.grow hg,h.jn.grow hg h.bg.base,fun b hb=>⟨cf (h.apart b hb).1 hg.size,(h.apart b hb).2⟩,h.base,h.uk,h.um,h.xE⟩
theorem dm.vH (h:dm Z B Nn w t f T K) (hG:∀ b,G b→FT t b) (hs:Sep G w w' G'):Kp t.N w w':=
 ⟨hs.size,fun b hb hl=>hs.out b hl (fun hg=>(h.apart b hb).2 (hG b hg))⟩
theorem dm.IA (h:dm Z B Nn w t f T K) (hG:∀ b,G b→FT t b) (hs:Sep G w w' G'):Mn.Own 0 w' t.tv t.V.tabs:=
 EK h.own (fun b cur hc=>hs.out b (af hc) (fun hg=>h.off hc (by decide) (hG b hg)))
theorem dm.EM (h:dm Z B Nn w t f T K) (hG:∀ b,G b→FT t b) (hs:Sep G w w' G'):dn Nn B w':=
 h.jn.keep (fun b hb=>hs.out b (cf hb h.bg.base) (fun hg=>by have:=h.base b (hG b hg);omega))
theorem dm.Ca (h:dm Z B Nn w t f T K) (hG:∀ b,G b→FT t b) (hs:Sep G w w' G'):∀ k b l,t.ld k=some (b,l)→t.g k=some (.pointer (some ⟨b,0,none⟩))∧qx t.N w' b l:=
 fun k b l hk=>⟨(h.load k b l hk).1,(h.load k b l hk).2.kp (h.vH hG hs)⟩
theorem dm.EN (h:dm Z B Nn w t f T K) (hd:Dl Z B w' t.p t.r f' T' K' F') (hs:Sep t.F w w' F'):dm Z B Nn w' {t with F:=F'} f' T' K'∧fD w t w' {t with F:=F'}:=by
 have hG:∀ b,t.F b→FT t b:=fun b hb=> .inl hb
 have n:=h.ne;obtain ⟨aU,hm⟩:=h.mem;have hF:∀ b,FT {t with F:=F'} b→FT t b∨w.heap.size≤b:=fun b hb=>by
  rcases hb with hb|hb
  ·exact (hs.foot b hb).imp .inl id
  ·exact .inl (.inr hb)
 have ho:∀ b,FT t b→¬ t.F b→¬ F' b:=fun b hb hn hf=>by
  rcases hs.foot b hf with h1|h1
  ·exact hn h1
  ·have:=h.lt hb;omega
 refine ⟨⟨h.cell.keep (hs.out _ (h.lt (.inr (.inr (.inl rfl)))) n.xx),h.set.same (hs.out _ (h.lt (.inr (.inr (.inr (.inl rfl))))) n.YR),h.IA hG hs,h.log.same (hs.out _ (h.lt (.inr (.inr (.inr (.inr (.inl rfl)))))) n.flb),⟨aU,hm.keep (fun b hb=>hs.out b (hm.lt hb) (n.fm b hb).1) (h.vH hG hs)⟩,
  h.tabs.keep (hs.out _ h.tabs.lt h.uk),h.Ca hG hs,h.held.keep (hs.out _ h.held.lt h.um),h.draws.kp (h.vH hG hs),hd,h.EM hG hs,fun b hb=>⟨cf (h.apart b hb).1 hs.size,fun hf=> ?_⟩,fun b hb=> ?_,ho _ (.inr (.inr (.inr (.inr (.inr (.inl rfl)))))) h.uk,ho _ (.inr (.inr (.inr (.inr (.inr (.inr rfl)))))) h.um,h.xE⟩,
  ⟨(hs.mono hG).tgt hF,fun b hb=> .inl hb,rfl,rfl,rfl,rfl,rfl,rfl,rfl,rfl,rfl,rfl⟩⟩
 ·have h1:=h.apart b hb
  rcases hF b hf with h2|h2
  ·exact h1.2 h2
  ·omega
 ·rcases hF b hb with h2|h2
  ·exact h.base b h2
  ·exact aM h.bg.base h2
end
section
variable {Z B Nn:Nat} {w w' w'':World} {t:Tr} {f f':Lk} {T K T' K':Nat}
theorem Sep.IB {g:Nat} (h:GX g w w'):Sep (fun b=>b=g) w w' (fun b=>b=g):=by
 obtain ⟨a,b,c,d,e⟩:=h;exact ⟨a,b,c,d,fun k hk hn=>e k hk (fun x=>hn (by cases x;rfl)),fun k hk=> .inl hk⟩
theorem dm.com (h:dm Z B Nn w t f T K) {cC:Value} {V':bI} (hS:eh w' t.sb t.p cC V' ((0:Nat):Int)) (ho:Mn.Own 0 w' cC V'.tabs) (hd:Dl Z B w' t.p t.r f' T' K' F') (hs:Sep (FL t.F t.sb) w w' (FL F' t.sb)) (_hsb:¬ F' t.sb):
  dm Z B Nn w' {t with tv:=cC,V:=V',F:=F'} f' T' K'∧fD w t w' {t with tv:=cC,V:=V',F:=F'}:=by
 have hG:∀ b,FL t.F t.sb b→FT t b:=fun b hb=>by
  rcases hb with hb|rfl
  ·exact .inl hb
  ·exact .inr (.inr (.inr (.inl rfl)))
 have n:=h.ne;obtain ⟨aU,hm⟩:=h.mem;have hF:∀ b,FT {t with tv:=cC,V:=V',F:=F'} b→FT t b∨w.heap.size≤b:=fun b hb=>by
  rcases hb with hb|hb
  ·exact (hs.foot b (.inl hb)).imp (hG b) id
  ·exact .inl (.inr hb)
 have eA:∀ b,FT t b→¬ t.F b→b≠t.sb→¬ F' b:=fun b hb hn he hf=>by
  rcases hs.foot b (.inl hf) with h1|h1
  ·exact h1.elim hn he
  ·have:=h.lt hb;omega
 have out:∀ b,FT t b→¬ t.F b→b≠t.sb→w'.heap[b]?=w.heap[b]?:=fun b hb hn he=>hs.out b (h.lt hb) (fun h1=>h1.elim hn he)
 refine ⟨⟨h.cell.keep (out _ (.inr (.inr (.inl rfl))) n.xx n.YS),hS,ho,h.log.same (out _ (.inr (.inr (.inr (.inr (.inl rfl))))) n.flb (fun e=>n.akX e.symm)),⟨aU,hm.keep (fun b hb=>out b (.inr (.inl hb)) (n.fm b hb).1 (n.fm b hb).2.2.1) (h.vH hG hs)⟩,
  h.tabs.keep (out _ (.inr (.inr (.inr (.inr (.inr (.inl rfl)))))) h.uk (fun e=>n.YW e.symm)),h.Ca hG hs,h.held.keep (out _ (.inr (.inr (.inr (.inr (.inr (.inr rfl)))))) h.um (fun e=>n.YX e.symm)),h.draws.kp (h.vH hG hs),hd,h.EM hG hs,fun b hb=>⟨cf (h.apart b hb).1 hs.size,fun hf=> ?_⟩,fun b hb=> ?_,eA _ (.inr (.inr (.inr (.inr (.inr (.inl rfl)))))) h.uk (fun e=>n.YW e.symm),eA _ (.inr (.inr (.inr (.inr (.inr (.inr rfl)))))) h.um (fun e=>n.YX e.symm),h.xE⟩,
  ⟨(hs.mono hG).tgt hF,fun b hb=> .inl hb,rfl,rfl,rfl,rfl,rfl,rfl,rfl,rfl,rfl,rfl⟩⟩
 ·have h1:=h.apart b hb
  rcases hF b hf with h2|h2
  ·exact h1.2 h2
  ·omega
 ·rcases hF b hb with h2|h2
  ·exact h.base b h2
  ·exact aM h.bg.base h2
theorem dm.Mp (h:dm Z B Nn w t f T K) {m':Nat} (hL:dT w' t.lb t.p cr (m':Int)) (hd:Dl Z B w' t.p t.r f' T' K' F') (hs:Sep (FL t.F t.lb) w w' (FL F' t.lb)):
  dm Z B Nn w' {t with m:=m',F:=F'} f' T' K'∧fD w t w' {t with m:=m',F:=F'}:=by
 have hG:∀ b,FL t.F t.lb b→FT t b:=fun b hb=>by
  rcases hb with hb|rfl
  ·exact .inl hb
  ·exact .inr (.inr (.inr (.inr (.inl rfl))))
 have n:=h.ne;obtain ⟨aU,hm⟩:=h.mem;have hF:∀ b,FT {t with m:=m',F:=F'} b→FT t b∨w.heap.size≤b:=fun b hb=>by
  rcases hb with hb|hb
  ·exact (hs.foot b (.inl hb)).imp (hG b) id
  ·exact .inl (.inr hb)
 have eA:∀ b,FT t b→¬ t.F b→b≠t.lb→¬ F' b:=fun b hb hn he hf=>by
  rcases hs.foot b (.inl hf) with h1|h1
  ·exact h1.elim hn he
  ·have:=h.lt hb;omega
 have out:∀ b,FT t b→¬ t.F b→b≠t.lb→w'.heap[b]?=w.heap[b]?:=fun b hb hn he=>hs.out b (h.lt hb) (fun h1=>h1.elim hn he)
 refine ⟨⟨h.cell.keep (out _ (.inr (.inr (.inl rfl))) n.xx n.YT),h.set.same (out _ (.inr (.inr (.inr (.inl rfl)))) n.YR n.akX),h.IA hG hs,hL,⟨aU,hm.keep (fun b hb=>out b (.inr (.inl hb)) (n.fm b hb).1 (n.fm b hb).2.2.2.1) (h.vH hG hs)⟩,
  h.tabs.keep (out _ (.inr (.inr (.inr (.inr (.inr (.inl rfl)))))) h.uk (fun e=>n.YY e.symm)),h.Ca hG hs,h.held.keep (out _ (.inr (.inr (.inr (.inr (.inr (.inr rfl)))))) h.um (fun e=>n.YZ e.symm)),h.draws.kp (h.vH hG hs),hd,h.EM hG hs,fun b hb=>⟨cf (h.apart b hb).1 hs.size,fun hf=> ?_⟩,fun b hb=> ?_,eA _ (.inr (.inr (.inr (.inr (.inr (.inl rfl)))))) h.uk (fun e=>n.YY e.symm),eA _ (.inr (.inr (.inr (.inr (.inr (.inr rfl)))))) h.um (fun e=>n.YZ e.symm),h.xE⟩,
  ⟨(hs.mono hG).tgt hF,fun b hb=> .inl hb,rfl,rfl,rfl,rfl,rfl,rfl,rfl,rfl,rfl,rfl⟩⟩
 ·have h1:=h.apart b hb
  rcases hF b hf with h2|h2
  ·exact h1.2 h2
  ·omega
 ·rcases hF b hb with h2|h2
  ·exact h.base b h2
  ·exact aM h.bg.base h2
theorem Bw.lt (h:Bw M w v l):Bw (fun b=>M b∧b<w.heap.size) w v l:=by
 refine ⟨h.1,?_⟩;rcases h.2 with h2|h2
 ·exact .inl h2
 ·by_cases hl:l= []
  ·exact .inl hl
  ·refine .inr fun b hb=>⟨h2 b hb,?_⟩
   obtain ⟨a,c,rfl,_,_,_,h3⟩:=h.1;rcases h3 with h3|⟨b',o,rfl,hlt,_⟩
   ·exact absurd h3 hl
   ·cases hb;exact hlt
theorem Es.lt {xs:List Ev} (h:Es M w v xs):Es (fun b=>M b∧b<w.heap.size) w v xs:=by
 obtain ⟨⟨a,c,h1,h2,h3,h4,h5⟩,h6⟩:=h;refine ⟨⟨a,c,h1,h2,h3,h4,?_⟩,fun x hx=>(h6 x hx).lt⟩;rcases h5 with h5|⟨b,o,q1,q2,q3,q4⟩
 ·exact .inl h5
 ·exact .inr ⟨b,o,q1,⟨q2,q3⟩,q3,q4⟩
theorem ue.inN {l:List En} (h:ue A w tb l) (hN:∀ b,A≤b→b<w.heap.size→N b) (ho:cn l) (hl:l.length≤1000000) (hv:∀ x∈l,x.val.length≤33554432):qx N w tb l:=by
 obtain ⟨v,fv,nb,ys,h1,h2,h3,h4⟩:=h;exact ⟨⟨v,fv,nb,ys,h1,h3,(h4.es (M:=fun b=>A≤b) (fun b hb=>hb.elim (fun x=>x.elim) id)).lt.mono (fun b hb=>hN b hb.1 hb.2)⟩,hN tb h2 (af h1),ho,hl,hv⟩
theorem dm.ldd (h:dm Z B Nn w t f T K) {n:Nat} {l:List En} {tb:Nat} (hl:RI w t.tm t.g t.gm n l w' tb) (ho:cn l) (hlen:l.length≤1000000) (hv:∀ x∈l,x.val.length≤33554432):
  dm Z B Nn w' {t with g:=lX t.g (n:Int) (.pointer (some ⟨tb,0,none⟩)),gm:=t.gm+1,ld:=fun k=>if k=(n:Int) then some (tb,l) else t.ld k,N:=fun b=>t.N b∨(w.heap.size≤b∧b<w'.heap.size)} f T K∧
  fD w t w' {t with g:=lX t.g (n:Int) (.pointer (some ⟨tb,0,none⟩)),gm:=t.gm+1,ld:=fun k=>if k=(n:Int) then some (tb,l) else t.ld k,N:=fun b=>t.N b∨(w.heap.size≤b∧b<w'.heap.size)}:=by
 have hs:=Sep.IB hl.gx;have hG:∀ b,b=t.tm→FT t b:=fun b hb=> .inr (.inr (.inr (.inr (.inr (.inl hb)))))
 have n:=h.ne;obtain ⟨aU,hm⟩:=h.mem;have hN:∀ b,t.N b→t.N b∨(w.heap.size≤b∧b<w'.heap.size):=fun b hb=> .inl hb
 have out:∀ b,FT t b→b≠t.tm→w'.heap[b]?=w.heap[b]?:=fun b hb hn=>hs.out b (h.lt hb) hn
 have hk:=h.vH hG hs;refine ⟨⟨h.cell.keep (out _ (.inr (.inr (.inl rfl))) n.YU),h.set.same (out _ (.inr (.inr (.inr (.inl rfl)))) n.YW),h.IA hG hs,h.log.same (out _ (.inr (.inr (.inr (.inr (.inl rfl))))) n.YY),⟨aU,(hm.keep (fun b hb=>out b (.inr (.inl hb)) (n.fm b hb).2.2.2.2.1) hk).mono hN⟩,
  hl.map,fun k b l' fR=> ?_,h.held.keep (out _ (.inr (.inr (.inr (.inr (.inr (.inr rfl)))))) (fun e=>h.xE e.symm)),(h.draws.kp hk).mono hN,?_,h.EM hG hs,fun b hb=> ?_,h.base,h.uk,h.um,h.xE⟩,
  ⟨(hs.mono hG).tgt (fun b hb=> .inl hb),fun b hb=>hb.imp id (fun h1=>h1.1),rfl,rfl,rfl,rfl,rfl,rfl,rfl,rfl,rfl,rfl⟩⟩
 ·dsimp only at fR ⊢
  split at fR
  ·rename_i he
   cases fR;exact ⟨by unfold lX;rw [if_pos he],hl.sst.inN (fun b h1 h2=> .inr ⟨h1,h2⟩) ho hlen hv⟩
  ·rename_i he
   obtain ⟨h1,h2⟩:=h.load k b l' fR;exact ⟨by unfold lX;rw [if_neg he];exact h1,(h2.kp hk).mono hN⟩
 ·obtain ⟨V,d1,d2,d3,d4⟩:=h.bg
  exact ⟨V,d1.keep hs.size (fun b hb=>out b (.inl hb) (fun e=>h.uk (by rw [←e];exact hb))),d2,d3,d4⟩
 ·rcases hb with hb|hb
  ·exact ⟨cf (h.apart b hb).1 hs.size,(h.apart b hb).2⟩
  ·exact ⟨hb.2,fun hf=>by have:=h.lt hf;omega⟩
theorem dm.js (h:dm Z B Nn w t f T K) {Za:Int→Option Value} {mE:Nat} (hmap:fj w' t.hm vC Za mE) (hg:GX t.hm w w'):
  dm Z B Nn w' {t with hh:=Za,hn:=mE} f T K∧fD w t w' {t with hh:=Za,hn:=mE}:=by
 have hs:=Sep.IB hg;have hG:∀ b,b=t.hm→FT t b:=fun b hb=> .inr (.inr (.inr (.inr (.inr (.inr hb)))))
 have n:=h.ne;obtain ⟨aU,hm⟩:=h.mem;have out:∀ b,FT t b→b≠t.hm→w'.heap[b]?=w.heap[b]?:=fun b hb hn=>hs.out b (h.lt hb) hn
 have hk:=h.vH hG hs;refine ⟨⟨h.cell.keep (out _ (.inr (.inr (.inl rfl))) n.YV),h.set.same (out _ (.inr (.inr (.inr (.inl rfl)))) n.YX),h.IA hG hs,h.log.same (out _ (.inr (.inr (.inr (.inr (.inl rfl))))) n.YZ),⟨aU,hm.keep (fun b hb=>out b (.inr (.inl hb)) (n.fm b hb).2.2.2.2.2) hk⟩,
  h.tabs.keep (out _ (.inr (.inr (.inr (.inr (.inr (.inl rfl)))))) h.xE),h.Ca hG hs,hmap,h.draws.kp hk,?_,h.EM hG hs,fun b hb=>⟨cf (h.apart b hb).1 hs.size,(h.apart b hb).2⟩,h.base,h.uk,h.um,h.xE⟩,
  ⟨(hs.mono hG).tgt (fun b hb=> .inl hb),fun b hb=> .inl hb,rfl,rfl,rfl,rfl,rfl,rfl,rfl,rfl,rfl,rfl⟩⟩
 obtain ⟨V,d1,d2,d3,d4⟩:=h.bg;exact ⟨V,d1.keep hs.size (fun b hb=>out b (.inl hb) (fun e=>h.um (by rw [←e];exact hb))),d2,d3,d4⟩
theorem dm.laid (h:dm Z B Nn w t f T K) {ws:List Wr} {N':Nat→Prop} {bN:List Nd} (hl:Mb t.N w t.db t.sb t.o t.drv (.pointer (some ⟨t.lb,0,none⟩)) t.mb t.tm (max t.seq s) t.hm t.ha t.ns t.dv t.ds s ws N' bN w'):
  dm Z B Nn w' {t with seq:=max t.seq s,ns:=bN,N:=N'} f T K∧fD w t w' {t with seq:=max t.seq s,ns:=bN,N:=N'}:=by
 have hs:=hl.sep;have hG:∀ b,FL (FM t.mb t.ha t.ns) t.db b→FT t b:=fun b hb=>by
  rcases hb with hb|rfl
  ·exact .inr (.inl hb)
  ·exact .inr (.inr (.inl rfl))
 have n:=h.ne;have hk:=h.vH hG hs;have hF:∀ b,FT {t with seq:=max t.seq s,ns:=bN,N:=N'} b→FT t b∨w.heap.size≤b:=fun b hb=>by
  rcases hb with hb|hb|hb
  ·exact .inl (.inl hb)
  ·exact (hs.foot b (.inl hb)).imp (hG b) id
  ·exact .inl (.inr (.inr hb))
 have nf:∀ b,t.F b→¬ FL (FM t.mb t.ha t.ns) t.db b:=fun b hb hf=>by
  rcases hf with hf|rfl
  ·exact (n.fm b hf).1 hb
  ·exact n.xx hb
 have out:∀ b,FT t b→¬ FL (FM t.mb t.ha t.ns) t.db b→w'.heap[b]?=w.heap[b]?:=fun b hb hn=>hs.out b (h.lt hb) hn
 have nn:∀ b,b≠t.db→(∀ c,FM t.mb t.ha t.ns c→c≠b)→¬ FL (FM t.mb t.ha t.ns) t.db b:=fun b h1 h2 hf=>by
  rcases hf with hf|hf
  ·exact h2 b hf rfl
  ·exact h1 hf
 refine ⟨⟨hl.cell,h.set.same (out _ (.inr (.inr (.inr (.inl rfl)))) (nn _ (fun e=>n.YS e.symm) (fun c hc=>(n.fm c hc).2.2.1))),h.IA hG hs,h.log.same (out _ (.inr (.inr (.inr (.inr (.inl rfl))))) (nn _ (fun e=>n.YT e.symm) (fun c hc=>(n.fm c hc).2.2.2.1))),hl.mem,
  h.tabs.keep (out _ (.inr (.inr (.inr (.inr (.inr (.inl rfl)))))) (nn _ (fun e=>n.YU e.symm) (fun c hc=>(n.fm c hc).2.2.2.2.1))),fun k b l fR=>⟨(h.Ca hG hs k b l fR).1,(h.Ca hG hs k b l fR).2.mono hl.sub⟩,h.held.keep (out _ (.inr (.inr (.inr (.inr (.inr (.inr rfl)))))) (nn _ (fun e=>n.YV e.symm) (fun c hc=>(n.fm c hc).2.2.2.2.2))),(h.draws.kp hk).mono hl.sub,?_,h.EM hG hs,fun b hb=>⟨(hl.apart b hb).1,fun hf=> ?_⟩,fun b hb=> ?_,h.uk,h.um,h.xE⟩,
  ⟨(hs.mono hG).tgt hF,hl.new,rfl,rfl,rfl,rfl,rfl,rfl,rfl,rfl,rfl,rfl⟩⟩
 ·obtain ⟨V,d1,d2,d3,d4⟩:=h.bg
  exact ⟨V,d1.keep hs.size (fun b hb=>out b (.inl hb) (nf b hb)),d2,d3,d4⟩
 ·rcases hl.new b hb with h1|h1
  ·rcases hf with hf|hf|hf
   ·exact (h.apart b h1).2 (.inl hf)
   ·exact (hl.apart b hb).2 hf
   ·exact (h.apart b h1).2 (.inr (.inr hf))
  ·rcases hf with hf|hf|hf
   ·have:=h.lt (.inl hf);omega
   ·exact (hl.apart b hb).2 hf
   ·have:=h.lt (.inr (.inr hf));omega
 ·rcases hF b hb with h2|h2
  ·exact h.base b h2
  ·exact aM h.bg.base h2
theorem dm.aDo (h:dm Z B Nn w t f T K) {mb ha:Nat} {dv:Value} (hM:dQ (fun b=>w.heap.size≤b∧b<w'.heap.size∧¬ FM mb ha [] b) w' mb ha [] 0 dv t.ds) (hg:Grow w w') (vt:w.heap.size≤mb) (IC:w.heap.size≤ha):
  dm Z B Nn (w'.setCell ⟨t.db,8,none⟩ (.pointer (some ⟨mb,0,none⟩))) {t with mb:=mb,ha:=ha,ns:= [],dv:=dv,N:=fun b=>t.N b∨(w.heap.size≤b∧b<w'.heap.size∧¬ FM mb ha [] b)} f T K∧
  fD w t (w'.setCell ⟨t.db,8,none⟩ (.pointer (some ⟨mb,0,none⟩))) {t with mb:=mb,ha:=ha,ns:= [],dv:=dv,N:=fun b=>t.N b∨(w.heap.size≤b∧b<w'.heap.size∧¬ FM mb ha [] b)}:=by
 have bu:=h.lt (b:=t.db) (.inr (.inr (.inl rfl)));have hs:Sep (fun b=>b=t.db) w (w'.setCell ⟨t.db,8,none⟩ (.pointer (some ⟨mb,0,none⟩))) (fun b=>b=t.db):=
  ⟨hg.os,hg.tape,hg.output,by simpa using hg.size,fun b hb hn=>(aP _ _ _ _ hn).trans (hg.block b hb),fun b hb=> .inl hb⟩
 have hG:∀ b,b=t.db→FT t b:=fun b hb=> .inr (.inr (.inl hb))
 have n:=h.ne;have hk:=h.vH hG hs;have hN:∀ b,t.N b→t.N b∨(w.heap.size≤b∧b<w'.heap.size∧¬ FM mb ha [] b):=fun b hb=> .inl hb
 have kD:∀ b,FM mb ha [] b→w.heap.size≤b:=fun b hb=>by
  rcases hb with rfl|rfl|⟨_,h1,_⟩
  ·exact vt
  ·exact IC
  ·cases h1
 have hF:∀ b,FT {t with mb:=mb,ha:=ha,ns:= [],dv:=dv,N:=fun b=>t.N b∨(w.heap.size≤b∧b<w'.heap.size∧¬ FM mb ha [] b)} b→FT t b∨w.heap.size≤b:=fun b hb=>by
  rcases hb with hb|hb|hb
  ·exact .inl (.inl hb)
  ·exact .inr (kD b hb)
  ·exact .inl (.inr (.inr hb))
 have out:∀ b,FT t b→b≠t.db→(w'.setCell ⟨t.db,8,none⟩ (.pointer (some ⟨mb,0,none⟩))).heap[b]?=w.heap[b]?:=fun b hb hn=>hs.out b (h.lt hb) hn
 have hc:=h.cell.grow hg;have hkN:Kp (fun b=>w.heap.size≤b∧b<w'.heap.size∧¬ FM mb ha [] b) w' (w'.setCell ⟨t.db,8,none⟩ (.pointer (some ⟨mb,0,none⟩))):=⟨by simp,fun b hb _=>aP _ _ _ _ (fun e=>by have e':b=t.db:=e;omega)⟩
 refine ⟨⟨Go.Gl.aK hc 8 _,h.set.same (out _ (.inr (.inr (.inr (.inl rfl)))) (fun e=>n.YS e.symm)),h.IA hG hs,h.log.same (out _ (.inr (.inr (.inr (.inr (.inl rfl))))) (fun e=>n.YT e.symm)),⟨0,(hM.keep (fun b hb=>aP _ _ _ _ (fun e=>by have e':b=t.db:=e;have:=kD b hb;omega)) hkN).mono (fun b hb=> .inr hb)⟩,
  h.tabs.keep (out _ (.inr (.inr (.inr (.inr (.inr (.inl rfl)))))) (fun e=>n.YU e.symm)),fun k b l fR=>⟨(h.Ca hG hs k b l fR).1,(h.Ca hG hs k b l fR).2.mono hN⟩,h.held.keep (out _ (.inr (.inr (.inr (.inr (.inr (.inr rfl)))))) (fun e=>n.YV e.symm)),(h.draws.kp hk).mono hN,?_,h.EM hG hs,fun b hb=> ?_,fun b hb=> ?_,h.uk,h.um,h.xE⟩,
  ⟨(hs.mono hG).tgt hF,fun b hb=>hb.imp id (fun h1=>h1.1),rfl,rfl,rfl,rfl,rfl,rfl,rfl,rfl,rfl,rfl⟩⟩
 ·obtain ⟨V,d1,d2,d3,d4⟩:=h.bg
  exact ⟨V,d1.keep hs.size (fun b hb=>out b (.inl hb) (fun e=>n.xx (by rw [←e];exact hb))),d2,d3,d4⟩
 ·rcases hb with hb|hb
  ·refine ⟨cf (h.apart b hb).1 hs.size,fun hf=> ?_⟩
   rcases hF b hf with h2|h2
   ·exact (h.apart b hb).2 h2
   ·have:=(h.apart b hb).1;omega
  ·refine ⟨by simpa using hb.2.1,fun hf=> ?_⟩
   rcases hf with hf|hf|hf
   ·have:=h.lt (.inl hf);omega
   ·exact hb.2.2 hf
   ·have:=h.lt (.inr (.inr hf));omega
 ·rcases hF b hb with h2|h2
  ·exact h.base b h2
  ·exact aM h.bg.base h2
end
end Go.Proofs.YtoolkdapflaeeaaGreatDoor
namespace Go.Proofs.YtoolkdapflaeeaaGreatDoor
open Go.RowKit Go.Gl Go.aF Mn Go.Extern.Stop Go.Stop Go.Extern
theorem Tryz.aDq (v:Value) (w:World):(Extern.ReflectliteType.typeOf #[.iface 38 v]).run Tryz.prog w= .ok (.iface 202 (.agg #[.pointer (some ⟨5,38,none⟩)])) w:=by kernel_rfl
theorem Tryz.aDr (w:World):(callFunc 279 #[.agg #[.pointer (some ⟨5,38,none⟩)]]).run Tryz.prog w= .ok (.value (.bool true)) w:=by kernel_rfl
theorem Tryz.aDs (v:Value) (w:World):(Go.method 492 202 v "Comparable").run Tryz.prog w= .ok (279,v) w:=by kernel_rfl
theorem Tryz.aDt (v:Value) (xT:TypeId) (w:World):(Instr.typeAssert (.iface 38 v) xT 204 true).run Tryz.prog w= .ok (.tuple #[.nilIface,.bool false]) w:=run_typeAssert_lacksB Tryz.underlying204 (by kernel_rfl) (by kernel_rfl) v xT w
theorem Tryz.aDu (v:Value) (xT:TypeId) (w:World):(Instr.typeAssert (.iface 38 v) xT 207 true).run Tryz.prog w= .ok (.tuple #[.nilIface,.bool false]) w:=run_typeAssert_lacksB Tryz.underlying207 (by kernel_rfl) (by kernel_rfl) v xT w
theorem Tryz.aDv (v:Value) (xT:TypeId) (w:World):(Instr.typeAssert (.iface 38 v) xT 208 true).run Tryz.prog w= .ok (.tuple #[.nilIface,.bool false]) w:=run_typeAssert_lacksB Tryz.underlying208 (by kernel_rfl) (by kernel_rfl) v xT w
theorem akZ (a b:Int) (w:World):
  Calls Tryz.prog 24 #[.iface 38 (.int .i64 a),.iface 38 (.int .i64 b)] w fun e w'=>e= .returned (.bool (a==b))∧w'=w:=by
 have h8:= @run_callFunc_extern Tryz.prog 55 _ Extern.ReflectliteType.typeOf Tryz.func55 (by kernel_rfl) (by kernel_rfl) (by kernel_rfl) (by kernel_rfl);have tT:=Tryz.aDq;have cT:=Tryz.aDr;have mR:=Tryz.aDs;have nE:=Tryz.aDt;have uE:=Tryz.aDu;have vE:=Tryz.aDv;cases hc:(a==b) with
 |true=>
  have heq:=Lib.run_eql_iface_int (P:=Tryz.prog) w (t:=66) (tx:=38) (k:= .i64) (q:= .i64) a b Tryz.underlying66 (by kernel_rfl) Tryz.underlying38;rw [hc] at heq;go_enter Tryz.func24,Tryz.ntmps24;go_wp2;refine wp_loop_rounds 1 ?_;rw [rounds_succ];go_wp2;go_ret;exact ⟨rfl,rfl⟩
 |false=>
  have heq:=Lib.run_eql_iface_int (P:=Tryz.prog) w (t:=66) (tx:=38) (k:= .i64) (q:= .i64) a b Tryz.underlying66 (by kernel_rfl) Tryz.underlying38;rw [hc] at heq;go_enter Tryz.func24,Tryz.ntmps24;go_wp2;refine wp_loop_rounds 1 ?_;rw [rounds_succ];go_wp2;go_ret;exact ⟨rfl,rfl⟩
theorem ala (a:Int) (w:World):
 Calls Tryz.prog 24 #[.iface 38 (.int .i64 a),.iface 38 (.int .i64 4)] w fun e w'=>e= .returned (.bool (a==4))∧w'=w:=akZ a 4 w
end Go.Proofs.YtoolkdapflaeeaaGreatDoor
namespace Go.Proofs.YtoolkdapflaeeaaGreatDoor
open Go.RowKit Go.Gl Go.aF Mn
theorem aDw {N:Nat} (hN:dn N B w) (hB:B≤w.heap.size) {n:Nat} (hn:n<N) (h6:n<1000000) (h:Bv w bv (kH n)):
  Calls Tryz.prog 136 #[bv] w fun e w'=>e= .returned (.tuple #[.int .i64 n,.bool true])∧Grow w w':=by
 have hc0:=CO h;have Ha:=ae (atB h6 w);have hd:=FQ h6;obtain ⟨ba,bc,rfl⟩:=h.slice;have hcv:∀ W,Bv W (.slice ba (kH n).length bc) (kH n)→(convert 49 9 (.slice ba (kH n).length bc)).run Tryz.prog W= .ok (.string ⟨(kH n).toArray⟩) W:=fun W hW=>CO hW
 have H:=ae h;have HN:=ae hN;clear h hN;have g1:decide ((n:Int)≤999999999)=true:=by simp;omega
 have g0:decide ((0:Int)≤(n:Int))=true:=by simp
 go_enter Tryz.func136,Tryz.ntmps136
 go_wp2_with fail
 (with_reducible refine Ha.out.mono ?_);rintro e w1 ⟨rfl,hg1⟩;have eC:=ae hg1;clear hg1 Ha
 go_upto_region 2 with fail
 have hgd:=az w1;refine ou (fun W=>Bv W (.slice ba (kH n).length bc) (kH n)) [(0,false),(1,false),(2,false),(3,false),(4,false),(5,false),(6,false),(7,false),(8,false),(9,false),(10,false),(11,false),(12,false),(14,false),(15,false),(13,true),(16,false),(17,false),(18,false),(19,false)] (by kernel_rfl) (by kernel_rfl) (bK fun _ _ _ _ _ h=>h) (H.out.grow (eC.out.trans hgd)) ?_;simp only [cm,nth]
 repeat ((first|(refine aA (v:= ?_) (by rfl) ?_ ?_;rotate_left;rintro W hW;go_simp;with_reducible rfl)|refine aB (by rfl) ?_);simp only [ai,List.set])
 have AR:B≤w1.heap.size:=aM hB eC.out.size;refine bp (by rfl) (by go_simp) (((HN.out.grow eC.out hB).grow hgd AR) n hn _ (fun _ _=>rfl)) ?_;rintro e w2 ⟨rfl,hg2⟩;have hg:=(eC.out.trans hgd).trans hg2;refine ⟨_,rfl,H.out.grow hg,?_⟩
 try simp only [ai,List.set,aC]
 repeat ((first|(refine aA (v:= ?_) (by rfl) ?_ ?_;rotate_left;rintro W hW;go_simp;with_reducible rfl)|refine aB (by rfl) ?_);simp only [ai,List.set])
 refine bj ?_;have Hg:=ae hg;clear hg hgd hg2;go_wp2;exact bodyPost_ret (v:= .tuple #[.int .i64 (n:Int),.bool true]) (by simp [results,Tryz.results136,go_sem]) rfl ⟨rfl,Hg.out⟩
theorem aDx (w:World):Bv w (.slice none 0 0) []:=⟨none,0,rfl,aw _,aY _,fun _=>rfl,.inl rfl⟩
theorem aDy {N:Nat} {p:Nat} {f:Lk} {sb:Nat} {tv:Value} {V:bI} {m:Int} (hS:eh w sb p tv V m) (h:Dl Z B w p r f T K F) (hB:B≤sb) (hN:dn N B w) (hn:0<N)
  (tC:f tr=none) (PB:f qG=none) (hroom:T+6≤Z):
  Calls Tryz.prog 89 #[.pointer (some ⟨sb,0,none⟩)] w fun e w'=>e= .returned .nilIface∧eh w' sb p tv V 0∧(∃ T' F',T'≤T+6∧Dl Z B w' p r (PA 0 [] f) T' (K+3) F')∧Rl B r w w':=by
 obtain ⟨c0,_,_,_,_,_,ls⟩:=hS.cells;have bm:=JZ h tr;rw [tC] at bm;have oL:=ae bm;have H:=ae h;have HS:=ae hS;have HN:=ae hN;clear h hS hN bm;go_enter Tryz.func89,Tryz.ntmps89
 go_wp2_with fail
 (with_reducible refine oL.out.mono ?_);rintro e w1 ⟨rfl,hg1⟩
 go_wp2_with fail
 (with_reducible refine (ala 4 w1).mono ?_);rintro e w2 ⟨rfl,hw⟩;have hw':=hw.symm;subst hw';clear hw;have Ht0:=(awZ (n:=0) (HS.out.grow hg1) (H.out.grow hg1) hB (HN.out.grow hg1 H.out.base) hn (by decide) (aDx w1) (by simp) (fun b hb=>by cases hb) PB (by simpa using hroom))
 have Mw:Calls Tryz.prog 135 #[.pointer (some ⟨sb,0,none⟩),.int .i64 0,.slice none 0 0] w1 _:=Ht0;have Ht:=ae Mw;have eC:=ae hg1;clear Ht0 Mw;have HB:=ae H.out.base;have Zb:((4:Int)==4)=true:=rfl;rw [Zb];clear hg1 oL H HS HN c0 ls
 go_wp2_with fail
 (with_reducible refine Ht.out.mono ?_);rintro e w3 ⟨rfl,Mx,⟨T3,F3,Cb,fZ⟩,hr3⟩;have bw:=ae (ag Mx (ag fZ ((Rl.grow (r:=r) eC.out HB.out).trans hr3)));clear Mx fZ hr3 Ht;go_wp2;go_ret;exact ⟨rfl,bw.out.1,⟨T3,F3,by simpa using Cb,bw.out.2.1⟩,bw.out.2.2⟩
theorem Dl.gx {f:Lk} (h:Dl Z B w p r f T K F) (hb:w.heap[sb]?=some (.cells cs 154 fz)) (hG:GX sb w w'):Dl Z B w' p r f T K F:=by
 have CG:=h.apart hb (by decide) (by decide) (by decide);obtain ⟨V,⟨hZ,h0,born,fs,hd,h1,h2⟩,h3,h4,h5⟩:=h;subst h2;obtain ⟨c,hm,hc⟩:=hd.map;obtain ⟨_,_,_,gs,ge⟩:=hG;have ho:∀ b,dt p r fs b→w'.heap[b]?=w.heap[b]?:=fun b kZ=>ge b (hd.acD kZ).2 (fun e=>CG (by cases e;exact kZ))
 refine ⟨V,⟨hZ,h0,born,fs,⟨(ho p (.inl rfl)).trans hd.self,⟨c,(ho r (.inr (.inl rfl))).trans hm,hc⟩,hd.names,hd.sV,hd.sW,hd.rows,fun f hf=> ?_,hd.base.1,hd.base.2.1,aM hd.base.2.2 gs⟩,h1,rfl⟩,h3,h4,h5⟩;have bq:=hd.files f hf;exact ⟨(ho _ (.inr (.inr ⟨f,hf,.inl rfl⟩))).trans bq.cell,bq.row.keep (fun b hb=>ho b (.inr (.inr ⟨f,hf,.inr hb⟩))),bq.base,bq.sync⟩
theorem Row1.gx (h:Go.Gl.Row1 e B w v xs) (hb:w.heap[sb]?=some (.cells cs 154 fz)) (he:e≠154) (hG:GX sb w w'):Go.Gl.Row1 e B w' v xs:=
 h.keep fun g hg=>by
  obtain ⟨cur,hc⟩:=h.block hg;rw [hG.heap hc (oP hc hb he),hc]
theorem lG.gx {ps:List (List UInt8)} (h:lG B w v ps) (hb:w.heap[sb]?=some (.cells cs 154 fz)) (hG:GX sb w w'):lG B w' v ps:=by
 obtain ⟨vals,h1,h2,h3⟩:=h;exact ⟨vals,Row1.gx h1 hb (by decide) hG,h2,fun i u p hu hp=>Row1.gx (h3 i u p hu hp) hb (by decide) hG⟩
theorem aDz {l:List Tb} (h:Mn.Own B w v l) (hb:w.heap[sb]?=some (.cells cs 154 fz)) (hG:GX sb w w'):Mn.Own B w' v l:=wG h fun g hg=>by
 obtain ⟨cur,hc,_⟩:=rP h hg;rw [hG.heap hc (oP hc hb (by decide)),hc]
theorem Rl.gx (hb:w.heap[sb]?=some (.cells cs 154 fz)) (hB:B≤sb) (hG:GX sb w w'):Rl B r w w':=by
 have hs:=af hb;obtain ⟨ga,gb,gc,gd,ge⟩:=hG;refine ⟨⟨ga,gb,gc,gd,fun b arr t f h ht=> ?_,fun b o h hc _=> ?_⟩,⟨ga,gb,gc,gd,fun b h=>ge b (by omega) (fun e=>by cases e;omega)⟩⟩
 ·rw [ge b (af h) (fun e=> ?_)]
  ·exact h
  ·cases e;rw [hb] at h;cases h;exact ht (.inr (.inr (.inr rfl)))
 ·rw [ge b (af h) (fun e=> ?_)]
  ·exact h
  ·cases e;rw [hb] at h;cases h;exact hc _ _ _ rfl
theorem alc:∀ (a:List cH) {v V:bI},gu v a=(0,V)→V.tabs.length≤v.tabs.length+(a.map (fun e=>e.add.length)).sum
 | [],v,V,h=>by
  simp only [gu,Prod.mk.injEq,true_and] at h;subst h;simp
 |e::a,v,V,h=>by
  unfold gu at h;by_cases h0:(bz v e).1=0
  ·rw [if_pos h0] at h
   have h1:=alc a h;have h2:=aeb v e;simp only [cg,List.sum_cons];omega
  ·rw [if_neg h0] at h
   exact absurd (congrArg Prod.fst h) h0
structure OpI (Z B:Nat) (w3:World) (p r:Nat) (f:Lk) (T K:Nat) (F:Nat→Prop) (sb n:Nat) (rv:Value) (es:List cH) (V:bI) (i:Nat) (wr:World):Prop where
 gx:GX sb w3 wr
 set:∃ tv U,eh wr sb p tv U n∧Mn.Own 0 wr tv U.tabs∧gu dh (es.take i)=(0,U)∧gu U (es.drop i)=(0,V)
def Zc (Z B:Nat) (w3:World) (p r:Nat) (f:Lk) (T K:Nat) (F:Nat→Prop) (sb n:Nat) (rv:Value) (es:List cH) (V:bI) (iv ev:Value) (wr:World):Prop:=
 ∃ i:Nat,iv= .int .i64 i∧i≤es.length∧ev= .int .i64 0∧OpI Z B w3 p r f T K F sb n rv es V i wr
theorem aDB {l:List Int} (h:Az B w v l):Ints w v l:=by
 rcases h with ⟨h1,h2⟩|⟨g,cap,cur,h1,h2,h3,h4,h5,h6,h7⟩
 ·have hl:l= []:=by simpa using h2
  subst hl;rw [h1];exact avE w
 ·rw [bF] at h1 h4 h7
  refine ⟨_,cap,h1,h4,.inr ⟨g,0,rfl,af h3,fun j k hk=> ?_⟩⟩;have hj:j<l.length:=by
   rcases Nat.lt_or_ge j l.length with h|h
   ·exact h
   ·rw [List.getElem?_eq_none h] at hk;cases hk
  have h8:cur.toList[j]?=some (.int .i64 k):=by
   have:=congrArg (fun x=>x[j]?) h7;simp only [List.getElem?_take,hj,if_true,gZ,hk,Option.map_some] at this;exact this
  rw [Nat.zero_add];simp only [World.cell?,h3];rw [←h8];simp
theorem My {x:Nat}:∀ {l:List Nat},x∈l→x≤l.sum
 |a::l,h=>by
  rcases bE.1 h with rfl|h
  ·simp
  ·have:=My h;simp;omega
theorem Kf {e:cH} {U:bI}:∀ {a:List cH} {v W:bI},gu v a=(0,U)→(bz U e).1=0→W=(bz U e).2→gu v (a++(some e).toList)=(0,W)
 | [],v,W,h,h0,hp=>by
  simp only [gu,Prod.mk.injEq,true_and] at h;subst h;show gu v [e]=_;rw [Vh,if_pos h0,hp]
 |x::a,v,W,h,h0,hp=>by
  rw [gG];unfold gu at h ⊢;by_cases hx:(bz v x).1=0
  ·rw [if_pos hx] at h ⊢
   exact Kf h h0 hp
  ·rw [if_neg hx] at h
   exact absurd (congrArg Prod.fst h) hx
abbrev OpS (sb eb:Nat) (tv:Value) (U:bI) (x0 x1 x2 x3 x4:Value) (W:World):Prop:=
 (W.cell? ⟨sb,1,none⟩=some tv∧W.cell? ⟨sb,2,none⟩=some (.int .u64 U.seq)∧W.cell? ⟨sb,3,none⟩=some (.int .i64 U.next)∧W.cell? ⟨sb,4,none⟩=some (.int .i64 U.wal)∧sb<W.heap.size)∧
 (W.cell? ⟨eb,0,none⟩=some x0∧W.cell? ⟨eb,1,none⟩=some x1∧W.cell? ⟨eb,2,none⟩=some x2∧W.cell? ⟨eb,3,none⟩=some x3∧W.cell? ⟨eb,4,none⟩=some x4∧eb<W.heap.size)
theorem RX {eb:Nat} {V:bI} {n:Int} (hS:eh W sb p tv V n) (hb:W.heap[eb]?=some (.cells #[x0,x1,x2,x3,x4] 148 (0,0))):OpS sb eb tv V x0 x1 x2 x3 x4 W:=by
 obtain ⟨_,c1,c2,c3,c4,_,ls⟩:=hS.cells;obtain ⟨e0,e1,e2,e3,e4⟩:=dw hb;exact ⟨⟨c1,c2,c3,c4,ls⟩,e0,e1,e2,e3,e4,af hb⟩
theorem aDC {U V:bI} {e:cH} {l:List cH} (h:gu U (e::l)=(0,V)):(bz U e).1=0∧gu (bz U e).2 l=(0,V)∧gu U [e]=(0,(bz U e).2):=by
 unfold gu at h;by_cases h0:(bz U e).1=0
 ·rw [if_pos h0] at h
  exact ⟨h0,h,by rw [Vh,if_pos h0]⟩
 ·rw [if_neg h0] at h
  exact absurd (congrArg Prod.fst h) h0
theorem aDD {N:Nat} {f:Lk} {m:Int} (hS:eh w sb p (.slice none 0 0) dh m) (h:Dl Z B w p r f T K F) (hB:B≤sb) (hN:dn N B w) (hn:n<N) (h6:n<1000000)
  {q0 s1:Nat} (tC:f tr=some (kH n,q0)) {es:List cH} (Zd:f (cX n)=some (bZ aq (es.map dA),s1))
  (hes:∀ e∈es,Au e∧e.drop.length≤10000∧(dA e).length≤67108864) (CA:(es.map (fun e=>e.add.length)).sum≤5000) (wF:es.length≤1000000) {V:bI} (hV:gu dh es=(0,V)):
  Calls Tryz.prog 89 #[.pointer (some ⟨sb,0,none⟩)] w fun e w'=>e= .returned .nilIface∧(∃ tv,eh w' sb p tv V n∧Mn.Own 0 w' tv V.tabs)∧(∃ F',Dl Z B w' p r f T K F')∧Rl B r w w':=by
 obtain ⟨c0,_,_,_,_,_,ls⟩:=hS.cells;have bm:=JZ h tr;rw [tC] at bm;have hlen:=h.len Zd;have hTZ:=h.total;have hZ:=h.size;have oL:=ae bm;have H:=ae h;have HS:=ae hS;have HN:=ae hN;have aDE:=ae Zd;have HV:=ae hV;have RY:=ae hes;clear h hS hN bm Zd hV hes tC;go_enter Tryz.func89,Tryz.ntmps89
 go_wp2_with fail
 (with_reducible refine oL.out.mono ?_);rintro e w1 ⟨⟨v,rfl,hv⟩,hg1⟩;obtain ⟨va,vc,rfl⟩:=hv.slice;have Hv:=ae hv;have eC:=ae hg1;clear hv hg1 oL
 go_wp2_with fail
 (with_reducible refine (ala 0 w1).mono ?_);rintro e w2 ⟨rfl,hw⟩;have hw':=hw.symm;subst hw';clear hw;have RZ:=ae (aDw (HN.out.grow eC.out H.out.base) (aM H.out.base eC.out.size) hn h6 (cI Hv.out));have Zb:((0:Int)==4)=false:=rfl;rw [Zb];clear c0 ls
 go_wp2_with fail
 (with_reducible refine RZ.out.mono ?_);rintro e w2 ⟨rfl,hg2⟩;have jr:=eC.out.trans hg2;have jA:=ae (HS.out.grow jr);have H2:=ae (H.out.grow jr);have yP:=ae (HN.out.grow jr H.out.base);have qR:=ae (Rl.grow (r:=r) jr H.out.base);clear hg2 jr RZ HS H HN eC Hv
 go_upto_region 7 with fail
 obtain ⟨c0,_,_,_,_,_,ls⟩:=jA.out.cells;refine dz (fun W=>W.cell? ⟨sb,0,none⟩=some (.pointer (some ⟨p,0,none⟩))∧sb<W.heap.size) [5,0] (by kernel_rfl) (bK fun _ _ _ _ _ h=>h) ⟨by simpa using c0,by simpa using ls⟩ ?_;simp only [cF];clear c0 ls
 repeat ((first|(refine aA (v:= ?_) (by rfl) ?_ ?_;rotate_left;rintro W ⟨hW0,hW1⟩;go_simp;with_reducible rfl)|refine aB (by rfl) ?_);simp only [ai,List.set])
 have hgd:=az w2;refine bp (by rfl) (by go_simp) (JX (yP.out.grow hgd H2.out.base) hn h6) ?_;rintro e w3 ⟨rfl,hg3⟩;have lh:=hgd.trans hg3;obtain ⟨c0,_,_,_,_,_,ls⟩:=(jA.out.grow lh).cells;refine ⟨_,rfl,⟨c0,ls⟩,?_⟩
 try simp only [ai,List.set,aC]
 have fZ:=H2.out.grow lh;have bm:=JZ fZ (cX n);rw [aDE.out] at bm;refine bp (by rfl) (by go_simp) bm ?_;rintro e w4 ⟨⟨v,rfl,hv⟩,hg4⟩;obtain ⟨xa,xc,rfl⟩:=hv.slice;have im:=lh.trans hg4;obtain ⟨d0,_,_,_,_,_,ld⟩:=(jA.out.grow im).cells;refine ⟨_,rfl,⟨d0,ld⟩,?_⟩
 try simp only [ai,List.set,aC]
 repeat ((first|(refine aA (v:= ?_) (by rfl) ?_ ?_;rotate_left;rintro W ⟨hW0,hW1⟩;go_simp;with_reducible rfl)|refine aB (by rfl) ?_);simp only [ai,List.set])
 refine bj ?_;have KD:=ae (jA.out.grow im);have H4:=ae (H2.out.grow im);have AA:=ae (qR.out.trans (Rl.grow (r:=r) im H2.out.base));have Hv:=ae hv;clear hgd hg3 lh hg4 im fZ bm hv c0 ls d0 ld jA H2 yP qR;have Cc:w4.heap[sb]?=some (.cells (setCells p (.slice none 0 0) dh m) 154 (0,0)):=KD.out;have ls4:=af Cc;have c5:w4.cell? ⟨sb,5,none⟩=some (.int .i64 m):=by simp [World.cell?,Cc]
 have f4:=bG Cc;have uX:eh (w4.setCell ⟨sb,5,none⟩ (.int .i64 (n:Int))) sb p (.slice none 0 0) dh n:=Go.Gl.aK Cc 5 _;have iG:=H4.out.Gm Cc 5 (.int .i64 (n:Int));have tX:=AA.out.trans (Rl.set (r:=r) Cc hB 5 (.int .i64 (n:Int)));have GG:aI w3.heap.size (w4.setCell ⟨sb,5,none⟩ (.int .i64 (n:Int))) (.slice xa (bZ aq (es.map dA)).length xc) (bZ aq (es.map dA)):=Row1.gx Hv.out Cc (by decide) (Go.Gl.je _ _ _ _);have Lu:(bZ aq (es.map dA)).length≤T:=hlen;have Ze:=acA (cI GG) (by omega);have hw0:lF aq (bZ aq (es.map dA))=(es.map dA,(bZ aq (es.map dA)).length,0):=TJ aq (es.map dA) (fun x hx=>by obtain ⟨e,he,rfl⟩:=aZ.1 hx;exact (RY.out e he).2.2);rw [hw0] at Ze;have mD:=ae Ze;generalize (bZ aq (es.map dA)).length=FL at*;have rY:=ae uX;have pU:=ae iG;have uY:=ae tX;clear uX iG tX GG hw0 Ze Lu Cc
 go_upto_region 11 with fail
 clear c5 f4 ls4;generalize w4.setCell ⟨sb,5,none⟩ (.int .i64 (n:Int))=w5 at*;clear KD H4 AA Hv
 go_wp2_with fail
 (with_reducible refine mD.out.mono ?_);rintro e w6 ⟨rv,rfl,yO,cx⟩;obtain ⟨ra,rc,pO⟩:=yO.slice;rw [bF] at pO;subst pO;have ID:=ae (rY.out.grow cx);have Sc:=ae (pU.out.grow cx);have Sd:=ae (uY.out.trans (Rl.grow (r:=r) cx pU.out.base));have Hrv:=ae yO;have bJ:Hid (Zc Z B w6 p r f T K F sb n (.slice ra es.length rc) es V (.int .i64 0) (.int .i64 0) w6):=ae ⟨0,rfl,aY _,rfl,GX.refl _ _,.slice none 0 0,dh,ID.out,iL _ _ _ _,rfl,by simpa using HV.out⟩;clear cx yO mD rY pU uY
 go_wp2_with fail
 go_loopw [61,4] (fun iv ev wr=>Zc Z B w6 p r f T K F sb n (.slice ra es.length rc) es V iv ev wr) (fun iv _ _=>es.length-(intOf iv).toNat)
 case atStart=>exact bJ.out
 case round=>
  obtain ⟨i,rfl,hi,rfl,hI⟩:=hrel;obtain ⟨tv,U,Sg,hown,Zf,Mz⟩:=hI.set;obtain ⟨ua,uc,rfl⟩:=jL hown;have wP:w6.heap[sb]?=some _:=ID.out;by_cases hlt:i<es.length
  ·obtain ⟨e,he⟩:∃ e,es[i]?=some e:=⟨es[i],by simp [hlt]⟩
   obtain ⟨_,_,e0,hh⟩:=(lG.gx Hrv.out wP hI.gx).rv;rw [bF] at e0;cases e0;obtain ⟨b,o,rfl,hb,hcell⟩:∃ b o,ra=some ⟨b,o,none⟩∧b<wr.heap.size∧∀ (j:Nat) (x:List UInt8),(es.map dA)[j]?=some x→∃ pv,wr.cell? ⟨b,o+j,none⟩=some pv∧Bv wr pv x:=by
    rcases hh with h1|h1
    ·have:=congrArg List.length h1
     rw [bF] at this;simp at this;subst this;simp at hlt
    ·exact h1
   obtain ⟨pv,nT,bC⟩:=hcell i (dA e) (by rw [gZ,he];rfl);obtain ⟨uG,ic,hle⟩:=RY.out e (dB he);have aDG:=ae (avS uG bC (by omega));obtain ⟨pa,pc,rfl⟩:=bC.slice;generalize (dA e).length=EL at*;have eB:(i:Int)<(es.length:Int):=by omega
   have bO:(0:Int)≤(i:Int):=by omega
   have fE:IntKind.i64.wrap ((i:Int)+1)=(i:Int)+1:=aS _ (by omega);have HI:=ae hI;have Zg:=ae Sg;have fX:=ae hown;have HU:=ae (ag Zf Mz);have He:=ae he;clear hI Sg hown Zf Mz he hh hcell bC wP uG
   go_wp2_with fail
   (with_reducible refine aDG.out.mono ?_);rintro e' w7 ⟨tx,dx,rfl,Zh,Zi,cG⟩;obtain ⟨ta,tc,rfl⟩:=jL Zh;obtain ⟨da,dc,sg⟩:=Zi.slice;rw [bF] at sg;subst sg;have Htx:=ae Zh;have Hdx:=ae Zi;have MA:=ae cG;clear Zh Zi cG hle
   go_upto_region 18 with fail
   have ah:=ar w7 (.cells (dN (.slice ta e.add.length tc) (.slice da e.drop.length dc) e.seq e.next e.wal) 148);have Ge:=ax w7 (.cells (dN (.slice ta e.add.length tc) (.slice da e.drop.length dc) e.seq e.next e.wal) 148);have hsz:(w7.alloc (.cells (dN (.slice ta e.add.length tc) (.slice da e.drop.length dc) e.seq e.next e.wal) 148)).heap.size=w7.heap.size+1:=by simp
   generalize w7.alloc (.cells (dN (.slice ta e.add.length tc) (.slice da e.drop.length dc) e.seq e.next e.wal) 148)=wa at*;have hgb:=ar wa (.cells (bP (.slice none 0 0) 0 0 0) 85);have Zj:=ax wa (.cells (bP (.slice none 0 0) 0 0 0) 85);rw [hsz] at Zj;generalize wa.alloc (.cells (bP (.slice none 0 0) 0 0 0) 85)=w8 at*;have Bf:=ah.trans hgb;have alh:=hgb.heap Ge;have sF:=MA.out.trans Bf;have MB:=ae (Zg.out.grow sF);have ali:=ae (eM fX.out sF);have alj:=ae (awW (eM Htx.out Bf));have alk:=ae (aDB (Hdx.out.grow Bf));have MC:=ae alh;have Hv8:=ae Zj;have aln:=ae sF;have aLC:wr.heap.size≤w7.heap.size:=MA.out.size;generalize w7.heap.size=eb at*;clear ah Ge hsz hgb Zj Bf alh sF Htx Hdx MA;refine dz (OpS sb eb (.slice ua U.tabs.length uc) U (.slice ta e.add.length tc) (.slice da e.drop.length dc) (.int .u64 e.seq) (.int .i64 e.next) (.int .i64 e.wal)) [5,0,3] (by kernel_rfl) (bK fun _ _ _ _ _ h=>h) (RX (MB.out.grow (az _)) ((az _).heap MC.out)) ?_;simp only [cF]
   repeat ((first|(refine aA (v:= ?_) (by rfl) ?_ ?_;rotate_left;rintro W ⟨⟨hW0,hW1,hW2,hW3,pX⟩,wU,tJ,yQ,yR,EO,alo⟩;go_simp;with_reducible rfl)|refine aB (by rfl) ?_);simp only [ai,List.set])
   have hgd:=az w8;have ah:=ar w8.drew (.cells (dN (.slice ta e.add.length tc) (.slice da e.drop.length dc) e.seq e.next e.wal) 148);have pD:=hgd.trans ah;have hq:=ax w8.drew (.cells (dN (.slice ta e.add.length tc) (.slice da e.drop.length dc) e.seq e.next e.wal) 148);have hrun:=aeC w8.drew ta e.add.length tc da e.drop.length dc e.seq e.next e.wal;have ul:U.tabs.length≤5000:=by
    have h1:=alc _ HU.out.1;have h2:((es.take i).map (fun e=>e.add.length)).sum≤(es.map (fun e=>e.add.length)).sum:=by
     conv=>rhs;rw [←List.take_append_drop i es,dD,List.sum_append]
     omega
    have h3:dh.tabs.length=0:=rfl;omega
   have oM:e.add.length≤5000:=by
    have h2:e.add.length≤(es.map (fun e=>e.add.length)).sum:=My (aZ.2 ⟨e,dB He.out,rfl⟩);omega
   have hdr:es.drop i=e::es.drop (i+1):=by
    rw [mh hlt];have:=He.out;rw [dZ hlt] at this;rw [bk this]
   obtain ⟨hu0,Zk,JF⟩:=aDC (hdr ▸ HU.out.2);obtain ⟨AP,Bd⟩:∃ x,x=(bz U e).2:=⟨_,rfl⟩
   rw [←Bd] at Zk JF;have Hu0:=ae hu0;have Hu1:=ae Zk;have gh:=ae Bd;clear hu0 Zk Bd;refine fO (by rfl) (fun K hK=> ?_);go_simp;refine hK _ _ ⟨RX (MB.out.grow pD) (pD.heap MC.out),?_⟩;clear hK K
   try simp only [ai,List.set,aC]
   have hap:=aec afu (eM ali.out pD) ul (aeD hq (alj.out.grow pD) (alk.out.grow pD)) (by simp) (by intro x hx;rw [cY.1 hx];exact ⟨oM,ic⟩);rw [JF] at hap;refine bp (by rfl) (by go_simp) hap ?_;rintro e' w9 ⟨cC,rfl,ho,vx⟩;have di:=pD.trans vx;refine ⟨_,rfl,RX (MB.out.grow di) (di.heap MC.out),?_⟩
   try simp only [ai,List.set,aC]
   repeat ((first|(refine aA (v:= ?_) (by rfl) ?_ ?_;rotate_left;rintro W ⟨⟨hW0,hW1,hW2,hW3,pX⟩,wU,tJ,yQ,yR,EO,alo⟩;go_simp;with_reducible rfl)|refine aB (by rfl) ?_);simp only [ai,List.set])
   obtain ⟨ya,yc,rfl⟩:=jL ho;have EP:=di.heap Hv8.out;have IE:=MB.out.grow di;have xF:=di.heap MC.out;obtain ⟨t0,t1,t2,t3⟩:=dy EP;have Vn:=af EP;have Vo:=bG EP;have cM:=Ap EP (.slice ya AP.tabs.length yc) (.int .u64 AP.seq) (.int .i64 AP.next) (.int .i64 AP.wal);have jx:=fun (c:Nat) (hc:c≠eb+1)=>FZ (w:=w9) hc (.slice ya AP.tabs.length yc) (.int .u64 AP.seq) (.int .i64 AP.next) (.int .i64 AP.wal)
   have als:=CW (qK ho (aY _)) EP (.slice ya AP.tabs.length yc) (.int .u64 AP.seq) (.int .i64 AP.next) (.int .i64 AP.wal);have Zl:=wE (aln.out.trans di) (show wr.heap.size≤eb+1 by omega) (.slice ya AP.tabs.length yc) (.int .u64 AP.seq) (.int .i64 AP.next) (.int .i64 AP.wal);have MD:sb≠eb+1:=fun h=>by
    have alu:w9.heap[sb]?=some _:=IE;rw [h,EP] at alu;cases alu
   have Zm:=Zg.out.grow Zl;have hbA:=(jx eb (by omega)).trans xF;have opA:=ae (RX Zm hbA);have Zn:=ae Zm;have alx:=ae Zl;have aly:=ae als;have Lj:=ae cM;clear jx cM als Zl Zm hbA EP IE xF di vx pD ah hgd hq hrun hdr MD ul oM;refine fO (by rfl) (fun K hK=> ?_);go_simp;refine hK _ _ ⟨opA.out,?_⟩;clear hK K
   try simp only [ai,List.set,aC]
   repeat ((first|(refine aA (v:= ?_) (by rfl) ?_ ?_;rotate_left;rintro W ⟨⟨hW0,hW1,hW2,hW3,pX⟩,wU,tJ,yQ,yR,EO,alo⟩;go_simp;with_reducible rfl)|refine aB (by rfl) ?_);simp only [ai,List.set])
   refine bj ?_;clear opA t0 t1 t2 t3 Vn Vo;generalize (((w9.setCell ⟨eb+1,0,none⟩ (.slice ya AP.tabs.length yc)).setCell ⟨eb+1,1,none⟩ (.int .u64 AP.seq)).setCell ⟨eb+1,2,none⟩ (.int .i64 AP.next)).setCell ⟨eb+1,3,none⟩ (.int .i64 AP.wal)=wb at*;clear ho hap JF MC Hv8 MB ali alj alk aln;have Sh:wb.heap[sb]?=some (.cells (setCells p (.slice ua U.tabs.length uc) U n) 154 (0,0)):=Zn.out;obtain ⟨_,c1,c2,c3,c4,_,nr⟩:=Zn.out.cells;have YR:=bG Sh;obtain ⟨y0,y1,y2,y3⟩:=dy Lj.out;have ME:=af Lj.out;have aX:Hid (Zc Z B w6 p r f T K F sb n (.slice (some ⟨b,o,none⟩) es.length rc) es V (.int .i64 ((i:Int)+1)) (.int .i64 0) ((((wb.setCell ⟨sb,1,none⟩ (.slice ya AP.tabs.length yc)).setCell ⟨sb,2,none⟩ (.int .u64 AP.seq)).setCell ⟨sb,3,none⟩ (.int .i64 AP.next)).setCell ⟨sb,4,none⟩ (.int .i64 AP.wal))):=by
    have h2:=Go.Gl.aK Sh 1 (.slice ya AP.tabs.length yc);have h3:=Go.Gl.aK h2 2 (.int .u64 AP.seq);have h4:=Go.Gl.aK h3 3 (.int .i64 AP.next);have h5:=Go.Gl.aK h4 4 (.int .i64 AP.wal);have hgx:GX sb wb ((((wb.setCell ⟨sb,1,none⟩ (.slice ya AP.tabs.length yc)).setCell ⟨sb,2,none⟩ (.int .u64 AP.seq)).setCell ⟨sb,3,none⟩ (.int .i64 AP.next)).setCell ⟨sb,4,none⟩ (.int .i64 AP.wal)):=
     (((Go.Gl.je _ _ _ _:GX sb _ _).trans (Go.Gl.je _ _ _ _)).trans (Go.Gl.je _ _ _ _)).trans (Go.Gl.je _ _ _ _)
    refine ae ⟨i+1,rfl,hlt,rfl,(HI.out.gx.trans (GX.of alx.out)).trans hgx,.slice ya AP.tabs.length yc,AP,h5,aDz aly.out Sh hgx,?_,Hu1.out⟩;rw [List.take_add_one,He.out];have:=HU.out.1;have hz:=Hu0.out;have hp:=gh.out;exact Kf this hz hp
   clear Sh Zn alx aly Lj HI Zg fX HU He Hu0 Hu1 gh;go_wp2;go_roundw
   case rel=>exact aX.out
   case measure=>simp [intOf];omega
  ·obtain rfl:i=es.length:=by omega
   have hUV:U=V:=by
    rw [List.drop_length] at Mz;simpa [gu] using Mz
   subst hUV;have hx:w6.heap[sb]?=some (.cells (setCells p (.slice none 0 0) dh n) 154 (0,0)):=ID.out;have bw:=ae (ag (Dl.gx Sc.out hx hI.gx) (ag (Sd.out.trans (Rl.gx (r:=r) hx hB hI.gx)) (ag Sg hown)));clear hI Sg hown Zf Mz hx Hrv ID Sc Sd HV;have bO:¬ ((es.length:Int)<(es.length:Int)):=by omega
   go_wp2;go_ret;exact ⟨rfl,⟨_,bw.out.2.2.1,bw.out.2.2.2⟩,⟨_,bw.out.1⟩,bw.out.2.1⟩
end Go.Proofs.YtoolkdapflaeeaaGreatDoor
namespace Go.Proofs.YtoolkdapflaeeaaGreatDoor
open Go.RowKit Go.Gl Go.aF Go.Sort Mn
theorem Si {n:ByteArray}:∀ {V:Vw},cZ n V≠none↔n∈V.map (·.1)
 | []=>by simp [cZ]
 |e::V=>by
  rw [fJ,cg,bE,←Si (V:=V)];by_cases h:n=e.1<;>simp [h]
theorem aDI {α:Type} {m:α}:∀ {l:List α},l.Nodup→m∈l→(∀ x∈l,x=m)→l= [m]
 | [],_,h,_=>by cases h
 |a::t,hn,_,h=>by
  have ha:a=m:=h a (by simp);subst ha;cases t with
  |nil=>rfl
  |cons b t=>
   have hb:b=a:=h b (by simp);subst hb;exact absurd (by simp) (List.nodup_cons.1 hn).1
theorem filter_one {V:Vw} (hN:nj V) {P:ByteArray→Bool} (h1:cZ m V≠none) (h2:P m=true) (h3:∀ k,P k=true→cZ k V≠none→k=m):(V.map (·.1)).filter P= [m]:=
 aDI (List.Pairwise.filter _ hN) (List.mem_filter.2 ⟨Si.1 h1,h2⟩) (fun x hx=>by
  obtain ⟨h4,h5⟩:=List.mem_filter.1 hx;exact h3 x h5 (Si.2 h4))
abbrev Ce:ByteArray:=⟨#[109,97,110,105,102,101,115,116,45]⟩
def Sj (f:Lk) (n:Nat):Prop:=f (cX n)≠none∧∀ k:ByteArray,Lib.hasPrefix k.data.toList rG=true→f k≠none→k=cX n
theorem Sl (n:Nat):Lib.hasPrefix (cX n).data.toList rG=true:=by
 show Lib.hasPrefix (rG++fF n) rG=true;unfold Lib.hasPrefix;simp
theorem aDJ {f:Lk} (h:Dl Z B w p r f T K F) (hK:K<1000000000) (ho:Sj f n) (hq:w.heap[qb]?=some (.cells #[.string Ce] 9 (0,0))):
  Calls Tryz.prog 33 #[.pointer (some ⟨p,0,none⟩),.slice (some ⟨qb,0,none⟩) 1 1] w fun e w'=>∃ g cap,e= .returned (.slice (some ⟨g,0,none⟩) 1 cap)∧w'.cell? ⟨g,0,none⟩=some (.string (cX n))∧g<w'.heap.size∧Grow w w':=by
 obtain ⟨V,hd,rfl,_,hV⟩:=h;have hN:=hd.names;obtain ⟨hZ,h0,born,fs,h1,rfl,rfl⟩:=hd;have hl:=acW h1 (by simp [vw] at hV;omega) Ce hq;have he:pick (fun s=>Lib.hasPrefix s.data.toList Ce.data.toList) (fs.map Fe.ay)=(((vw fs).map (·.1)).filter fun s=>Lib.hasPrefix s.data.toList Ce.data.toList).map fun s=>s.data.toList:=by
  unfold pick;rw [UB,List.filter_map,List.filter_map,eX,eX];rfl
 rw [he,filter_one hN (m:=cX n) ho.1 (Sl n) (fun k hk hs=>ho.2 k hk hs)] at hl;refine hl.mono ?_;rintro e w' ⟨v,rfl,hrow,hg⟩;rcases hrow.2 with ⟨rfl,iy⟩|⟨g,cap,cur,rfl,iM,Af,oG,hcm,hcs,eG⟩
 ·cases iy
 ·refine ⟨g,cap,rfl,?_,af Af,hg⟩
  have h2:(cur.toList.take 1)[0]?=some (.string (cX n)):=by
   have:cur.toList.take (1*1)= [Value.string (cX n)]:=by
    have e1:([cX n].map (fun s:ByteArray=>s.data.toList)).mergeSort (fun x y=>decide (x≤y))= [(cX n).data.toList]:=List.mergeSort_singleton _;rw [e1] at eG;exact eG
   rw [this];rfl
  rw [List.getElem?_take] at h2;have h3:cur[0]?=some (.string (cX n)):=by simpa using h2
  simp [World.cell?,Af,h3]
theorem aDK (n:Nat) (w:World):Calls Tryz.prog 91 #[.string (cX n),.string Ce] w fun e w'=>e= .returned (.string ⟨(fF n).toArray⟩)∧w'=w:=by
 refine (adm (cX n) Ce w).mono ?_;rintro e w' ⟨he,hw⟩;refine ⟨?_,hw⟩;have h5:Lib.trimPrefix (cX n).data.toList Ce.data.toList=fF n:=by
  show Lib.trimPrefix (rG++fF n) rG=fF n;unfold Lib.trimPrefix Lib.hasPrefix;simp
 rw [h5] at he;exact he
def aDL (Z B:Nat) (w1:World) (p r:Nat) (sb:Nat) (Q:bI→Nat→Lk→Nat→Nat→Prop) (e:Ending) (w':World):Prop:=
 e= .returned .nilIface∧∃ tv V n f' T' K' F',eh w' sb p tv V (n:Nat)∧Mn.Own 0 w' tv V.tabs∧Dl Z B w' p r f' T' K' F'∧Rl B r w1 w'∧Sj f' n∧Q V n f' T' K'
theorem alz {N:Nat} {f:Lk} (h:Dl Z B w p r f T K F) (hN:dn N B w) {Q:bI→Nat→Lk→Nat→Nat→Prop} (hQ:∀ V n f' T' K',Q V n f' T' K'→n<N∧n<1000000∧K'<1000000000)
  (alA:∀ w1 sb,Grow w w1→w.heap.size≤sb→eh w1 sb p (.slice none 0 0) dh 0→Calls Tryz.prog 89 #[.pointer (some ⟨sb,0,none⟩)] w1 (aDL Z B w1 p r sb Q)):
  Calls Tryz.prog 48 #[.pointer (some ⟨p,0,none⟩)] w fun e w'=>∃ sb,e= .returned (.tuple #[.pointer (some ⟨sb,0,none⟩),.nilIface])∧B≤sb∧∃ tv V n f' T' K' F',eh w' sb p tv V (n:Nat)∧Mn.Own 0 w' tv V.tabs∧Dl Z B w' p r f' T' K' F'∧Rl B r w w'∧Q V n f' T' K':=by
 have ah:=ar w (.cells (setCells p (.slice none 0 0) dh 0) 154);have hS1:eh (w.alloc (.cells (setCells p (.slice none 0 0) dh 0) 154)) w.heap.size p (.slice none 0 0) dh 0:=ax w _;have Hop:=ae (alA _ w.heap.size ah (aw _) hS1);have Zo:=h.base;have cQ:=ae ah;have HN:=ae hN;have HQ:=ae hQ;clear ah hS1 alA h hN hQ;go_enter Tryz.func48,Tryz.ntmps48
 go_upto_region 2 with fail
 have alB:w.alloc (.cells (setCells p (.slice none 0 0) dh 0) 154)=w.alloc (.cells #[.pointer (some ⟨p,0,none⟩),.slice none 0 0,.int .u64 0,.int .i64 0,.int .i64 0,.int .i64 0] 154):=rfl;rw [alB] at Hop cQ;clear alB;generalize w.alloc (.cells #[.pointer (some ⟨p,0,none⟩),.slice none 0 0,.int .u64 0,.int .i64 0,.int .i64 0,.int .i64 0] 154)=w1 at*;have alC:B≤w.heap.size:=Zo;obtain ⟨sb,Zp⟩:∃ x,x=w.heap.size:=⟨_,rfl⟩
 rw [←Zp] at alC;have Zq:=ae (Rl.grow (r:=r) cQ.out Zo);rw [←Zp] at Hop ⊢;clear Zp Zo
 go_wp2_with fail
 (with_reducible refine Hop.out.mono ?_);rintro e w2 ⟨rfl,tv,V,n,f',T',K',F',oO,hown2,cP,hr2,oK,hq⟩;have jA:=ae oO;have Jv:=ae hown2;have td:=ae cP;have qR:=ae (Zq.out.trans hr2);have aDM:=ae oK;have Hq:=ae hq;obtain ⟨hn,h6,hK⟩:=HQ.out _ _ _ _ _ hq;have yP:=ae (HN.out.keep (w':=w2) (fun b hb=>(Zq.out.trans hr2).below.block b hb));clear oO hown2 cP hr2 oK hq Hop cQ Zq HN HQ;obtain ⟨c0,_,_,_,_,_,ls⟩:=jA.out.cells;have hg3:=ar w2 (.cells #[.string Ce] 9);have Hl:=ae (aDJ (td.out.grow hg3) hK aDM.out (ax _ _));have iQ:=ae hg3;clear hg3
 go_wp2_with fail
 (with_reducible refine Hl.out.mono ?_);rintro e w3 ⟨g,cap,rfl,hc,eT,hg4⟩;have im:=iQ.out.trans hg4;have MF:=ae (jA.out.grow im);have KB:=ae (eM Jv.out im);have Cf:=ae (td.out.grow im);have Dd:=ae (qR.out.trans (Rl.grow (r:=r) im td.out.base));have HN3:=ae (yP.out.grow im td.out.base);clear iQ c0 ls hg4 im jA Jv td qR yP Hl;have Ht:=ae (aDK n w3);have Ha:=ae (adl h6 w3)
 go_wp2_with fail
 refine wp_loop_rounds 2 ?_;rw [rounds_succ]
 go_wp2_with fail
 (with_reducible refine Ht.out.mono ?_);rintro e w4 ⟨rfl,hw4⟩;have aDN:=hw4.symm;subst aDN;clear hw4
 go_wp2_with fail
 (with_reducible refine Ha.out.mono ?_);rintro e w5 ⟨rfl,br⟩;have rY:=ae (MF.out.grow br);have Pv:=ae (eM KB.out br);have pU:=ae (Cf.out.grow br);have uY:=ae (Dd.out.trans (Rl.grow (r:=r) br Cf.out.base));have Hm:=ae (JX (HN3.out.grow br Cf.out.base) hn h6);have RN:(n:Int)≤999999999:=by omega
 clear br MF KB Cf Dd HN3 Ht Ha hc eT
 go_wp2_with fail
 (with_reducible refine Hm.out.mono ?_);rintro e w6 ⟨rfl,cx⟩;obtain ⟨_,_,_,_,_,c5,ls⟩:=(rY.out.grow cx).cells;have ID:=ae (rY.out.grow cx);have Px:=ae (eM Pv.out cx);have Sc:=ae (pU.out.grow cx);have Sd:=ae (uY.out.trans (Rl.grow (r:=r) cx pU.out.base));clear cx rY Pv pU uY Hm
 go_wp2_with fail
 rw [rounds_succ];go_wp2;go_ret2;exact ⟨sb,rfl,alC,tv,V,n,f',T',K',F',ID.out,Px.out,Sc.out,Sd.out,Hq.out⟩
theorem Sm:∀ {V:Vw},nj V→∀ e∈V,cZ e.1 V=some e.2
 |e0::V,hN,e,he=>by
  rw [fJ];rcases bE.1 he with rfl|h
  ·rw [if_pos rfl]
  ·rw [if_neg (hN.head e h)]
   exact Sm hN.tail e h
theorem aDO {V:Vw} (hN:nj V) {n:ByteArray} {b:List UInt8} (hl:cZ n V=some (b,s)) (hs:s=b.length):oC n b.length V=V:=by
 unfold oC;refine (iJ (g:=id) fun e he=> ?_).trans (List.map_id V);by_cases h1:e.1=n
 ·rw [if_pos h1]
  have h2:=Sm hN e he;rw [h1,hl] at h2;obtain ⟨e1,e2,e3⟩:=e;cases h2;subst hs;simp only [id,ij]
 ·rw [if_neg h1];rfl
theorem Zr {picks:List Int} {V:Vw} (hN:nj V) (hs:∀ e∈V,e.2.2=e.2.1.length):∀ (ns:List (List UInt8)) (i:Nat),Ae picks i ns V=V
 | [],_=>rfl
 |n::ns,i=>by
  unfold Ae;cases hl:cZ ⟨n.toArray⟩ V with
  |none=>exact Zr hN hs ns (i+1)
  |some q=>
   obtain ⟨b,s⟩:=q;have vA:s=b.length:=by
    obtain ⟨e,he,h2⟩:=aZ.1 (Si.1 (show cZ ⟨n.toArray⟩ V≠none by rw [hl];simp));have h3:=Sm hN e he;rw [h2,hl] at h3;have h4:=hs e he;rw [←bk h3] at h4;exact h4
   have hk:wj picks i b.length s=b.length:=by
    have:=acX picks i (Nat.le_of_eq vA);omega
   show Ae picks (i+1) ns (oC _ (wj picks i b.length s) V)=V;rw [hk,aDO hN hl vA];exact Zr hN hs ns (i+1)
theorem aDP {f:Lk} (h:Dl Z B w p r f T K F) (hK:K<1000000000) (hs:∀ n q,f n=some q→q.2=q.1.length) {picks:List Int} (hp:Iv w pv picks) (pJ:picks≠ []→Up F pv):
  Calls Tryz.prog 38 #[.pointer (some ⟨p,0,none⟩),pv] w fun e w'=>e= .returned (.tuple #[])∧oH Z B w p r F w' f T K:=by
 obtain ⟨V,hd,rfl,rfl,hV⟩:=h;have hN:=hd.names;have hsV:∀ e∈V,e.2.2=e.2.1.length:=fun e he=>hs e.1 e.2 (Sm hN e he)
 obtain ⟨hZ,h0,born,fs,h1,rfl,rfl⟩:=hd;refine (atq h1 (by omega) (by simp [vw] at hV;omega) hp pJ).mono ?_;rintro e w' ⟨he,bH,ow,nS,hv⟩;rw [Zr hN hsV] at hv;exact ⟨he,_,⟨_,⟨hZ,by rw [hv];exact h0,born,bH,ow,rfl,rfl⟩,by rw [hv],by rw [hv],by rw [hv];exact hV⟩,nS⟩
theorem alE (Z:Nat) (w:World) (h1:1≤Z) (h2:Z≤1073741824):
  Calls Tryz.prog 20 #[.int .i64 (Z:Int)] w fun e w'=>e= .returned (.tuple #[.pointer (some ⟨w.heap.size+1,0,none⟩),.int .i64 0])∧(∃ F,Dl Z w.heap.size w' (w.heap.size+1) w.heap.size (fun _=>none) 0 0 F)∧Grow w w':=by
 refine (asj (Z:Int) w (by omega) (by omega)).mono ?_;rintro e w' ⟨rfl,hd,hg⟩;exact ⟨rfl,⟨_,[],⟨by omega,aY _,0,[],hd,rfl,rfl⟩,rfl,rfl,aw _⟩,hg⟩
end Go.Proofs.YtoolkdapflaeeaaGreatDoor
namespace Go.Proofs.YtoolkdapflaeeaaGreatDoor
open Go.RowKit Go.Gl Go.aF Mn
abbrev lY (es:List cH):List UInt8:=bZ aq (es.map dA)
theorem aDR (es:List cH) (e:cH):lY (es++ [e])=lY es++bB aq (dA e):=by simp [lY,bZ]
abbrev gX (size:Nat) (l:List En):List UInt8:=gS (eN size [] l) l.length (dV l)
abbrev kx (b:Nat×List Wr):List UInt8:=kM b.1 b.2
abbrev jb (LL:List (List (Nat×List Wr))):List (List (List UInt8)):=LL.map (List.map kx)
def aN (LL:List (List (Nat×List Wr))):List En:=LL.flatten.foldl (fun l b=>gA b.1 b.2 l) []
structure qz (l:List En):Prop where
 ord:cn l
 gone:yZ l
 ok:∀ x∈l,BN x
structure MG (b:Nat×List Wr):Prop where
 seq:b.1<18446744073709551616
 len:b.2.length≤100000
 bytes:bA b.2≤50000000
 keys:∀ y∈b.2,y.key.size≤65535∧y.val.length≤33554432
theorem qz.put {l:List En} (h:qz l) {x:En} (hx:BN x) (hg:x.gone=true→x.val= []):qz (kn x l):=by
 refine ⟨Wp h.ord,fun e he=> ?_,fun e he=> ?_⟩
 ·rcases (Wo h.ord).1 he with rfl|⟨h1,_⟩
  ·exact hg
  ·exact h.gone e h1
 ·rcases (Wo h.ord).1 he with rfl|⟨h1,_⟩
  ·exact hx
  ·exact h.ok e h1
theorem aDS {y:Wr} (hs:s<18446744073709551616) (hk:y.key.size≤65535∧y.val.length≤33554432):BN (jD s y)∧((jD s y).gone=true→(jD s y).val= []):=by
 refine ⟨⟨hk.1,hs,?_⟩,fun h=> ?_⟩
 ·unfold jD;dsimp only;split
  ·exact aY _
  ·exact hk.2
 ·unfold jD at h ⊢;dsimp only at h ⊢;rw [if_pos h]
theorem qz.lay {s:Nat} (hs:s<18446744073709551616):∀ {ws:List Wr} {l:List En},(∀ y∈ws,y.key.size≤65535∧y.val.length≤33554432)→qz l→qz (gA s ws l)
 | [],_,_,h=>h
 |y::ws,l,hk,h=>by
  obtain ⟨h1,h2⟩:=aDS hs (hk y (dR ..));rw [ahk];exact qz.lay hs (fun z hz=>hk z (fk _ hz)) (h.put h1 h2)
theorem aDT:qz []:=⟨List.Pairwise.nil,fun _ h=>(by cases h),fun _ h=>(by cases h)⟩
theorem alF:∀ {bs:List (Nat×List Wr)} {l:List En},(∀ b∈bs,MG b)→qz l→qz (bs.foldl (fun l b=>gA b.1 b.2 l) l)
 | [],_,_,h=>h
 |b::bs,l,hb,h=>by
  have h1:=hb b (dR ..);rw [List.foldl_cons];exact alF (fun x hx=>hb x (fk _ hx)) (h.lay h1.seq h1.keys)
theorem aDU {LL:List (List (Nat×List Wr))} (h:∀ b∈LL.flatten,MG b):qz (aN LL):=alF h aDT
theorem MH (LL:List (List (Nat×List Wr))) (bs:List (Nat×List Wr)) (b:Nat×List Wr):aN (LL++ [bs++ [b]])=gA b.1 b.2 (aN (LL++ [bs])):=by
 simp [aN]
theorem MI (LL:List (List (Nat×List Wr))):aN (LL++ [[]])=aN LL:=by simp [aN]
structure eP where
 V:bI
 LL:List (List (Nat×List Wr))
 ay:Int→List En
 es:List cH
structure xG (size:Nat) (f:Lk) (s:eP):Prop where
 cur:f tr=some (kH 0,(kH 0).length)
 IG:f (cX 0)=some (lY s.es,(lY s.es).length)
 tmp:f qG=none
 one:Sj f 0
 all:gu dh s.es=(0,s.V)
 good:Good s.V
 IH:∀ e∈s.es,Au e∧e.drop.length≤10000∧(dA e).length≤67108864
 tabs:∀ x∈s.V.tabs,f (eH x.file.toNat)=some (gX size (s.ay x.file),(gX size (s.ay x.file)).length)
 only:∀ k:ByteArray,Lib.hasPrefix k.data.toList Hu=true→f k≠none→∃ x∈s.V.tabs,k=eH x.file.toNat
 ay:∀ x∈s.V.tabs,s.ay x.file≠ []∧qz (s.ay x.file)
 files:∀ x∈s.V.tabs,x.file<s.V.next
theorem II {p q:List UInt8} {a b:UInt8} (h:Lib.hasPrefix l (a::p)=true) (hab:a≠b):Lib.hasPrefix l (b::q)=false:=by
 cases l with
 |nil=>rfl
 |cons c l=>
  simp only [Lib.hasPrefix,List.isPrefixOf,Bool.and_eq_true,beq_iff_eq,Bool.and_eq_false_iff,beq_eq_false_iff_ne] at h ⊢;exact .inl (fun e=>hab (h.1.trans e.symm))
theorem alG:uj=119:: [97,108,45]:=by decide
theorem alH (h:Lib.hasPrefix l Hu=true):Lib.hasPrefix l uj=false:=by rw [alG];exact II h (by decide)
theorem alI (h:Lib.hasPrefix l rG=true):Lib.hasPrefix l uj=false:=by rw [alG];exact II (p:= [97,110,105,102,101,115,116,45]) h (by decide)
theorem Zs:Lib.hasPrefix (tr).data.toList uj=false:=by decide
theorem alJ:Lib.hasPrefix (qG).data.toList uj=false:=by decide
theorem MJ (n:Nat):Lib.hasPrefix (eH n).data.toList Hu=true:=by unfold eH Hu Lib.hasPrefix;simp [List.isPrefixOf]
theorem Zt (m n:Nat):eH m≠cX n:=fun e=>by
 have h1:=MJ m;rw [e] at h1;have h2:=II (b:=109) (q:= [97,110,105,102,101,115,116,45]) (a:=116) (p:= [45]) h1 (by decide);have h3:=Sl n;exact absurd (h2.symm.trans h3) (by decide)
theorem alK {m:Nat} (h:eH m=eH n):m=n:=by
 have h2:=congrArg (fun x=>x.data.toList) h;simp only [eH,List.toList_toArray] at h2;have h3:=List.append_cancel_left h2;have:cX m=cX n:=by unfold cX;rw [h3]
 exact atC this
theorem xG.Zu {size:Nat} {f f':Lk} {s:eP} (h:xG size f s) (hf:∀ n:ByteArray,Lib.hasPrefix n.data.toList uj=false→f' n=f n):xG size f' s:=by
 refine ⟨(hf _ Zs).trans h.cur,(hf _ (BX 0)).trans h.IG,(hf _ alJ).trans h.tmp,⟨by rw [hf _ (BX 0)];exact h.one.1,fun k hk hn=>h.one.2 k hk (by rw [←hf k (alI hk)];exact hn)⟩,h.all,h.good,h.IH,fun x hx=>(hf _ (vD _)).trans (h.tabs x hx),fun k hk hn=>h.only k hk (by rw [←hf k (alH hk)];exact hn),h.ay,h.files⟩
def bX (s:eP) (seq:Nat) (D:Nat) (k0 k1:ByteArray) (wal:Nat):cH:=⟨[⟨s.V.next,0,k0,k1,(D:Int)⟩],[],(seq:Int),s.V.next+1,(wal:Int)⟩
def ky (s:eP) (E:cH):eP:=⟨(bz s.V E).2,[[]],fun k=>if k=s.V.next then aN s.LL else s.ay k,s.es++ [E]⟩
theorem aDV (l:List Tb):l.filter (iD [])=l:=List.filter_eq_self.2 (fun _ _=>rfl)
theorem MK {s:eP} {D:Nat} (h0:(bz s.V (bX s seq D k0 k1 wal)).1=0):(bz s.V (bX s seq D k0 k1 wal)).2.tabs.Perm (s.V.tabs++ [⟨s.V.next,0,k0,k1,(D:Int)⟩]):=by
 have h:=CX h0;rw [h.tabs];have h2:=Ak (s.V.tabs.filter (iD (bX s seq D k0 k1 wal).drop)++(bX s seq D k0 k1 wal).add);refine h2.trans ?_;rw [show (bX s seq D k0 k1 wal).drop= [] from rfl,aDV];exact List.Perm.refl _
theorem alL {s:eP} {seq D wal:Nat} {k0 k1:ByteArray}:(dA (bX s seq D k0 k1 wal)).length≤100+k0.size+k1.size:=by
 have h:=aeg (bX s seq D k0 k1 wal);have e1:(bX s seq D k0 k1 wal).add.length=1:=rfl;have e2:(bX s seq D k0 k1 wal).drop.length=0:=rfl;have e3:jz (bX s seq D k0 k1 wal).add=k0.size+k1.size:=by simp [jz,bX]
 omega
theorem alM {s:eP} {D:Nat} (hg:Good s.V) (hs:seq<18446744073709551616) (h0:k0.size≤65535) (h1:k1.size≤65535) (ha:(bz s.V (bX s seq D k0 k1 wal)).1=0):Au (bX s seq D k0 k1 wal):=by
 have e3:jz (bX s seq D k0 k1 wal).add=k0.size+k1.size:=by simp [jz,bX]
 refine avw hg (CX ha) ⟨?_,?_⟩ (by simp [bX]) (by simp [bX]) (by omega)
 ·show (0:Int)≤(seq:Int);omega
 ·show (seq:Int)<18446744073709551616;omega
theorem alN {s:eP} (h:0≤s.V.next):df (s.V.next+1) s.V.next=s.V.next+1:=by
 unfold df;rw [if_neg (by omega)]
theorem xG.flush {size:Nat} {f f':Lk} {s:eP} (h:xG size f s) {n D:Nat} (hn:s.V.next=(n:Int)) (hs:seq<18446744073709551616) (_hD:D=(gX size (aN s.LL)).length) (h0:k0.size≤65535) (h1:k1.size≤65535) (ha:(bz s.V (bX s seq D k0 k1 wal)).1=0)
  (hne:aN s.LL≠ []) (hm:qz (aN s.LL)) (hf:∀ k:ByteArray,Lib.hasPrefix k.data.toList uj=false→f' k=((f.set (eH n) (gX size (aN s.LL),(gX size (aN s.LL)).length)).set (cX 0) (lY (s.es++ [bX s seq D k0 k1 wal]),(lY (s.es++ [bX s seq D k0 k1 wal])).length)) k):
  xG size f' (ky s (bX s seq D k0 k1 wal)):=by
 have hp:=MK ha;have cK:∀ x,x∈(ky s (bX s seq D k0 k1 wal)).V.tabs↔x∈s.V.tabs∨x=⟨s.V.next,0,k0,k1,(D:Int)⟩:=fun x=>by
  show x∈(bz s.V (bX s seq D k0 k1 wal)).2.tabs↔_;rw [hp.mem_iff,cU,cY]
 have uI:(ky s (bX s seq D k0 k1 wal)).V.next=s.V.next+1:=by
  show (bz s.V (bX s seq D k0 k1 wal)).2.next=_;rw [(CX ha).next];exact alN (by omega)
 have eo:∀ x∈s.V.tabs,(ky s (bX s seq D k0 k1 wal)).ay x.file=s.ay x.file:=fun x hx=>if_neg (by have:=h.files x hx;omega)
 have en:(ky s (bX s seq D k0 k1 wal)).ay s.V.next=aN s.LL:=if_pos rfl;have sT:∀ x∈s.V.tabs,eH x.file.toNat≠eH n:=fun x hx e=>by
  have h2:=alK e;have h3:=h.files x hx;have h4:=(h.good.tabs x hx).file.1;omega
 refine ⟨?_,?_,?_,?_,?_,?_,?_,fun x hx=> ?_,fun k hk ko=> ?_,fun x hx=> ?_,fun x hx=> ?_⟩
 ·rw [hf _ Zs,ik _ (Ne.symm (Uw 0)),ik _ (fun e=>by have:=MJ n;rw [←e] at this;revert this;decide)];exact h.cur
 ·rw [hf _ (BX 0),rI];rfl
 ·rw [hf _ alJ,ik _ (Ne.symm (Ox 0)),ik _ (fun e=>by have:=MJ n;rw [←e] at this;revert this;decide)];exact h.tmp
 ·refine ⟨by rw [hf _ (BX 0),rI];simp,fun k hk ko=> ?_⟩
  rw [hf k (alI hk)] at ko;by_cases e:k=cX 0
  ·exact e
  ·rw [ik _ e] at ko
   by_cases e2:k=eH n
   ·exfalso
    have h5:=II (b:=109) (q:= [97,110,105,102,101,115,116,45]) (a:=116) (p:= [45]) (MJ n) (by decide);rw [←e2] at h5;exact absurd (h5.symm.trans hk) (by decide)
   ·rw [ik _ e2] at ko
    exact h.one.2 k hk ko
 ·have:=Kf h.all ha (W:=(bz s.V (bX s seq D k0 k1 wal)).2) rfl
  simpa [ky] using this
 ·exact aen h.good ha ⟨by show (0:Int)≤(seq:Int);omega,by show (seq:Int)<18446744073709551616;omega⟩
 ·intro e he
  rcases cU.1 he with he|he
  ·exact h.IH e he
  ·rw [cY.1 he]
   exact ⟨alM h.good hs h0 h1 ha,by simp [bX],by have:= @alL s seq D wal k0 k1;omega⟩
 ·rw [hf _ (vD _),ik _ (Zt _ _)]
  rcases (cK x).1 hx with h2|rfl
  ·rw [ik _ (sT x h2),eo x h2];exact h.tabs x h2
  ·dsimp only
   rw [en,hn,Int.toNat_natCast,rI]
 ·rw [hf k (alH hk)] at ko
  by_cases e:k=cX 0
  ·exfalso
   rw [e] at hk;have h5:=II (b:=116) (q:= [45]) (a:=109) (p:= [97,110,105,102,101,115,116,45]) (Sl 0) (by decide);exact absurd (h5.symm.trans hk) (by decide)
  ·rw [ik _ e] at ko
   by_cases e2:k=eH n
   ·exact ⟨_,(cK _).2 (.inr rfl),by dsimp only;rw [hn,Int.toNat_natCast];exact e2⟩
   ·rw [ik _ e2] at ko
    obtain ⟨x,h6,h7⟩:=h.only k hk ko;exact ⟨x,(cK x).2 (.inl h6),h7⟩
 ·rcases (cK x).1 hx with h2|rfl
  ·rw [eo x h2];exact h.ay x h2
  ·dsimp only;rw [en];exact ⟨hne,hm⟩
 ·rw [uI]
  rcases (cK x).1 hx with h2|rfl
  ·have:=h.files x h2;omega
  ·dsimp only;omega
theorem alO:∀ (bs:List (Nat×List Wr)) (l:List En),costs (bs.foldl (fun l b=>gA b.1 b.2 l) l)≤costs l+16*(bs.map fun b=>b.2.length).sum+(bs.map fun b=>bA b.2).sum∧(bs.foldl (fun l b=>gA b.1 b.2 l) l).length≤l.length+(bs.map fun b=>b.2.length).sum
 | [],l=>⟨aw _,aw _⟩
 |b::bs,l=>by
  obtain ⟨h1,h2⟩:=alO bs (gA b.1 b.2 l);obtain ⟨h3,h4⟩:=Rh b.1 l b.2;rw [List.foldl_cons];simp only [cg,List.sum_cons];omega
theorem Zv (l:List Nat) (i:Nat):(l.take i).sum≤l.sum:=by
 conv=>rhs;rw [←List.take_append_drop i l,List.sum_append]
 omega
structure vI (A C i:Nat) (s:eP):Prop where
 pB:(aN s.LL).length+(s.V.tabs.map fun x=>(s.ay x.file).length).sum≤A
 cost:costs (aN s.LL)+(s.V.tabs.map fun x=>costs (s.ay x.file)).sum≤C
 xH:0≤s.V.wal
 wal:s.V.wal+(s.LL.length:Int)≤(i:Int)
 ER:0≤s.V.next
 next:s.V.next≤(i:Int)
 el:s.es.length≤i
 adds:(s.es.map fun e=>e.add.length).sum≤i
 ES:∀ b∈s.LL.flatten,MG b
 IJ:s.LL.flatten.length≤i
 ML:(s.LL.flatten.map fun b=>b.2.length).sum≤A
 MM:(s.LL.flatten.map fun b=>bA b.2).sum≤C
theorem vI.more {s:eP} (h:vI A C i s) (hA:A≤A') (hC:C≤C') (hi:i≤i'):vI A' C' i' s:=
 ⟨aM h.pB hA,aM h.cost hC,h.xH,by have:=h.wal;omega,h.ER,by have:=h.next;omega,aM h.el hi,aM h.adds hi,h.ES,aM h.IJ hi,aM h.ML hA,aM h.MM hC⟩
theorem vI.flush {i size:Nat} {f:Lk} {s:eP} (h:vI A C i s) (hr:xG size f s) {D wal:Nat} (ha:(bz s.V (bX s seq D k0 k1 wal)).1=0) (Zw:(wal:Int)+1≤(i+1:Nat)):vI A C (i+1) (ky s (bX s seq D k0 k1 wal)):=by
 have hp:=MK ha;have hV:(ky s (bX s seq D k0 k1 wal)).V=(bz s.V (bX s seq D k0 k1 wal)).2:=rfl;have hg:=aen hr.good ha;have m0:aN (ky s (bX s seq D k0 k1 wal)).LL= []:=rfl;have alP:∀ (g:List En→Nat),((ky s (bX s seq D k0 k1 wal)).V.tabs.map fun x=>g ((ky s (bX s seq D k0 k1 wal)).ay x.file)).sum=(s.V.tabs.map fun x=>g (s.ay x.file)).sum+g (aN s.LL):=fun g=>by
  rw [hV,(hp.map _).sum_nat,dD,List.sum_append];congr 1
  ·congr 1
   refine iJ fun x hx=> ?_
   show g (if x.file=s.V.next then aN s.LL else s.ay x.file)=_;rw [if_neg (by have:=hr.files x hx;omega)]
  ·simp [ky]
 have vz:(bz s.V (bX s seq D k0 k1 wal)).2.wal=df (wal:Int) s.V.wal:=(CX ha).wal;have ie:(bz s.V (bX s seq D k0 k1 wal)).2.next=s.V.next+1:=by rw [(CX ha).next];exact alN h.ER
 have hw0:=h.xH;have hw:=h.wal;have wB:df (wal:Int) s.V.wal=wal∨df (wal:Int) s.V.wal=s.V.wal:=by unfold df;split<;>simp
 refine ⟨?_,?_,?_,?_,?_,?_,?_,?_,fun b hb=> ?_,aY _,aY _,aY _⟩
 ·have:=h.pB;rw [m0,alP List.length];simp only [iK];omega
 ·have:=h.cost;rw [m0,alP costs];simp only [costs,List.map_nil,List.sum_nil] at*;omega
 ·rw [hV,vz];rcases wB with e|e<;>rw [e]<;>omega
 ·rw [hV,vz]
  have e1:(ky s (bX s seq D k0 k1 wal)).LL.length=1:=rfl;rw [e1];unfold df;split
  ·rename_i hz;omega
  ·omega
 ·rw [hV,ie];have:=h.ER;omega
 ·rw [hV,ie];have:=h.next;omega
 ·have:=h.el;simp [ky];omega
 ·have:=h.adds;simp [ky,bX];omega
 ·simp [ky] at hb
section
def eu (s:eP):List En:=aN s.LL++(s.V.tabs.map fun x=>s.ay x.file).flatten
def pE (s:eP):Nat:=(s.LL.flatten.map (·.1)).foldl max s.V.seq.toNat
structure eJ (Z B Nn A C i:Nat) (w:World) (t:Tr) (f:Lk) (T K:Nat) (s:eP):Prop where
 tree:dm Z B Nn w t f T K
 V:t.V=s.V
 gM:xG t.o.block.toNat f s
 log:gK f s.V.wal.toNat (gF (jb s.LL))
 sync:∀ n q,f n=some q→q.2=q.1.length
 lim:vI A C i s
 mem:t.ns.map (fun n=>n.x.e)=aN s.LL
 m:(t.m:Int)+1=s.V.wal+(s.LL.length:Int)
 ne:s.LL≠ []
 ld:∀ x∈s.V.tabs,∃ b,t.ld x.file=some (b,s.ay x.file)
 opt:qy t.o
 seq:t.seq=pE s
 vJ:t.seq≤i
 xI:tN (eu s)
 top:∀ e∈eu s,e.seq≤t.seq
 K:K≤10*i
variable {Z B Nn A C i:Nat} {w w':World} {t:Tr} {f:Lk} {T K:Nat} {s:eP}
theorem eJ.grow (h:eJ Z B Nn A C i w t f T K s) (hg:Grow w w'):eJ Z B Nn A C i w' t f T K s:={h with tree:=h.tree.grow hg}
theorem eJ.Cg (h:eJ Z B Nn A C i w t f T K s):qz (aN s.LL):=aDU h.lim.ES
theorem foldl_max:∀ (l:List Nat) (a:Nat),a≤l.foldl max a∧∀ x∈l,x≤l.foldl max a
 | [],a=>⟨aw _,fun _ h=>by cases h⟩
 |y::l,a=>by
  obtain ⟨h1,h2⟩:=foldl_max l (max a y);rw [List.foldl_cons];refine ⟨by omega,fun x hx=> ?_⟩;rcases bE.1 hx with rfl|hx
  ·omega
  ·exact h2 x hx
theorem eJ.aDW (h:eJ Z B Nn A C i w t f T K s):0≤s.V.seq∧s.V.seq≤(t.seq:Int):=by
 have h1:=(foldl_max (s.LL.flatten.map (·.1)) s.V.seq.toNat).1;have h2:=h.seq;unfold pE at h2;have h3:=h.gM.good.seq.1;omega
theorem eJ.last (h:eJ Z B Nn A C i w t f T K s):∃ fU bs,s.LL=fU++ [bs]∧t.m=s.V.wal.toNat+fU.length∧f (bD cr t.m)=some (bZ aq (bs.map kx),(bZ aq (bs.map kx)).length)∧f (bD cr (t.m+1))=none:=by
 obtain ⟨fU,bs,oo⟩:∃ fU bs,s.LL=fU++ [bs]:=⟨_,_,(List.dropLast_concat_getLast h.ne).symm⟩
 have hm:=h.m;have hw:=h.lim.xH;rw [oo] at hm;simp only [aJ,dH,iK] at hm;have Sn:t.m=s.V.wal.toNat+fU.length:=by omega
 have wQ:=h.log;rw [oo] at wQ;refine ⟨fU,bs,oo,Sn,?_,?_⟩
 ·rw [Sn]
  exact wQ.there fU.length _ (by simp)
 ·rw [Sn]
  exact wQ.none (.inr (by simp;omega))
theorem alQ {D:Nat} (hr:∀ x∈s.V.tabs,x.file<s.V.next) (ha:(bz s.V (bX s seq D k0 k1 wal)).1=0):∀ e,e∈eu (ky s (bX s seq D k0 k1 wal))↔e∈eu s:=by
 have hp:=MK ha;intro e;unfold eu;rw [show aN (ky s (bX s seq D k0 k1 wal)).LL= [] from rfl,iq,cU,List.mem_flatten,List.mem_flatten];have eo:∀ x∈s.V.tabs,(ky s (bX s seq D k0 k1 wal)).ay x.file=s.ay x.file:=fun x hx=>if_neg (by have:=hr x hx;omega)
 have en:(ky s (bX s seq D k0 k1 wal)).ay s.V.next=aN s.LL:=if_pos rfl;constructor
 ·rintro ⟨l,hl,he⟩
  obtain ⟨x,hx,rfl⟩:=aZ.1 hl;rcases cU.1 (hp.mem_iff.1 hx) with h2|h2
  ·rw [eo x h2] at he
   exact .inr ⟨_,aZ.2 ⟨x,h2,rfl⟩,he⟩
  ·rw [cY.1 h2] at he
   dsimp only at he;rw [en] at he;exact .inl he
 ·rintro (he|⟨l,hl,he⟩)
  ·exact ⟨_,aZ.2 ⟨⟨s.V.next,0,k0,k1,(D:Int)⟩,hp.mem_iff.2 (mX _ (List.mem_singleton_self _)),rfl⟩,by dsimp only;rw [en];exact he⟩
  ·obtain ⟨x,hx,rfl⟩:=aZ.1 hl
   exact ⟨_,aZ.2 ⟨x,hp.mem_iff.2 (jw _ hx),rfl⟩,by rw [eo x hx];exact he⟩
theorem tN.congr {a b:List En} (h:tN a) (hab:∀ e,e∈b↔e∈a):tN b:=fun x hx y hy hs=>h x ((hab x).1 hx) y ((hab y).1 hy) hs
theorem Sp:∀ l:List En,(bh l).length≤costs l+15*l.length
 | []=>by simp [bh]
 |e::l=>by
  have h1:=Sp l;have h2:=nz e.key.data.toList;have h3:=nz e.val;have h4:=cB e.seq;have e1:e.key.data.toList.length=e.key.size:=by rw [gO];rfl
  have h5:bh (e::l)=oZ e++bh l:=by simp [bh]
  rw [h5];simp only [oZ,aJ,dH,costs,cg,List.sum_cons,jq] at*;omega
theorem vI.aDX (h:vI A C i s):vI A C (i+1) s:=h.more (aw _) (aw _) (Nat.le_succ i)
theorem eJ.more (h:eJ Z B Nn A C i w t f T K s) (hi:i≤i'):eJ Z B Nn A C i' w t f T K s:=
 {h with lim:=h.lim.more (aw _) (aw _) hi,vJ:=aM h.vJ hi,K:=by have:=h.K;omega}
def ry (f:Lk):Prop:=∀ n q,f n=some q→q.2=q.1.length
theorem ry.set {f:Lk} (h:ry f) (n:ByteArray) (x:List UInt8):ry (f.set n (x,x.length)):=fun m q hq=>by
 unfold Lk.set at hq
 split at hq
 ·cases hq;rfl
 ·exact h m q hq
theorem ry.del {f:Lk} (h:ry f) (n:ByteArray):ry (f.del n):=fun m q hq=>by
 unfold Lk.del at hq
 split at hq
 ·cases hq
 ·exact h m q hq
theorem ry.oW {f:Lk} (h:ry f) (nm:List UInt8) (a:Nat):∀ j,ry (oW nm a f j)
 |0=>h
 |j+1=>(h.oW nm a j).del _
theorem sG {k:ByteArray} (h:Lib.hasPrefix k.data.toList uj=false) (n:Nat):k≠bD cr n:=fun e=>by
 rw [e] at h;exact absurd (h.symm.trans (PE n)) (by decide)
theorem eJ.put (h:eJ Z B Nn A C i w t f T K s) {w':World} {t':Tr} {f':Lk} (ht:dm Z B Nn w' t' f' T' K') (hV:t'.V=t.V) (ho:t'.o=t.o) (jJ:t'.ns=t.ns) (hm:t'.m=t.m) (js:t'.ld=t.ld) (eD:t'.seq=t.seq) (hf:f'=f) (hK:K'≤K+10):eJ Z B Nn A C (i+1) w' t' f' T' K' s:=by
 subst hf;exact ⟨ht,by rw [hV];exact h.V,by rw [ho];exact h.gM,h.log,h.sync,h.lim.aDX,by rw [jJ];exact h.mem,by rw [hm];exact h.m,h.ne,by rw [js];exact h.ld,by rw [ho];exact h.opt,by rw [eD];exact h.seq,by rw [eD];have:=h.vJ;omega,h.xI,by rw [eD];exact h.top,by have:=h.K;omega⟩
theorem aDY (LL:List (List (Nat×List Wr))):gF (jb (LL++ [[]]))=gF (jb LL)++ [[]]:=by simp [bZ]
theorem zF (LL:List (List (Nat×List Wr))):(gF (jb LL)).length=LL.length:=by simp
theorem Zx (V:bI) (LL:List (List (Nat×List Wr))) (ay:Int→List En) (es:List cH):eu ⟨V,LL++ [[]],ay,es⟩=eu ⟨V,LL,ay,es⟩:=by unfold eu;rw [MI]
theorem aDZ (V:bI) (LL:List (List (Nat×List Wr))) (ay:Int→List En) (es:List cH):pE ⟨V,LL++ [[]],ay,es⟩=pE ⟨V,LL,ay,es⟩:=by unfold pE;simp
theorem eJ.aEa (h:eJ Z B Nn A C i w t f T K s) {w':World} {t':Tr} {f':Lk} (ht:dm Z B Nn w' t' f' T' K') (hV:t'.V=t.V) (ho:t'.o=t.o) (jJ:t'.ns=t.ns) (hm:t'.m=t.m+1) (js:t'.ld=t.ld) (eD:t'.seq=t.seq) (hf:f'=f.set (bD cr (t.m+1)) ([],0)) (hK:K'≤K+10):eJ Z B Nn A C (i+1) w' t' f' T' K' {s with LL:=s.LL++ [[]]}:=by
 subst hf;have kA:=h.m;have hw0:=h.lim.xH;have hl:=h.lim;refine ⟨ht,by rw [hV];exact h.V,?_,?_,ry.set h.sync _ [],?_,?_,?_,by simp,by rw [js];exact h.ld,by rw [ho];exact h.opt,?_,by rw [eD];have:=h.vJ;omega,?_,?_,by have:=h.K;omega⟩
 ·rw [ho]
  have h2:=h.gM.Zu (f':=f.set (bD cr (t.m+1)) ([],0)) (fun n hn=>ik _ (sG hn _) _);exact ⟨h2.cur,h2.IG,h2.tmp,h2.one,h2.all,h2.good,h2.IH,h2.tabs,h2.only,h2.ay,h2.files⟩
 ·have h3:=h.log.Mp
  rw [zF,show s.V.wal.toNat+s.LL.length=t.m+1 from by omega] at h3;dsimp only;rw [aDY];exact h3
 ·exact ⟨by dsimp only;rw [MI];exact hl.pB,by dsimp only;rw [MI];exact hl.cost,hl.xH,by have:=hl.wal;simp only [aJ,dH,iK];omega,hl.ER,by have:=hl.next;dsimp only;omega,by have:=hl.el;dsimp only;omega,by have:=hl.adds;dsimp only;omega,fun b hb=>hl.ES b (by simpa using hb),by have:=hl.IJ;simp;simp at this;omega,by have:=hl.ML;simpa using this,by have:=hl.MM;simpa using this⟩
 ·dsimp only;rw [MI,jJ];exact h.mem
 ·rw [hm];simp only [aJ,dH,iK];omega
 ·rw [aDZ,eD];exact h.seq
 ·rw [Zx];exact h.xI
 ·rw [Zx,eD];exact h.top
theorem eJ.aEb (h:eJ Z B Nn A C i w t f T K s) {w':World} {t':Tr} {f':Lk} {n:Nat} {b:Nat} (hn:s.V.next=(n:Int)) (hs:t.seq<18446744073709551616) (h0:k0.size≤65535) (h1:k1.size≤65535)
  (ha:(bz s.V (bX s t.seq (gX t.o.block.toNat (aN s.LL)).length k0 k1 (t.m+1))).1=0) (hne:aN s.LL≠ [])
  (ht:dm Z B Nn w' t' f' T' K') (hV:t'.V=(bz s.V (bX s t.seq (gX t.o.block.toNat (aN s.LL)).length k0 k1 (t.m+1))).2) (ho:t'.o=t.o) (jJ:t'.ns= []) (hm:t'.m=t.m+1) (js:t'.ld=fun k=>if k=(n:Int) then some (b,aN s.LL) else t.ld k) (eD:t'.seq=t.seq)
  (hf:f'=oW cr s.V.wal.toNat (((f.set (eH n) (gX t.o.block.toNat (aN s.LL),(gX t.o.block.toNat (aN s.LL)).length)).set (bD cr (t.m+1)) ([],0)).set (cX 0) (lY s.es++bB aq (dA (bX s t.seq (gX t.o.block.toNat (aN s.LL)).length k0 k1 (t.m+1))),(lY s.es++bB aq (dA (bX s t.seq (gX t.o.block.toNat (aN s.LL)).length k0 k1 (t.m+1)))).length)) s.LL.length)
  (hK:K'≤K+10):eJ Z B Nn A C (i+1) w' t' f' T' K' (ky s (bX s t.seq (gX t.o.block.toNat (aN s.LL)).length k0 k1 (t.m+1))):=by
 obtain ⟨E,hE⟩:∃ E,E=bX s t.seq (gX t.o.block.toNat (aN s.LL)).length k0 k1 (t.m+1):=⟨_,rfl⟩
 have kA:=h.m;have hw0:=h.lim.xH;have hl:=h.lim;have hvs:=h.aDW;have eG:=CX ha;have hLp:0<s.LL.length:=List.length_pos_iff.2 h.ne;have aEc:xG t.o.block.toNat f' (ky s (bX s t.seq (gX t.o.block.toNat (aN s.LL)).length k0 k1 (t.m+1))):=by
  refine h.gM.flush hn hs rfl h0 h1 ha hne h.Cg (fun k hk=> ?_);rw [hf,Gs _ _ _ _ (fun j _=>sG hk _),aDR];unfold Lk.set;split
  ·rfl
  ·rw [if_neg (sG hk _)]
 have Zw:(bz s.V (bX s t.seq (gX t.o.block.toNat (aN s.LL)).length k0 k1 (t.m+1))).2.wal=((t.m+1:Nat):Int):=by
  rw [eG.wal];show df ((t.m+1:Nat):Int) s.V.wal=_;unfold df;rw [if_neg (by omega)]
 have hseq:(bz s.V (bX s t.seq (gX t.o.block.toNat (aN s.LL)).length k0 k1 (t.m+1))).2.seq=(t.seq:Int):=by
  rw [eG.seq];show df (t.seq:Int) s.V.seq=_;unfold df;split
  ·rename_i hz;omega
  ·rfl
 have hall:=alQ h.gM.files ha;have sT:∀ x∈s.V.tabs,x.file≠(n:Int):=fun x hx=>by have:=h.gM.files x hx;omega
 refine ⟨ht,hV,by rw [ho];exact aEc,?_,?_,hl.flush h.gM ha ?_,by rw [jJ];rfl,?_,by simp [ky],fun x hx=> ?_,by rw [ho];exact h.opt,?_,by rw [eD];have:=h.vJ;omega,h.xI.congr hall,fun e he=>by rw [eD];exact h.top e ((hall e).1 he),by have:=h.K;omega⟩
 ·have h3:=(((h.log.RS (vD n) (gX t.o.block.toNat (aN s.LL),(gX t.o.block.toNat (aN s.LL)).length)).Mp).RS (BX 0) (lY s.es++bB aq (dA (bX s t.seq (gX t.o.block.toNat (aN s.LL)).length k0 k1 (t.m+1))),(lY s.es++bB aq (dA (bX s t.seq (gX t.o.block.toNat (aN s.LL)).length k0 k1 (t.m+1)))).length)).drop s.LL.length
  rw [zF,show s.V.wal.toNat+s.LL.length=t.m+1 from by omega] at h3;rw [hf];show gK _ (bz s.V _).2.wal.toNat (gF (jb [[]]));rw [Zw,Int.toNat_natCast];have e1:(gF (jb s.LL)++ [[]]).drop s.LL.length=gF (jb [[]]):=by
   rw [List.drop_append_of_le_length (by rw [zF];exact aw _),List.drop_eq_nil_of_le (by rw [zF];exact aw _)];simp [bZ]
  rw [e1] at h3;exact h3
 ·rw [hf]
  exact ((((ry.set h.sync _ _).set _ []).set _ _).oW _ _ _)
 ·have:=hl.wal;omega
 ·rw [hm]
  show ((t.m+1:Nat):Int)+1=(bz s.V _).2.wal+_;rw [Zw];rfl
 ·rw [js]
  rcases cU.1 ((MK ha).mem_iff.1 hx) with h2|h2
  ·obtain ⟨b',hb'⟩:=h.ld x h2
   refine ⟨b',?_⟩;dsimp only;rw [if_neg (sT x h2),hb'];show _=some (b',if x.file=s.V.next then aN s.LL else s.ay x.file);rw [if_neg (by rw [hn];exact sT x h2)]
  ·rw [cY.1 h2]
   refine ⟨b,?_⟩;dsimp only;rw [if_pos hn];show _=some (b,if s.V.next=s.V.next then aN s.LL else _);rw [if_pos rfl]
 ·rw [eD]
  show t.seq=pE _;unfold pE;show t.seq=([]:List Nat).foldl max (bz s.V _).2.seq.toNat;rw [hseq];simp
end
end Go.Proofs.YtoolkdapflaeeaaGreatDoor
