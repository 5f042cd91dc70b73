/- Helpers. -/
import Derived.Test.YtoolkdapflaeeaaGreatDoorW0I
import Derived.Test.YtoolkdapflaeeaaGreatDoorW0G
import Derived.Test.YtoolkdapflaeeaaGreatDoorW0H
import Derived.Deep.CutRange
import Derived.Deep.DeepCutAuto
import Derived.Test.YtoolkdapflaeeaaGreatDoorW0C
set_option maxRecDepth 100000
set_option maxHeartbeats 16000000
namespace Go.Proofs.YtoolkdapflaeeaaGreatDoor
open Go.RowKit Go.Gl Go.aH Mn
attribute [local go_sem] Oper.semAt_some
theorem sD {B:Nat} {W W':World} {row:Option Nat} (hg:W.grownBy W' row) (hr:∀ r,row=some r→B≤r∧∃ o:Obj,W.heap[r]?=some o∧o.isCells=false) {b:Nat} {cur:Array Value} {t:TypeId} {f:Nat×Nat} (h:W.heap[b]?=some (.cells cur t f)):W'.heap[b]?=some (.cells cur t f):=by
 rw [hg.block b (af h) (fun e=> ?_)]
 ·exact h
 ·obtain ⟨_,o,ho,hc⟩:=hr b e.symm
  rw [h] at ho;cases ho;cases hc
def CV {α:Type} (ev:α→En) (B0:Nat) (N:Nat→Prop) (w:World) (pre:List α) (W:World):Prop:=
 ∃ (ys:List Ev) (rv:Value),ys.map Ev.e=pre.map ev∧W.heap[B0]?=some (.cells #[rv] 57 (0,0))∧dt w.heap.size N W rv ys∧Below w.heap.size w W
theorem CV.own {α:Type} {ev:α→En} {B0:Nat} {N:Nat→Prop} {w:World} (hN:∀ b,N b→b<w.heap.size) {B:Nat} (hB:w.heap.size≤B):OwnFrom B (CV ev B0 N w):=by
 rintro pre W W' row ⟨ys,rv,h1,h2,h3,h4⟩ hg hr;refine ⟨ys,rv,h1,sD hg hr h2,h3.keep hg.size (fun b hb=>hg.block b (cj (hN b hb) h4.size) (fun e=>by have:=(hr b e.symm).1;have:=hN b hb;omega)) (fun b cur t f _ _ h=>sD hg hr h),?_⟩;exact h4.grown hg h4.size (fun k e=>by have:=(hr k e).1;omega)
theorem awU {F:Fence} {n:Nat} {P:Program} {w w':World} {ops:Array Oper} {rest:List Oper} {o:Oper} {a:Act} {Q:Exit→Act→World→Prop} (hg:o.guard=none) (s x:Operand) (t:TypeId) (hop:o.op=Op.call {callee:=Callee.builtin Builtin.append,args:=#[s,x],argTypes:=#[t,t]})
  {sv xv v:Value} (hs:a.eval s=sv) (hx:a.eval x=xv) (hr:(Builtin.append_ #[t,t] o.type #[sv,xv]).run P w= .ok v w') (hK:wpListIn F n P ops Q rest (a.put o.dst v) w'):wpListIn F n P ops Q (o::rest) a w:=by
 refine wpListIn_plain hg fun K hK'=> ?_
 unfold Oper.wpIn;refine ⟨?_,?_⟩
 ·simp [Oper.about,hop,resolve,Target.leads,Sem.run_pure]
 ·rw [Oper.semAt_plain F _ _ (by rw [hop];intro c hc;cases hc)]
  simp [execOp,hop,resolve,invoke,builtin,hs,hx,hr,Result.andThen];exact hK' _ _ hK
theorem OwnFrom.up {β:Type} {B B':Nat} {I:β→World→Prop} (h:OwnFrom B I) (hB:B≤B'):OwnFrom B' I:=fun s W W' row hs hg hr=>h s W W' row hs hg (fun r e=>⟨aN hB (hr r e).1,(hr r e).2⟩)
theorem awV {α:Type} {gf:Nat} {lb:Array Value} {R:α→Array Value→World→Prop} {N N':Nat→Prop} {xs:List α} {w:World} (ev:α→En) (eg:∀ args w,(callFunc gf args).run Tryz.prog w= .ok (.enter gf args) w)
  (hs:Fs Tryz.prog gf lb R N' xs w) (Fu:∀ b,N' b→b<w.heap.size) (hN:∀ b,N b→b<w.heap.size) (hR:∀ x v W,R x v W→∃ y,v=#[.agg (bQ y)]∧y.e=ev x∧nQ N w.heap.size W y)
  (Fv:∀ x v,OwnFrom w.heap.size (fun (_:Unit) W=>R x v W)) (hlen:xs.length≤1000000000):
  Calls Tryz.prog 104 #[.slice none 0 0,.func (.func gf) #[] lb] w fun e w'=>∃ v ys,e= .returned v∧ys.map Ev.e=xs.map ev∧dt w.heap.size N w' v ys∧Grow w w':=by
 have ai:=Grow.alloc w (.cells #[.slice none 0 0] 57);have hb:=aw w (.cells #[.slice none 0 0] 57);refine (callsIn_wide (n:=4)).1 (callsIn_of_wp_marks Tryz.func104 rfl trivial ?_ rfl);simp only [Tryz.ntmps104,List.size_toArray,List.length_cons,List.length_nil,Nat.reduceAdd,Nat.reduceSub,Array.replicate_succ,Array.replicate_zero,List.push_toArray,List.append_toArray,List.nil_append,List.cons_append];refine wpIn_wide.2 ?_
 go_wp2_with fail
 have hsz:(w.alloc (.cells #[.slice none 0 0] 57)).heap.size=w.heap.size+1:=World.size_alloc _ _;generalize bS:w.alloc (.cells #[.slice none 0 0] 57)=w1 at*;have h0:CV ev w.heap.size N w [] w1:=⟨[],.slice none 0 0,rfl,hb,⟨World.ownsRow_nil _ _ _ _,fun _ h=>(by cases h)⟩,ai⟩
 refine afK (gf:=gf) (lb:=lb) rfl eg (R:=R) (N:=N') (xs:=xs) hs (.bF ai) (fun b hb'=>by have:=Fu b hb';omega) (fun x v W h=>by obtain ⟨y,rfl,_⟩:=hR x v W h;rfl) (fun x v=>OwnFrom.up (Fv x v) (by omega))
  (CV ev w.heap.size N w) (fun _ _ _=>False) (CV.own hN (by omega)) (fun _ _ _ _ _ h=>h.elim) h0 ?round ?done ?stop
 case round=>
  rintro l pre x rest v W eM hl hW ⟨ys,rv,e1,jZ,hrow,dG⟩ CT;obtain ⟨⟨⟨yk,ys',yg,yd⟩,yv⟩,rfl,Kn,ir⟩:=hR x v W CT;obtain ⟨ya,yc,hv⟩:=ir.slice;simp only at hv;subst hv;have Hye:=ae Kn;have HR:=ae hR;have HN:=ae (ah hN Fu);have oI:=ae (ah eM hlen);clear Kn ir hR CT jZ hrow dG e1 hs Fv h0 hN Fu eM hlen;gi_wp2;refine ⟨Grow.alloc _ _,fun W2 hs2 hc2 Ey Fw=> ?_⟩;have jg:=hc2 _ _ _ _ _ (aw W (.cells #[.string yk,.int .u64 ys',.bool yg,.slice ya yd.length yc] 60));obtain ⟨zs,rv,e1,jZ,hrow,dG⟩:=Ey;obtain ⟨⟨e2,v2⟩,hy2,awW,afW⟩:=HR.out x _ W2 Fw;have wG:e2=⟨yk,ys',yg,yd⟩:=awW.trans Hye.out.symm;subst wG;have vM:v2= .slice ya yd.length yc:=by
   have h1:=congrArg (fun a:Array Value=>a[0]?) hy2;simp only [bQ] at h1;simpa using h1.symm
  subst vM;have hzl:zs.length≤1000000000:=by
   have h1:=congrArg List.length e1;rw [List.length_map,List.length_map] at h1;have h2:=congrArg List.length oI.out.1;rw [List.length_append] at h2;have:=oI.out.2;omega
  obtain ⟨g,cap,w4,hrun,hrow4,hg4⟩:=afT hrow afW HN.out.1 (aN dG.size (ay _)) hzl;obtain ⟨ra,rc,rfl⟩:∃ a c,rv= .slice a zs.length c:=by
   rcases hrow.1.2 with ⟨h1,h2⟩|⟨g',cap',cur,h1,_⟩
   ·exact ⟨none,0,by rw [h1,h2]⟩
   ·exact ⟨_,_,h1⟩
  have b0:W2.cell? ⟨w.heap.size,0,none⟩=some (.slice ra zs.length rc):=by simp [World.cell?,jZ]
  have RS:=af jZ;obtain ⟨q0,q1,q2,q3⟩:=cK jg;have lq2:=af jg;have vK:w4.heap[w.heap.size]?=some (.cells #[.slice ra zs.length rc] 57 (0,0)):=by
   rw [hg4.block _ RS (fun e=> ?_)]
   ·exact jZ
   ·obtain ⟨_,cur,h1⟩:=xC hrow e.symm
    rw [jZ] at h1;exact absurd (cA (bB h1)).2.1 (by decide)
  have c4:w4.cell? ⟨w.heap.size,0,none⟩=some (.slice ra zs.length rc):=by simp [World.cell?,vK]
  have f4:w4.frozen? ⟨w.heap.size,0,none⟩=false:=by simp [World.frozen?,vK]
  have l4:=af vK;have Hb:=ae (ah e1 (ah dG (ah hrow (ah hrow4 (ah hg4 vK)))));clear e1 dG hrow hrow4 hg4 vK jZ jg hc2 hs2 hy2 afW Fw HR;have dC:=ae hrun;clear hrun
  gi_wp2_with (gi_at_builtin;refine awU rfl _ _ _ rfl rfl rfl dC.out ?_)
  have hb:=Hb.out;have hs2:=hb.2.2.2.2.1;have awX:(w4.setCell ⟨w.heap.size,0,none⟩ (.slice (some ⟨g,0,none⟩) (zs.length+1) cap)).heap[w.heap.size]?=some (.cells #[.slice (some ⟨g,0,none⟩) (zs.length+1) cap] 57 (0,0)):=Go.Gl.aI hb.2.2.2.2.2 0 _;have IV:∀ b,b≠w.heap.size→b<W2.heap.size→(Value.slice ra zs.length rc).ownBlock≠some b→(w4.setCell ⟨w.heap.size,0,none⟩ (.slice (some ⟨g,0,none⟩) (zs.length+1) cap)).heap[b]?=W2.heap[b]?:=fun b h1 h2 h3=>by
   rw [aK _ _ _ _ h1,hs2.block b h2 (fun e=>h3 e.symm)]
  have hown:∀ b,(Value.slice ra zs.length rc).ownBlock=some b→w.heap.size≤b∧∃ cur,W2.heap[b]?=some (.cells cur 60 (0,0)):=fun b e=>xC hb.2.2.1 e
  have afX:W2.heap.size≤(w4.setCell ⟨w.heap.size,0,none⟩ (.slice (some ⟨g,0,none⟩) (zs.length+1) cap)).heap.size:=by simpa using hs2.size
  refine ⟨⟨afX,fun k o hk ho hc=> ?_⟩,⟨afX,fun b Vy hlt=> ?_⟩,?_⟩
  ·rw [IV k (by omega) (af ho) (fun e=> ?_)]
   ·exact ho
   ·obtain ⟨_,cur,h1⟩:=hown k e
    rw [ho] at h1;cases h1;cases hc
  ·have h1:=HN.out.2 b Vy
   exact IV b (by omega) hlt (fun e=>by have:=(hown b e).1;omega)
  ·refine ⟨zs++ [⟨⟨yk,ys',yg,yd⟩,.slice ya yd.length yc⟩],.slice (some ⟨g,0,none⟩) (zs.length+1) cap,?_,awX,?_,?_⟩
   ·rw [List.map_append,List.map_append,hb.1]
    simp [Hye.out]
   ·refine hb.2.2.2.1.keep (by simp) (fun b Vy=> ?_) (fun b cur t f hB ht hcb=> ?_)
    ·have h1:=HN.out.1 b Vy
     exact aK _ _ _ _ (fun e=>by have e':b=w.heap.size:=e;omega)
    ·rw [aK _ _ _ _ (fun e=> ?_)]
     ·exact hcb
     ·have e':b=w.heap.size:=e
      rw [e',hb.2.2.2.2.2] at hcb;have h9:=(cA (bB hcb)).2.1;rcases ht with rfl|rfl
      ·exact absurd h9 (by decide)
      ·exact absurd h9 (by decide)
   ·refine (hb.2.1.grown hs2 hb.2.1.size (fun k e=>(hown k e).1)).setCell (p:=⟨w.heap.size,0,none⟩) (ay _) _
 case done=>
  rintro D W hD ⟨ys,rv,e1,jZ,hrow,dG⟩ hK;have b0:W.cell? ⟨w.heap.size,0,none⟩=some rv:=by simp [World.cell?,jZ]
  have lb0:=af jZ;have hgd:=grownBy_putObj' W D (.deferred none);have aY:∀ r,some D=some r→w.heap.size≤r∧∃ o:Obj,W.heap[r]?=some o∧o.isCells=false:=fun r e=>by cases e;exact ⟨by omega,_,hK,rfl⟩
  have hI:CV ev w.heap.size N w xs W:=⟨ys,rv,e1,jZ,hrow,dG⟩
  obtain ⟨ys',rv',Ik,CW,hrow',afZ⟩:=CV.own (B:=w.heap.size) hN (ay _) xs W _ (some D) hI hgd aY;have hrr:rv'=rv:=by
   have h1:=sD hgd aY jZ;rw [h1] at CW;have h2:=(cA (bB CW)).1;simpa using h2.symm
  subst hrr;have bG:=ae (ah Ik (ah hrow' afZ));obtain ⟨ra,rc,rfl⟩:∃ a c,rv'= .slice a ys.length c:=by
   rcases hrow.1.2 with ⟨h1,h2⟩|⟨g',cap',cur,h1,_⟩
   ·exact ⟨none,0,by rw [h1,h2]⟩
   ·exact ⟨_,_,h1⟩
  clear e1 jZ hrow dG Ik CW hrow' afZ hI hgd aY hs hR Fv h0;go_wp2;refine ⟨by simp,.inl ⟨_,_,rfl,run_takeDeferred hK,?_⟩⟩;exact ⟨_,results_tmp rfl _ _ _,.slice ra ys.length rc,ys',rfl,bG.out.1,bG.out.2.1,bG.out.2.2⟩
 case stop=>
  rintro D c pre x rest W hD eM h _;exact h.elim
theorem agb {α:Type} {gf:Nat} {lb:Array Value} {R:α→Array Value→World→Prop} {N N':Nat→Prop} {xs:List α} {w:World} (ev:α→En) (eg:∀ args w,(callFunc gf args).run Tryz.prog w= .ok (.enter gf args) w)
  (hs:Fs Tryz.prog gf lb R N' xs w) (Fu:∀ b,N' b→b<w.heap.size) (hN:∀ b,N b→b<w.heap.size) (hR:∀ x v W,R x v W→∃ y,v=#[.agg (bQ y)]∧y.e=ev x∧nQ N w.heap.size W y)
  (Fv:∀ x v,OwnFrom w.heap.size (fun (_:Unit) W=>R x v W)) (hlen:xs.length≤1000000000):
  Calls Tryz.prog 58 #[.func (.func gf) #[] lb] w fun e w'=>∃ v ys,e= .returned v∧ys.map Ev.e=xs.map ev∧dt w.heap.size N w' v ys∧Grow w w':=by
 have Ha:=ae (awV ev eg hs Fu hN hR Fv hlen);clear hs Fu hN hR Fv hlen;go_enter Tryz.func58,Tryz.ntmps58
 go_wp2_with fail
 (with_reducible refine Ha.out.mono ?_);rintro e w' ⟨v,ys,rfl,h1,h2,h3⟩;have bG:=ae (ah h1 (ah h2 h3));obtain ⟨ra,rc,rfl⟩:∃ a c,v= .slice a ys.length c:=by
  rcases h2.1.2 with ⟨h1,h2⟩|⟨g',cap',cur,h1,_⟩
  ·exact ⟨none,0,by rw [h1,h2]⟩
  ·exact ⟨_,_,h1⟩
 clear h1 h2 h3 Ha;go_wp2;go_ret;exact ⟨_,ys,rfl,bG.out⟩
end Go.Proofs.YtoolkdapflaeeaaGreatDoor
namespace Go.Proofs.YtoolkdapflaeeaaGreatDoor
open Go.RowKit Go.Gl Go.aH Mn
attribute [local go_sem] Oper.semAt_some
def Ra (B:Nat) (x:En) (v:Array Value) (W:World):Prop:=∃ sv,v=#[.agg (bQ ⟨x,sv⟩)]∧aG B W sv x.val
theorem awY {N:Nat→Prop} {w:World} {v:Value} {ys:List Ev} (h:Es N w v ys) (hlen:ys.length≤1000000000) (hval:∀ y∈ys,y.e.val.length≤1000000000000) {Bl:Nat} (hl:w.heap[Bl]?=some (.cells #[v] 57 (0,0))) (xD:N Bl):
  Fs Tryz.prog 180 #[.pointer (some ⟨Bl,0,none⟩)] (Ra w.heap.size) N (ys.map Ev.e) w:=by
 intro l J Jx W hW hJ hJx hY h0;obtain ⟨va,vc,rfl⟩:=h.slice;have uh:W.heap[Bl]?=some (.cells #[.slice va ys.length vc] 57 (0,0)):=(hW.same Bl xD (af hl)).trans hl;have c0:W.cell? ⟨Bl,0,none⟩=some (.slice va ys.length vc):=by simp [World.cell?,uh]
 have lBl:=af uh;have H:=ae h;have HW:=ae hW;have HY:=ae hY;have H0:=ae h0;have HJ:=ae hJ;have Hv:=ae hval;clear h hl uh hW hY h0 hJ hval;refine callsIn_of_wp Tryz.func180 rfl trivial ?_ rfl;simp only [Tryz.ntmps180,List.size_toArray,List.length_cons,List.length_nil,Nat.reduceAdd,Nat.reduceSub,Array.replicate_succ,Array.replicate_zero,List.push_toArray,List.append_toArray,List.nil_append,List.cons_append];gi_wp2
 gi_loopw [7] (fun iv wr=>∃ i:Nat,iv= .int .i64 (i:Int)∧i≤ys.length∧Kp N w wr∧w.heap.size≤wr.heap.size∧J ((ys.take i).map Ev.e) wr) (fun iv _=>ys.length-(intOf iv).toNat)
 case atStart=>exact ⟨0,rfl,bk _,HW.out,HW.out.size,H0.out⟩
 case round=>
  obtain ⟨i,rfl,hi,hk,hsz,hJs⟩:=hrel;by_cases hlt:i<ys.length
  ·obtain ⟨x,hx⟩:∃ x,ys[i]?=some x:=⟨_,List.getElem?_eq_getElem hlt⟩
   have hE:=H.out.kp hk;obtain ⟨b,o,c,hv,hNb,hb,aY⟩:=hE.addr hx;cases hv;obtain ⟨d0,d1,d2,d3⟩:=JL aY hx;have dm:=hE.get hx;obtain ⟨xa,xc,iH⟩:=dm.slice;rw [iH] at d3;have ic:=Hv.out x (dY hx);have ai:=Grow.alloc wr (.cells #[.string x.e.key,.int .u64 x.e.seq,.bool x.e.gone,.slice xa x.e.val.length xc] 60);have eG:=ae (aeC (dm.grow ai) ic);have pQ:bQ x=#[.string x.e.key,.int .u64 x.e.seq,.bool x.e.gone,.slice xa x.e.val.length xc]:=by rw [←iH]
   rw [pQ] at eG;have eM:ys.map Ev.e=(ys.take i).map Ev.e++x.e::(ys.drop (i+1)).map Ev.e:=by
    have h1:ys=ys.take i++x::ys.drop (i+1):=by
     conv=>lhs;rw [←List.take_append_drop i ys]
     rw [List.drop_eq_getElem_cons hlt];congr 2;rw [List.getElem?_eq_getElem hlt] at hx;exact bB hx
    conv=>lhs;rw [h1]
    simp
   have cC:(ys.take (i+1)).map Ev.e=(ys.take i).map Ev.e++ [x.e]:=by
    rw [List.take_add_one,hx];simp
   have oI:=ae eM;have lz:=ae cC;have dJ:(i:Int)<(ys.length:Int):=by omega
   have bK:(0:Int)≤(i:Int):=by omega
   have eE:IntKind.i64.wrap ((i:Int)+1)=((i+1:Nat):Int):=by rw [aR _ (by omega)];omega
   have Vz:=ae eE;have Ko:=Km HJ.out hJs ai;have VA:=ae Ko;have bT:=ae ai;have Hk:=ae (ah hk hsz);clear hE aY dm iH pQ eM cC Ko hJs ai hx eE hk
   gi_wp2_with (refine ⟨trivial,?_⟩;gi_at_call 181;refine (callsIn_wide.2 eG.out).mono ?_;rintro e w3 ⟨v',rfl,ho,hg3⟩;obtain ⟨fn,tmps,assign,body,hy,hR⟩:=HY.out ((ys.take i).map Ev.e) x.e ((ys.drop (i+1)).map Ev.e) #[.agg (bQ ⟨x.e,v'⟩)] w3 oI.out (Km HJ.out VA.out hg3) ⟨v',rfl,ho.mono (by simp;omega)⟩;dsimp only [bQ] at hy)
   refine (Vt 2 hR).mono ?_;have hk3:Kp N w w3:=(Hk.out.1.trans (.bF bT.out)).trans (.bF hg3);rintro e W4 (⟨rfl,VB,hk4⟩|⟨rfl,VC⟩)
   ·have xE:=hk3.trans hk4
    have eE:=Vz.out;clear hy hR ho hg3 hk3 eG;gi_wp2;go_roundw
    case rel=>exact ⟨i+1,rfl,hlt,xE,xE.size,by rw [lz.out];exact VB⟩
    case measure=>simp [intOf];omega
   ·gi_wp2
    refine bodyPost_ret (results_none rfl _ _ _) rfl ?_;exact ⟨⟨_,rfl⟩,.inr ⟨(ys.take i).map Ev.e,x.e,(ys.drop (i+1)).map Ev.e,oI.out,VC⟩⟩
  ·obtain rfl:i=ys.length:=by omega
   have VD:J (ys.map Ev.e) wr:=by rw [List.take_length] at hJs;exact hJs
   clear hJs;gi_wp2;go_end0;exact ⟨⟨_,rfl⟩,.inl VD⟩
end Go.Proofs.YtoolkdapflaeeaaGreatDoor
namespace Go.Proofs.YtoolkdapflaeeaaGreatDoor
open Go.RowKit Go.Gl Go.aH Mn
theorem agc (w:World) (tb:Nat) (k:ByteArray) (s:Int) (g:Bool) (a:Option Addr) (n c:Nat):
  Calls Tryz.prog 179 #[au tb,.agg #[.string k,.int .u64 s,.bool g,.slice a n c]] w fun e w'=>e= .returned (.func (.func 216) #[] #[.pointer (some ⟨w.heap.size,0,none⟩),.pointer (some ⟨w.heap.size+1,0,none⟩)])∧
   w'=(w.alloc (.cells #[au tb] 286)).alloc (.cells #[.string k,.int .u64 s,.bool g,.slice a n c] 60):=by
 go_enter Tryz.func179,Tryz.ntmps179;go_wp2;go_ret;exact ⟨rfl,rfl⟩
theorem dt.mono {B B':Nat} {N:Nat→Prop} {W:World} {v:Value} {ys:List Ev} (h:dt B N W v ys) (hB:B'≤B):dt B' N W v ys:=
 ⟨qx h.1 hB,fun y hy=>⟨(h.2 y hy).1,(h.2 y hy).2.imp id (fun h2 b hb=>(h2 b hb).imp id (fun h3=>⟨aN hB h3.1,h3.2⟩))⟩⟩
theorem dt.grow {B:Nat} {N:Nat→Prop} {W W':World} {v:Value} {ys:List Ev} (h:dt B N W v ys) (hg:Grow W W') (hN:∀ b,N b→b<W.heap.size):dt B N W' v ys:=
 h.keep hg.size (fun b hb=>hg.block b (hN b hb)) (fun _ _ _ _ _ _ hc=>hg.heap hc)
theorem dt.slice {B:Nat} {N:Nat→Prop} {W:World} {v:Value} {ys:List Ev} (h:dt B N W v ys):∃ a c,v= .slice a ys.length c:=by
 rcases h.1.2 with ⟨h1,h2⟩|⟨g',cap',cur,h1,_⟩
 ·exact ⟨none,0,by rw [h1,h2]⟩
 ·exact ⟨_,_,h1⟩
abbrev vN (key:ByteArray) (up:Nat):Ev:=⟨⟨key,up,false,[]⟩,.slice none 0 0⟩
theorem awZ {N:Nat→Prop} {B:Nat} {W:World} {y:Ev} (h:kG N W y):nQ N B W y:=⟨h.1,h.2.imp id (fun h2 b hb=> .inl (h2 b hb))⟩
theorem agd {N:Nat→Prop} {B:Nat} (hN:∀ b,N b→b<B) (y:Ev) (v:Array Value):OwnFrom B (fun (_:Unit) W=>Rt N y v W):=fun _ W W' row h hg hr=>
 ⟨h.1,h.2.kp ⟨hg.size,fun b hb hl=>hg.block b hl (fun e=>by have:=(hr b e.symm).1;have:=hN b hb;omega)⟩⟩
def OX (N:Nat→Prop) (w:World) (l:List En) (e:Ending) (w':World) (gf:Nat):Prop:=
 ∃ (Bl:Nat) (ys:List Ev) (v:Value),e= .returned (.func (.func gf) #[] #[.pointer (some ⟨Bl,0,none⟩)])∧w.heap.size≤Bl∧w'.heap[Bl]?=some (.cells #[v] 57 (0,0))∧ys.map Ev.e=l∧dt w.heap.size N w' v ys∧Grow w w'
theorem axa {N:Nat→Prop} {w:World} {tb ha:Nat} {ns:List Nd} {aM:Nat} {dv:Value} {ds:List Int} (h:cX N w tb ha ns aM dv ds) (hN:∀ b,N b→b<w.heap.size) (hlen:ns.length≤1000000000) (key:ByteArray):
  Calls Tryz.prog 124 #[au tb,.string key] w fun e w'=>OX N w (gq ⟨key,18446744073709551615,false,[]⟩ (ns.map (fun n=>n.x.e))) e w' 180:=by
 have ai:=Grow.alloc w (.cells #[au tb] 286);have hgb:=Grow.alloc (w.alloc (.cells #[au tb] 286)) (.cells (bQ (vN key 18446744073709551615)) 60);have hb1:=hgb.heap (aw w (.cells #[au tb] 286));have hb2:=aw (w.alloc (.cells #[au tb] 286)) (.cells (bQ (vN key 18446744073709551615)) 60);rw [World.size_alloc] at hb2;have hg2:=ai.trans hgb;have hM:=h.grow hg2;have dS:=h.self;have ltb:=af dS;have oX:=ae (agc w tb key 18446744073709551615 false none 0 0);have sz2:((w.alloc (.cells #[au tb] 286)).alloc (.cells (bQ (vN key 18446744073709551615)) 60)).heap.size=w.heap.size+2:=by simp
 generalize hw2:(w.alloc (.cells #[au tb] 286)).alloc (.cells (bQ (vN key 18446744073709551615)) 60)=w2 at*;have hseq:=afM hM (vN key 18446744073709551615) (xa:=none) (xl:=0) (xc:=0) rfl hb1 hb2;have Kq:=agb (N:=N) (fun y:Ev=>y.e) (enters_of Tryz.func216 (by kernel_rfl) rfl) hseq (fun b hb=>by
   rcases hb with hb|hb|rfl|rfl
   ·have:=hN b hb;omega
   ·have:=h.lt hb;omega
   ·omega
   ·omega) (fun b hb=>by have:=hN b hb;omega) (fun x v W hR=>⟨x,hR.1,rfl,awZ hR.2⟩) (fun x v=>agd (fun b hb=>by have:=hN b hb;omega) x v) (by rw [List.length_map];have:=congrArg List.length (iZ (vN key 18446744073709551615).e ns);rw [List.length_append] at this;omega)
 have OY:=ae Kq;have eD:=ae hg2;have pR:=ae sz2;have HN:=ae hN;clear hM dS hb1 hb2 ai hgb hseq Kq hg2 sz2 h hN hw2;go_enter Tryz.func124,Tryz.ntmps124
 go_wp2_with fail
 (with_reducible refine oX.out.mono ?_);rintro e w' ⟨rfl,rfl⟩
 go_wp2_with fail
 (with_reducible refine OY.out.mono ?_);rintro e w3 ⟨v,ys,rfl,bJ,hrow,hg3⟩;obtain ⟨va,vc,rfl⟩:=hrow.slice;have ai:=Grow.alloc w3 (.cells #[.slice va ys.length vc] 57);have hb:=aw w3 (.cells #[.slice va ys.length vc] 57);have gJ:OX N w (gq ⟨key,18446744073709551615,false,[]⟩ (ns.map (fun n=>n.x.e))) (.returned (.func (.func 180) #[] #[.pointer (some ⟨w3.heap.size,0,none⟩)])) (w3.alloc (.cells #[.slice va ys.length vc] 57)) 180:=by
  have s1:=pR.out;have s2:=hg3.size;refine ⟨w3.heap.size,ys,.slice va ys.length vc,rfl,by omega,hb,?_,(hrow.mono (by omega)).grow ai (fun b hb=>by have:=HN.out b hb;omega),(eD.out.trans hg3).trans ai⟩;rw [bJ,←CA];simp
 have cS:=ae gJ;clear ai hb gJ bJ hrow hg3;go_wp2;go_ret;exact cS.out
theorem axc (x y:Ev) {xa ya:Option Addr} {xl xc yl yc:Nat} (hx:x.v= .slice xa xl xc) (hy:y.v= .slice ya yl yc) (W:World):
  Calls Tryz.prog 132 #[.agg (bQ x),.agg (bQ y)] W fun e w'=>e= .returned (.bool (decide (fH x.e y.e<0)))∧Grow W w':=by
 obtain ⟨⟨xk,xs,xg,xd⟩,xv⟩:=x;obtain ⟨⟨yk,ys,yg,yd⟩,yv⟩:=y;simp only at hx hy;subst hx hy;have b0:((W.alloc (.cells #[.string xk,.int .u64 xs,.bool xg,.slice xa xl xc] 60)).alloc (.cells #[.string yk,.int .u64 ys,.bool yg,.slice ya yl yc] 60)).heap[W.heap.size]?=some (.cells #[.string xk,.int .u64 xs,.bool xg,.slice xa xl xc] 60 (0,0)):=(heap_alloc_old _ _ (by simp)).trans (aw _ _);have b1:((W.alloc (.cells #[.string xk,.int .u64 xs,.bool xg,.slice xa xl xc] 60)).alloc (.cells #[.string yk,.int .u64 ys,.bool yg,.slice ya yl yc] 60)).heap[W.heap.size+1]?=some (.cells #[.string yk,.int .u64 ys,.bool yg,.slice ya yl yc] 60 (0,0)):=by
  have:=aw (W.alloc (.cells #[.string xk,.int .u64 xs,.bool xg,.slice xa xl xc] 60)) (.cells #[.string yk,.int .u64 ys,.bool yg,.slice ya yl yc] 60);simpa using this
 obtain ⟨d0,d1,d2,d3⟩:=cK b0;obtain ⟨e0,e1,e2,e3⟩:=cK b1;have l0:=af b0;have l1:=af b1;have gJ:Grow W ((W.alloc (.cells #[.string xk,.int .u64 xs,.bool xg,.slice xa xl xc] 60)).alloc (.cells #[.string yk,.int .u64 ys,.bool yg,.slice ya yl yc] 60)):=(Grow.alloc _ _).trans (Grow.alloc _ _);have Hc:=ae (aev xk xs xg (.slice xa xl xc) yk ys yg (.slice ya yl yc));have cS:=ae gJ;clear b0 b1 gJ;show Calls Tryz.prog 132 #[.agg (bQ ⟨⟨xk,xs,xg,xd⟩,.slice xa xl xc⟩),.agg (bQ ⟨⟨yk,ys,yg,yd⟩,.slice ya yl yc⟩)] W fun e w'=>e= .returned (.bool (decide (cJ (jF xk yk) (ij ys xs)<0)))∧Grow W w'
 generalize cJ (jF xk yk) (ij ys xs)=c at*;go_enter Tryz.func132,Tryz.ntmps132
 go_wp2_with fail
 generalize (W.alloc (.cells #[.string xk,.int .u64 xs,.bool xg,.slice xa xl xc] 60)).alloc (.cells #[.string yk,.int .u64 ys,.bool yg,.slice ya yl yc] 60)=w0 at*;(with_reducible refine (Hc.out _).mono ?_);rintro e w1 ⟨rfl,hg⟩;have Hg:=ae hg;clear hg;go_wp2;go_ret;exact ⟨rfl,cS.out.trans Hg.out⟩
theorem axd {N:Nat→Prop} {w:World} {v:Value} {ys:List Ev} (h:Es N w v ys) (hlen:ys.length≤1000000000) (ho:cQ (ys.map Ev.e)):
  Calls Tryz.prog 131 #[v,.func (.func 132) #[] #[]] w fun e w'=>e= .returned (.bool true)∧Grow w w':=by
 have H:=ae h;obtain ⟨va,vc,rfl⟩:=h.slice;have Ho:=ae ho;clear h ho;go_enter Tryz.func131,Tryz.ntmps131
 go_wp2_with fail
 go_loopw [5] (fun iv wr=>∃ i:Nat,iv= .int .i64 (i:Int)∧1≤i∧Grow w wr) (fun iv _=>ys.length-(intOf iv).toNat)
 case atStart=>exact ⟨1,rfl,ay _,Grow.refl _⟩
 case round=>
  obtain ⟨i,rfl,hi,hg⟩:=hrel;by_cases hlt:i<ys.length
  ·obtain ⟨k,hk⟩:∃ k,i=k+1:=⟨i-1,by omega⟩
   obtain ⟨x,b,o,c,xa,xc,hx,hv,hb,dm,vF,c0,c1,c2,c3⟩:=H.out.read hg (show k<ys.length by omega);obtain ⟨y,b',o',c',ya,yc,hy,hv',hb',ir,vG,e0,e1,e2,e3⟩:=H.out.read hg hlt;cases hv;cases hv';have zU:decide (fH x.e y.e<0)=true:=by
    rw [decide_eq_true_eq,Cu];have h:=List.pairwise_iff_getElem.1 Ho.out k i (by simp;omega) (by simpa using hlt) (by omega);rw [List.getElem_map,List.getElem_map] at h;rw [List.getElem?_eq_getElem (by omega)] at hx hy;rw [bB hx,bB hy] at h;exact h
   have fD:=fun W=>axc x y dm ir W
   rw [zU] at fD;have ex:bQ x=#[.string x.e.key,.int .u64 x.e.seq,.bool x.e.gone,.slice xa x.e.val.length xc]:=by rw [←dm]
   have ey:bQ y=#[.string y.e.key,.int .u64 y.e.seq,.bool y.e.gone,.slice ya y.e.val.length yc]:=by rw [←ir]
   rw [ex,ey] at fD;have jP:=ae fD;have kR:(i:Int)<(ys.length:Int):=by omega
   have Fm:IntKind.i64.wrap ((i:Int)-1)=(k:Int):=by rw [aR _ (by omega)];omega
   have aGf:IntKind.i64.wrap ((i:Int)+1)=((i+1:Nat):Int):=by rw [aR _ (by omega)];omega
   have jA:(0:Int)≤(k:Int):=by omega
   have hk2:(k:Int)<(ys.length:Int):=by omega
   have hk3:(0:Int)≤(i:Int):=by omega
   have Hg:=ae hg;have aQ:=Grow.cells (w:=wr);clear fD zU hx hy dm ir vF vG hg ex ey hk
   go_upto_region 4 with fail
   refine bX (fun V=>Below wr.heap.size wr V) [(0,false),(1,false),(2,false),(3,false),(4,false),(5,false),(6,false),(7,false),(8,false),(9,false),(10,true),(11,false)] (by kernel_rfl) (by kernel_rfl) (fun c a d v w h=>by cases d<;>exact h) (by (repeat (first|exact Below.refl _ _|assumption|refine Below.drew ?_|refine cp ?_|refine Below.setCell ?_ (by first|omega|(simp<;>omega)) _|refine Below.alloc ?_ (by first|omega|(simp<;>omega)) _))) ?_;simp only [aP,nth]
   repeat (first|(refine aB (v:= ?_) (by rfl) ?_ ?_;rotate_left;(rintro W hW;go_simp;with_reducible rfl);simp only [ag,List.set])|(refine aC (by rfl) ?_;simp only [ag,List.set]))
   clear c0 c1 c2 c3 e0 e1 e2 e3;refine bj (by rfl) (by go_simp) (jP.out _) ?_;rintro e w2 ⟨rfl,hg2⟩;have hg3:=(Grow.drew wr).trans hg2;refine ⟨_,rfl,hg3,?_⟩
   try first|simp only [ag,List.set]|simp only [aD]
   have kq:=ae (Hg.out.trans hg3);clear hg2 hg3
   repeat (first|(refine aB (v:= ?_) (by rfl) ?_ ?_;rotate_left;(rintro W hW;go_simp;with_reducible rfl);simp only [ag,List.set])|(refine aC (by rfl) ?_;simp only [ag,List.set]))
   refine bm ?_;go_wp2;go_roundw
   case rel=>exact ⟨i+1,rfl,by omega,kq.out⟩
   case measure=>simp [intOf];omega
  ·have GV:decide ((i:Int)<(ys.length:Int))=false:=by simp;omega
   go_wp2;go_ret;exact ⟨rfl,hg⟩
theorem agf {N:Nat→Prop} {w:World} {v:Value} {ys:List Ev} (h:Es N w v ys) (hlen:ys.length≤1000000000) (ho:cQ (ys.map Ev.e)) (iQ:CJ (ys.map Ev.e)):
  Calls Tryz.prog 86 #[v] w fun e w'=>e= .returned (.bool true)∧Grow w w':=by
 have H:=ae h;obtain ⟨va,vc,rfl⟩:=h.slice;have Hp:=ae (fun (W:World) (hg:Grow w W)=>axd (h.grow hg) hlen ho);have Hgn:=ae iQ;clear h ho iQ;go_enter Tryz.func86,Tryz.ntmps86
 go_wp2_with fail
 go_loopw [7] (fun iv wr=>∃ i:Nat,iv= .int .i64 (i:Int)∧i≤ys.length∧Grow w wr) (fun iv _=>ys.length-(intOf iv).toNat)
 case atStart=>exact ⟨0,rfl,bk _,Grow.refl _⟩
 case round=>
  obtain ⟨i,rfl,hi,hg⟩:=hrel;by_cases hlt:i<ys.length
  ·obtain ⟨x,b,o,c,xa,xc,hx,hv,hb,dm,vF,c0,c1,c2,c3⟩:=H.out.read hg hlt
   cases hv;have dJ:(i:Int)<(ys.length:Int):=by omega
   have bK:(0:Int)≤(i:Int):=by omega
   have eE:IntKind.i64.wrap ((i:Int)+1)=((i+1:Nat):Int):=by rw [aR _ (by omega)];omega
   have Hg:=ae (hg.trans (Grow.alloc wr (.cells #[.string x.e.key,.int .u64 x.e.seq,.bool x.e.gone,.slice xa x.e.val.length xc] 60)));have hgo:=Hgn.out x.e (List.mem_map.2 ⟨x,dY hx,rfl⟩);clear hx dm vF hg;obtain ⟨⟨xk,xs,xg,xd⟩,xv⟩:=x;simp only at*;cases xg with
   |true=>
    have hxd:xd= []:=hgo rfl;subst hxd;clear hgo;go_wp2;go_roundw
    case rel=>exact ⟨i+1,rfl,hlt,Hg.out⟩
    case measure=>simp [intOf];omega
   |false=>
    clear hgo;go_wp2;go_roundw
    case rel=>exact ⟨i+1,rfl,hlt,Hg.out⟩
    case measure=>simp [intOf];omega
  ·obtain rfl:i=ys.length:=by omega
   have Hp':=ae (Hp.out wr hg);have Hg:=ae hg;clear hg
   go_wp2_with fail
   (with_reducible refine Hp'.out.mono ?_);rintro e w1 ⟨rfl,hg1⟩;have dK:=ae hg1;clear hg1;go_wp2;go_ret;exact ⟨rfl,Hg.out.trans dK.out⟩
theorem aG.CX {B:Nat} {w w':World} {v:Value} {l:List UInt8} (h:aG B w v l) {o:Option Nat} (hg:w.grownBy w' o) (ho:∀ g,o=some g→∃ t cur,w.heap[g]?=some (.cells cur t (0,0))∧t≠5):aG B w' v l:=
 h.keep (fun b hb=>hg.block b (h.lt hb).2 (fun he=>by
  obtain ⟨t,cur,h1,h2⟩:=ho b he.symm;obtain ⟨cur',h3⟩:=h.block hb;rw [h3] at h1;cases h1;exact h2 rfl))
theorem fU.keep {B:Nat} {w w':World} {v:Value} {xs:List Bk} (h:fU B w v xs) (hk:∀ g,v.ownBlock=some g→w'.heap[g]?=w.heap[g]?):fU B w' v xs:=by
 refine ⟨h.1,?_⟩;rcases h.2 with h1|⟨g,cap,cur,h1,h2,h3,h4⟩
 ·exact .inl h1
 ·exact .inr ⟨g,cap,cur,h1,h2,by rw [hk g (by rw [h1];rfl)];exact h3,h4⟩
theorem fU.axg {B B':Nat} {w w':World} {v u:Value} {xs:List Bk} {l:List UInt8} (h:fU B w v xs) (hu:aG B' w u l) (hg:w.grownBy w' u.ownBlock):fU B w' v xs:=
 h.keep fun g hb=>by
  obtain ⟨_,h2,cur,h3⟩:=h.lt hb;refine hg.block g h2 (fun he=> ?_);obtain ⟨cur',h4⟩:=hu.block he.symm;rw [h3] at h4;exact absurd (cA (bB h4)).2.1 (by decide)
theorem VE (g:List En):(fj g).length≤(aZ g).length+14:=by
 have h1:=kT aq (aZ g);have h2:=cf (aZ g).length;unfold fj;omega
theorem agh (gs:List (List En)):(gs.map fun g=>(aZ g).length).sum=(aZ gs.flatten).length:=by
 induction gs with
 |nil=>rfl
 |cons g gs ih=>rw [List.map_cons,List.sum_cons,List.flatten_cons,qQ,List.length_append,ih]
theorem Fx (gs:List (List En)):(bN gs).length≤(aZ gs.flatten).length+14*gs.length:=by
 induction gs with
 |nil=>simp [bN]
 |cons g gs ih=>
  have h:=VE g;rw [List.flatten_cons,qQ,List.length_append];simp only [bN,List.flatMap_cons,List.length_append,List.length_cons] at*;omega
theorem VF {g:List En} (hg:g≠ []):(jX g).size≤(aZ g).length:=by
 cases g with
 |nil=>exact absurd rfl hg
 |cons e r=>
  have:aZ (e::r)=nH e++aZ r:=by simp [aZ]
  rw [this];simp only [jX,nH,aU,List.length_append,Array.length_toList];show e.key.data.size≤_;omega
theorem OZ:∀ (gs:List (List En)) (k:Nat),(∀ g∈gs,g≠ [])→((kH k gs).flatMap mI).length≤(aZ gs.flatten).length+30*gs.length
 | [],_,_=>by simp [kH]
 |g::gs,k,h=>by
  have h1:=OZ gs (k+(fj g).length) (fun x hx=>h x (gz _ hx));have h2:=avz ⟨jX g,k,(fj g).length⟩;have h3:=VF (h g (eQ ..));rw [List.flatten_cons,qQ,List.length_append];simp only [kH,List.flatMap_cons,List.length_append,List.length_cons] at*;omega
theorem VG:∀ (gs:List (List En)) (k:Nat),(∀ g∈gs,g≠ []∧(aZ g).length≤60000000)→k+(bN gs).length<1000000000000→∀ x∈kH k gs,aeO x
 | [],_,_,_,x,hx=>by cases hx
 |g::gs,k,h,hk,x,hx=>by
  have hb:(bN (g::gs)).length=(fj g).length+(bN gs).length:=by simp [bN]
  rw [hb] at hk;rcases List.mem_cons.1 hx with rfl|hx
  ·have h3:=VF (h g (eQ ..)).1
   have h4:=(h g (eQ ..)).2;exact ⟨aN h3 (by omega),by show k<_;omega,by show (fj g).length<_;omega⟩
  ·exact VG gs _ (fun y hy=>h y (gz _ hy)) (by omega) x hx
theorem Kr (size:Nat):∀ (l cur:List En),(dM size cur l).length≤l.length
 | [],_=>by simp [dM]
 |e::r,cur=>by
  unfold dM;split
  ·have:=Kr size r [];simp;omega
  ·have:=Kr size r (cur++ [e]);simp;omega
theorem axh {g:List En} (h:g≠ []) (r:List En):jX (g++r)=jX g:=by
 cases g with
 |nil=>exact absurd rfl h
 |cons e g=>rfl
theorem axi {l:List En}:(aZ l).length=0↔l= []:=⟨fun h=>auF (jb h),fun h=>by rw [h];rfl⟩
structure CY (w:World) (size:Nat) (l:List En) (gs:List (List En)) (cur:List En) (i:Nat) (ov pv kv fv:Value) (wr:World):Prop where
 le:i≤l.length
 cut:gs.flatten++cur=l.take i
 ne:∀ g∈gs,g≠ []
 VH:dM size [] l=gs++dM size cur (l.drop i)
 nl:gs.length≤i
 last:i=l.length→cur= []
 out:aG w.heap.size wr ov (bN gs)
 pay:aG w.heap.size wr pv (aZ cur)
 Pa:fU w.heap.size wr kv (kH 0 gs)
 first:cur≠ []→fv= .string (jX cur)
 txt:∃ s,fv= .string s
 grow:Grow w wr
def Pc (w:World) (size:Nat) (l:List En) (ov pv kv fv iv:Value) (wr:World):Prop:=∃ (gs:List (List En)) (cur:List En) (i:Nat),iv= .int .i64 (i:Int)∧CY w size l gs cur i ov pv kv fv wr
theorem CY.more {w:World} {size:Nat} {l:List En} {gs:List (List En)} {cur:List En} {i:Nat} {ov pv kv fv:Value} {wr wr':World} (h:CY w size l gs cur i ov pv kv fv wr) {e:En} (he:l[i]?=some e)
  (hs:¬ size≤(aZ (cur++ [e])).length) (hl:i+1≠l.length) (hg:Grow wr wr') {pv':Value} (hp:aG w.heap.size wr' pv' (aZ (cur++ [e]))):CY w size l gs (cur++ [e]) (i+1) ov pv' kv (.string (jX (cur++ [e]))) wr':=by
 obtain ⟨hi,sW⟩:=dQ.1 he;refine ⟨hi,?_,h.ne,?_,Nat.le_succ_of_le h.nl,fun hh=>absurd hh hl,h.out.grow hg,hp,h.Pa.grow hg,fun _=>rfl,⟨_,rfl⟩,h.grow.trans hg⟩
 ·rw [List.take_succ_eq_append_getElem hi,←h.cut,List.append_assoc,sW]
 ·rw [h.VH,List.drop_eq_getElem_cons hi,sW,dM,if_neg (fun hh=> ?_)]
  rcases hh with hh|hh
  ·exact hs hh
  ·have:=congrArg List.length hh
   rw [List.length_drop,List.length_nil] at this;omega
theorem CY.lay {w:World} {size:Nat} {l:List En} {gs:List (List En)} {cur:List En} {i:Nat} {ov pv kv fv:Value} {wr wr':World} (h:CY w size l gs cur i ov pv kv fv wr) {e:En} (he:l[i]?=some e)
  (hs:size≤(aZ (cur++ [e])).length∨i+1=l.length) {qX kv':Value} (ho:aG w.heap.size wr' qX (bN (gs++ [cur++ [e]]))) (hk:fU w.heap.size wr' kv' (kH 0 (gs++ [cur++ [e]]))) (hg:Grow w wr') (s:ByteArray):
  CY w size l (gs++ [cur++ [e]]) [] (i+1) qX (.slice none 0 0) kv' (.string s) wr':=by
 obtain ⟨hi,sW⟩:=dQ.1 he;refine ⟨hi,?_,?_,?_,?_,fun _=>rfl,ho,mi _ _ _,hk,fun hh=>absurd rfl hh,⟨_,rfl⟩,hg⟩
 ·rw [List.take_succ_eq_append_getElem hi,←h.cut,List.append_nil,List.flatten_append,sW];simp
 ·intro g eA
  rcases List.mem_append.1 eA with h1|h1
  ·exact h.ne g h1
  ·rw [cY.1 h1];simp
 ·rw [h.VH,List.drop_eq_getElem_cons hi,sW,dM,if_pos ?_,List.append_assoc]
  ·rfl
  ·rcases hs with hs|hs
   ·exact .inl hs
   ·right;apply jb;rw [List.length_drop];omega
 ·rw [List.length_append,List.length_singleton];have:=h.nl;omega
theorem VI {x:Nat}:∀ {l:List Nat},x∈l→x≤l.sum
 | [],h=>by cases h
 |y::l,h=>by
  rw [List.sum_cons];rcases List.mem_cons.1 h with rfl|h
  ·omega
  ·have:=VI h;omega
theorem axj (l:List En) (i:Nat):(aZ (l.take i)).length≤(aZ l).length:=by
 have h:=qQ (l.take i) (l.drop i);rw [List.take_append_drop] at h;rw [h,List.length_append];omega
theorem VJ {w:World} {B:Nat} {bv:Value} {l:List UInt8} (h:aG B w bv l) (hB:B≤w.heap.size) (hl:l.length≤1000000000000) (v0:Nat) (hv:v0<18446744073709551616):
 Calls Tryz.prog 160 #[bv,.int .u64 v0,.int .i64 8] w fun e w'=>∃ v,e= .returned v∧aG B w' v (l++cm 8 v0)∧Below B w w':=aeh h hB hl v0 hv (n:=8) (by decide)
theorem axk {w:World} {B:Nat} {bv:Value} {l:List UInt8} (h:aG B w bv l) (hB:B≤w.heap.size) (hl:l.length≤1000000000000) (v0:Nat) (hv:v0<18446744073709551616):
 Calls Tryz.prog 160 #[bv,.int .u64 v0,.int .i64 4] w fun e w'=>∃ v,e= .returned v∧aG B w' v (l++cm 4 v0)∧Below B w w':=aeh h hB hl v0 hv (n:=4) (by decide)
theorem axl {N:Nat→Prop} {w:World} {v:Value} {ys:List Ev} (h:Es N w v ys) (hlen:ys.length≤1000000) (ho:cQ (ys.map Ev.e)) (iQ:CJ (ys.map Ev.e)) {size:Nat} (hz1:1≤size) (hz2:size≤67108864)
  (Ag:∀ y∈ys,y.e.key.size≤65535∧y.e.seq<18446744073709551616∧y.e.val.length≤33554432) (mQ:(aZ (ys.map Ev.e)).length+30*ys.length≤50000000):
  Calls Tryz.prog 109 #[v,.int .i64 size] w fun e w'=>∃ v',e= .returned (.tuple #[v',.int .i64 0])∧aG w.heap.size w' v' (fN (dM size [] (ys.map Ev.e)) ys.length (dn (ys.map Ev.e)))∧Grow w w':=by
 have H:=ae h;have HK:=ae Ag;have Hr:=ae (agf h (by omega) ho iQ);obtain ⟨va,vc,rfl⟩:=h.slice;have hs1:decide ((size:Int)<1)=false:=by simp;omega
 have hs2:decide ((67108864:Int)<(size:Int))=false:=by simp;omega
 clear h Ag ho iQ;go_enter Tryz.func109,Tryz.ntmps109
 go_wp2_with fail
 (with_reducible refine Hr.out.mono ?_);rintro e w1 ⟨rfl,hg1⟩;have hE1:=H.out.grow hg1;have HE:=ae hE1;have dK:=ae hg1;have oJ:=ae (show (ys.map Ev.e).length=ys.length from List.length_map ..);have bI:Hid (Pc w1 size (ys.map Ev.e) (.slice none 0 0) (.slice none 0 0) (.slice none 0 0) (.string ⟨#[]⟩) (.int .i64 0) w1):=ae ⟨[],[],0,rfl,bk _,rfl,(fun _ h=>by cases h),by simp,ay _,fun _=>rfl,mi _ _ _,mi _ _ _,aeL _ _,(fun h=>absurd rfl h),⟨_,rfl⟩,Grow.refl _⟩;clear hg1 hE1 hs1 hs2 Hr
 go_wp2_with fail
 go_loopw [6,7,8,9,29] (fun ov pv kv fv iv wr=>Pc w1 size (ys.map Ev.e) ov pv kv fv iv wr) (fun _ _ _ _ iv _=>ys.length-(intOf iv).toNat)
 case atStart=>exact bI.out
 case round=>
  obtain ⟨gs,cur,i,rfl,hI⟩:=hrel;have hi:=hI.le;rw [oJ.out] at hi;obtain ⟨oa,oc,rfl⟩:=hI.out.slice;obtain ⟨pa,pc,rfl⟩:=hI.pay.slice;obtain ⟨ka,kc,rfl⟩:=hI.Pa.slice;obtain ⟨fs,rfl⟩:=hI.txt;rw [qT];by_cases hlt:i<ys.length
  ·obtain ⟨x,b,o,c,xa,xc,hx,hv,hb,dm,vF,c0,c1,c2,c3⟩:=HE.out.read hI.grow hlt
   cases hv;obtain ⟨kx1,kx2,kx3⟩:=HK.out x (dY hx);have dJ:(i:Int)<(ys.length:Int):=by omega
   have bK:(0:Int)≤(i:Int):=by omega
   have eE:IntKind.i64.wrap ((i:Int)+1)=((i+1:Nat):Int):=by rw [aR _ (by omega)];omega
   have kD:IntKind.i64.wrap ((ys.length:Int)-1)=((ys.length-1:Nat):Int):=by rw [aR _ (by omega)];omega
   have iH:(ys.map Ev.e)[i]?=some x.e:=by rw [List.getElem?_map,hx];rfl
   have ot:(aZ (cur++ [x.e])).length≤(aZ (ys.map Ev.e)).length:=by
    have e1:aZ (ys.map Ev.e)=aZ ((ys.map Ev.e).take (i+1))++aZ ((ys.map Ev.e).drop (i+1)):=by rw [←qQ,List.take_append_drop]
    have e2:(ys.map Ev.e).take (i+1)=gs.flatten++(cur++ [x.e]):=by
     rw [List.take_add_one,iH,←hI.cut];simp
    have e3:=congrArg List.length e1;rw [e2,qQ gs.flatten,List.length_append,List.length_append] at e3;omega
   have hbl:(bN gs).length≤70000000:=by
    have e1:=Fx gs;have e2:(aZ gs.flatten).length≤(aZ (ys.map Ev.e)).length:=by
     have e3:=axj (ys.map Ev.e) i;rw [←hI.cut,qQ,List.length_append] at e3;omega
    have:=hI.nl;omega
   have k1:decide ((65535:Int)<(x.e.key.size:Int))=false:=by simp;omega
   have k3:decide ((33554432:Int)<(x.e.val.length:Int))=false:=by simp;omega
   have agm:=aw wr (.cells #[.string x.e.key,.int .u64 x.e.seq,.bool x.e.gone,.slice xa x.e.val.length xc] 60);have ai:=Grow.alloc wr (.cells #[.string x.e.key,.int .u64 x.e.seq,.bool x.e.gone,.slice xa x.e.val.length xc] 60);have HI:=ae hI;have Hxe:=ae iH;have Hxi:=ae (vF.grow ai);have Hxv:=ae dm;have bT:=ae ai;have gS:=ae agm;have VK:=ae ot;clear hI iH vF dm ai agm ot hx
   go_upto_region 13 with fail
   generalize wr.alloc (.cells #[.string x.e.key,.int .u64 x.e.seq,.bool x.e.gone,.slice xa x.e.val.length xc] 60)=w2 at*;clear c0 c1 c2 c3 hb;obtain ⟨eb,py⟩:∃ eb,eb=wr.heap.size:=⟨_,rfl⟩
   rw [←py] at gS ⊢;clear py;obtain ⟨t0,t1,t2,t3⟩:=cK gS.out;have Ea:=af gS.out
   go_upto_if 46 with fail
   go_cut [9] from 47 to 48 (fun fv wx=>fv= .string (jX (cur++ [x.e]))∧wx=w2)
   case first=>
    by_cases hc:cur= []
    ·have e0:(((aZ cur).length:Int)==0)=true:=by rw [hc];rfl
     have hf:Hid (jX (cur++ [x.e])=x.e.key):=ae (by rw [hc];rfl);clear hc;go_wp2;go_meet;exact ⟨by rw [hf.out],rfl⟩
    ·have e0:(((aZ cur).length:Int)==0)=false:=by
      have:(aZ cur).length≠0:=fun h=>hc (axi.1 h)
      simp only [beq_eq_false_iff_ne,ne_eq];omega
     have hf:Hid ((Value.string fs)= .string (jX (cur++ [x.e]))):=ae (by rw [HI.out.first hc,axh hc]);clear hc;go_wp2;go_meet;exact ⟨hf.out,rfl⟩
   case rest=>
    obtain ⟨rfl,hwc⟩:=hcut;have hwc':=hwc.symm;subst hwc';clear hwc;have ago:=HI.out.pay.grow bT.out;have vO:=avA (cy ago) (by have:=VK.out;rw [qQ,List.length_append] at this;omega) Hxi.out (by omega) (by omega) (by omega);rw [show aZ cur++nH x.e=aZ (cur++ [x.e]) by rw [qQ,auE]] at vO;have ex:bQ x=#[.string x.e.key,.int .u64 x.e.seq,.bool x.e.gone,.slice xa x.e.val.length xc]:=by rw [←Hxv.out]
    rw [ex] at vO;have CZ:=ae vO;clear vO ago ex
    go_wp2_with fail
    (with_reducible refine CZ.out.mono ?_);rintro e w3 ⟨pv,rfl,hop,hg3⟩;have hG3:=HI.out.grow.trans (bT.out.trans hg3);have VL:aG w1.heap.size w3 pv (aZ (cur++ [x.e])):=hop.mono (HI.out.grow.trans bT.out).size;obtain ⟨qa,qc,rfl⟩:=VL.slice;have Hop:=ae VL;have Ai:=ae hG3;have kq:=ae (bT.out.trans hg3);clear hop VL hG3 hg3 CZ t0 t1 t2 t3 Ea
    go_upto_region 16 with fail
    go_cut [62] from 52 to 62 (fun fv wx=>fv= .bool (decide (size≤(aZ (cur++ [x.e])).length∨i+1=ys.length))∧wx=w3)
    case first=>
     by_cases h1:size≤(aZ (cur++ [x.e])).length
     ·have d1:decide (size≤(aZ (cur++ [x.e])).length)=true:=decide_eq_true h1
      have hr:Hid (decide (size≤(aZ (cur++ [x.e])).length∨i+1=ys.length)=true):=ae (decide_eq_true (.inl h1));go_wp2;go_meet;exact ⟨by rw [hr.out],rfl⟩
     ·have d1:decide (size≤(aZ (cur++ [x.e])).length)=false:=decide_eq_false h1
      obtain ⟨bb,cZ⟩:∃ bb,((i:Int)==((ys.length-1:Nat):Int))=bb:=⟨_,rfl⟩
      have hr:Hid (decide (size≤(aZ (cur++ [x.e])).length∨i+1=ys.length)=bb):=ae (by
       rw [←cZ,Bool.eq_iff_iff,decide_eq_true_eq,beq_iff_eq];constructor
       ·rintro (h|h)
        ·exact absurd h h1
        ·omega
       ·intro h;right;omega)
      go_wp2;go_meet;exact ⟨by rw [hr.out],rfl⟩
    case rest=>
     obtain ⟨rfl,hwc⟩:=hcut;have hwc':=hwc.symm;subst hwc';clear hwc;by_cases dA:size≤(aZ (cur++ [x.e])).length∨i+1=ys.length
     ·have hd:=decide_eq_true dA
      rw [hd];have pM:=ae dA;have eu:=Bf (cy Hop.out) (by have:=VK.out;omega);have oX:=ae eu;clear hd dA eu
      go_wp2_with fail
      (with_reducible refine oX.out.mono ?_);rintro e w4 ⟨bv,rfl,iW,hg4⟩;have Pd:fU w1.heap.size w4 (.slice ka gs.length kc) (kH 0 gs):=by
       have h1:=HI.out.Pa.grow (kq.out.trans hg4);rw [qT] at h1;exact h1
      have hout:=HI.out.out.grow (kq.out.trans hg4);obtain ⟨kg,VM,w5,hrun,xE,nz⟩:=aeM Pd ⟨jX (cur++ [x.e]),(bN gs).length,(fj (cur++ [x.e])).length⟩ (Ai.out.trans hg4).size (by rw [qT];have:=HI.out.nl;omega);rw [qT] at hrun xE;dsimp only [Fi,fj] at hrun;have dC:=ae hrun;obtain ⟨fa,fc,rfl⟩:=iW.slice;have xy:∀ g,(Value.slice ka gs.length kc).ownBlock=some g→∃ t cur,w4.heap[g]?=some (.cells cur t (0,0))∧t≠5:=fun g hg=>by
       obtain ⟨_,_,cu,h3⟩:=Pd.lt hg;exact ⟨_,cu,h3,by decide⟩
      have Pe:=aG.CX hout nz xy;have Nf:aG w1.heap.size w5 (.slice fa (fj (cur++ [x.e])).length fc) (fj (cur++ [x.e])):=Row1.mono (aG.CX iW nz xy) Ai.out.size;have VN:w1.heap.size≤w4.heap.size:=(Ai.out.trans hg4).size;have EA:Grow w1 w5:=Below.grown (Ai.out.trans hg4) nz VN (fun g hg=>(Pd.lt hg).1);have Ks:=VE (cur++ [x.e]);have axo:=VK.out;obtain ⟨qX,w6,r1,r2,r3,_⟩:=qh Pe (cy Nf) (aN VN nz.size) (by omega);have tG:=xE.axg Pe r3;have hrel:Pc w1 size (ys.map Ev.e) qX (.slice none 0 0) (.slice (some ⟨kg,0,none⟩) (gs.length+1) VM) (.string (jX (cur++ [x.e]))) (.int .i64 ((i+1:Nat):Int)) w6:=by
       refine ⟨_,_,_,rfl,HI.out.lay Hxe.out (by rw [oJ.out];exact pM.out) ?_ ?_ (Below.grown EA r3 EA.size (fun g hg=>(Pe.lt hg).1)) _⟩
       ·rw [JJ];simpa [bN] using r2
       ·rw [UQ,Nat.zero_add];exact tG
      have bq:=ae hrel;have VO:=ae r1;obtain ⟨CE,xL,CF,rfl⟩:∃ a L c,qX= .slice a L c:=by obtain ⟨a,c,h⟩:=r2.slice;exact ⟨_,_,_,h⟩
      clear Pd hout hrun xE nz iW xy Pe Nf VN EA Ks axo r1 r2 r3 tG hrel hg4 oX
      go_upto_region 19 with (at_builtin;refine fC rfl rfl rfl rfl dC.out ?_)
      go_wp2_with (at_builtin;refine fC rfl rfl rfl rfl VO.out ?_)
      go_roundw
      case rel=>exact bq.out
      case measure=>simp [intOf];omega
     ·have hd:=decide_eq_false dA
      rw [hd];have hrel:Pc w1 size (ys.map Ev.e) (.slice oa (bN gs).length oc) (.slice qa (aZ (cur++ [x.e])).length qc) (.slice ka gs.length kc) (.string (jX (cur++ [x.e]))) (.int .i64 ((i+1:Nat):Int)) w3:=by
       have h1:=HI.out.more Hxe.out (fun h=>dA (.inl h)) (fun h=>dA (.inr (by rw [oJ.out] at h;exact h))) kq.out Hop.out;rw [qT] at h1;exact ⟨_,_,_,rfl,h1⟩
      have bq:=ae hrel;clear hd dA hrel;go_wp2;go_roundw
      case rel=>exact bq.out
      case measure=>simp [intOf];omega
  ·obtain rfl:i=ys.length:=by omega
   have rX:cur= []:=hI.last (by rw [oJ.out]);subst rX;have ej:dM size [] (ys.map Ev.e)=gs:=by
    have h1:=hI.VH;rw [List.drop_of_length_le (by rw [oJ.out];exact ay _)] at h1;simpa [dM] using h1
   have hne:=hI.ne;have iB:=hI.nl;have fu:gs.flatten=ys.map Ev.e:=by
    have h1:=hI.cut;rw [List.append_nil,List.take_of_length_le (by rw [oJ.out];exact ay _)] at h1;exact h1
   have dR:=OZ gs 0 hne;rw [fu] at dR;have hbl:=Fx gs;rw [fu] at hbl;have Fy:∀ g∈gs,(aZ g).length≤(aZ (ys.map Ev.e)).length:=fun g hg=>by
    rw [←fu,←agh];exact VI (List.mem_map.2 ⟨g,hg,rfl⟩)
   have jU:=VG gs 0 (fun g hg=>⟨hne g hg,by have:=Fy g hg;omega⟩) (by omega);have nX:=aeP hI.Pa jU (by rw [qT];omega) (by omega);rw [CD] at nX;rw [CD] at dR;rw [qT] at nX;have zY:=ae nX;have hout:=hI.out;have agq:=ae hout;have HgI:=ae (dK.out.trans hI.grow);have VP:=ae hI.grow;have Kt:=ae ej;clear hI nX Fy jU hne fu hout ej
   go_wp2_with fail
   (with_reducible refine zY.out.mono ?_);rintro e w2 ⟨xv,rfl,oK,hg2⟩;have oD:=Bf (cy oK) (by omega);have Fz:=ae oD;obtain ⟨CE,CF,rfl⟩:=oK.slice;clear oD oK zY
   go_wp2_with fail
   (with_reducible refine Fz.out.mono ?_);rintro e w3 ⟨fv,rfl,qY,hg3⟩;have kX:=agq.out.grow (hg2.trans hg3);have axp:=kT aq (iR 0 gs);have axq:=cf (iR 0 gs).length;obtain ⟨qX,w4,r1,r2,r3,_⟩:=qh kX (cy qY) (VP.out.trans (hg2.trans hg3)).size (by omega);have VQ:aG w1.heap.size w4 qX (dz gs):=r2;have Ez:Grow w1 w4:=Below.grown (VP.out.trans (hg2.trans hg3)) r3 (VP.out.trans (hg2.trans hg3)).size (fun g hg=>(kX.lt hg).1);have hbd:(dz gs).length≤140000000:=by unfold dz;rw [List.length_append];omega
   have FA:=afe (HE.out.grow Ez) hlen (fun y hy=>by have:=(HK.out y hy).1;omega);have axr:=ae r1;have Hb4:=ae VQ;have FB:=ae Ez;have Ku:=ae FA;obtain ⟨fa,fc,rfl⟩:=qY.slice;obtain ⟨ba,bc,rfl⟩:=VQ.slice;clear r1 r2 VQ r3 Ez FA kX qY hg2 hg3 Fz agq;have aGl:(bN gs).length≤(dz gs).length:=by unfold dz;rw [List.length_append];omega
   clear axp axq hbl dR
   go_upto_region 25 with (at_builtin;refine fC rfl rfl rfl rfl axr.out ?_)
   go_wp2_with fail
   (with_reducible refine Ku.out.mono ?_);rintro e w5 ⟨xv,rfl,oK,aO⟩;have dA:=JW (ys.map Ev.e);have hfn:fP (ys.map Ev.e)≤2000000:=by
    have:=Fl (ys.map Ev.e) (ys.map Ev.e).length;rw [oJ.out] at this;unfold fP;rw [oJ.out];omega
   rw [←dA] at hfn;clear dA;have oD:=Bf (cy oK) (by omega);have Fz:=ae oD;obtain ⟨CE,CF,rfl⟩:=oK.slice;clear oD oK Ku
   go_wp2_with fail
   (with_reducible refine Fz.out.mono ?_);rintro e w6 ⟨fv,rfl,qY,cM⟩;have kC:=Hb4.out.grow (aO.trans cM);have hb6:(bw aq (dn (ys.map Ev.e))).length≤3000000:=by
    have h1:=kT aq (dn (ys.map Ev.e));have h2:=cf (dn (ys.map Ev.e)).length;omega
   obtain ⟨qX,w7,r1,r2,r3,_⟩:=qh kC (cy qY) (FB.out.trans (aO.trans cM)).size (by omega);have hG7:Grow w1 w7:=Below.grown (FB.out.trans (aO.trans cM)) r3 (FB.out.trans (aO.trans cM)).size (fun g hg=>(kC.lt hg).1);have Pf:(dz gs++bw aq (dn (ys.map Ev.e))).length≤150000000:=by rw [List.length_append];omega
   obtain ⟨Y,hY⟩:∃ Y,Y=dz gs++bw aq (dn (ys.map Ev.e)):=⟨_,rfl⟩
   rw [←hY] at r2 Pf;have HY:=ae hY;clear hY;have VO:=ae r1;have Ov:=ae r2;have Fk:=ae hG7;obtain ⟨fa,fc,rfl⟩:=qY.slice;obtain ⟨ba,bc,rfl⟩:=r2.slice;have ags:=VJ (B:=w7.heap.size) (bv:= .slice none 0 0) (l:= []) (mi _ _ _) (ay _) (by simp) (bN gs).length (by omega);have agt:=ae ags;have wu1:=tW (n:=(bN gs).length) (by omega);have wu2:=tW (n:=(dz gs).length) (by omega);have wu3:=tW (n:=ys.length) (by omega);clear r1 r2 r3 hG7 kC qY aO cM Fz hb6 hfn ags
   go_upto_region 26 with (at_builtin;refine fC rfl rfl rfl rfl VO.out ?_)
   go_wp2_with fail
   (with_reducible refine agt.out.mono ?_);rintro e w8 ⟨ev,rfl,pF,cx⟩;have agu:=VJ pF cx.size (by simp [kQ]) (dz gs).length (by omega);have agv:=ae agu;have oy:=ae cx;obtain ⟨ea,eL,ec,rfl⟩:∃ a L c,ev= .slice a L c:=by obtain ⟨a,c,h⟩:=pF.slice;exact ⟨_,_,_,h⟩
   clear agu pF cx agt
   go_wp2_with fail
   (with_reducible refine agv.out.mono ?_);rintro e w9 ⟨ev,rfl,VR,fW⟩;have vy:Below w7.heap.size w7 w9:=oy.out.trans fW;have agw:=VJ VR vy.size (by simp [kQ]) ys.length (by omega);have agx:=ae agw;have Hg9:=ae vy;obtain ⟨ea,eL,ec,rfl⟩:∃ a L c,ev= .slice a L c:=by obtain ⟨a,c,h⟩:=VR.slice;exact ⟨_,_,_,h⟩
   clear agw VR fW vy agv oy
   go_wp2_with fail
   (with_reducible refine agx.out.mono ?_);rintro e lZ ⟨ev,rfl,vk,Aj⟩;rw [show []++cm 8 (bN gs).length++cm 8 (dz gs).length++cm 8 ys.length=iq (bN gs).length (dz gs).length ys.length by simp [iq]] at vk;have Kv:Grow w7 lZ:=Hg9.out.trans Aj;have hend:=Oa (bN gs).length (dz gs).length ys.length;obtain ⟨E,hE⟩:∃ E,E=iq (bN gs).length (dz gs).length ys.length:=⟨_,rfl⟩
   rw [←hE] at vk hend;have uV:E.length≤24:=by omega
   clear hend;have HE2:=ae hE;clear hE;have VS:=Ov.out.grow Kv;obtain ⟨qX,qZ,r1,r2,r3,_⟩:=qh VS (cy vk) (Fk.out.trans Kv).size (by omega);have agz:Grow w1 qZ:=Below.grown (Fk.out.trans Kv) r3 (Fk.out.trans Kv).size (fun g hg=>(VS.lt hg).1);have agA:aG w7.heap.size qZ ev E:=vk.keep (fun g hg=>r3.block g (vk.lt hg).2 (fun e=>by
    have h1:=(Ov.out.lt e.symm).2;have h2:=(vk.lt hg).1;omega))
   have Iz:=ae r1;have axv:=ae r2;have VT:=ae agz;obtain ⟨ea,ec,rfl⟩:=vk.slice;have NS:=aw qZ (.cells #[.slice ea E.length ec] 49);have my:=Grow.alloc qZ (.cells #[.slice ea E.length ec] 49);have hsu:=My NS ((cy agA).grow my);have Hsu:=ae hsu;have Pg:=ae my;have aGm:=yH E;have wus:=tW (n:=dB aq E) (by omega);obtain ⟨oa2,oL2,oc2,rfl⟩:∃ a L c,qX= .slice a L c:=by obtain ⟨a,c,h⟩:=r2.slice;exact ⟨_,_,_,h⟩
   clear r1 r2 r3 agz agA vk Aj Kv VS NS my hsu agx Hg9 wu1 wu2 wu3
   go_upto_region 27 with fail
   go_wp2_with (at_builtin;refine fC rfl rfl rfl rfl Iz.out ?_)
   (with_reducible refine Hsu.out.mono ?_);rintro e w13 ⟨rfl,jS⟩;generalize Kw:dB aq E=SM at*;have HSM:=ae Kw;have agE:=axk (w:=w13) (B:=w13.heap.size) (bv:= .slice none 0 0) (l:= []) (mi _ _ _) (ay _) (by simp) SM (by omega);have agF:=ae agE;have Ak:=ae (Pg.out.trans jS);clear agE jS Kw Hsu
   go_wp2_with fail
   (with_reducible refine agF.out.mono ?_);rintro e w14 ⟨lv,rfl,VU,oG⟩;have Ky:Grow qZ w14:=Ak.out.trans oG;have VV:=axv.out.grow Ky;have ml:(cm 4 SM).length=4:=kQ 4 SM;obtain ⟨qX,w15,r1,r2,r3,_⟩:=qh VV (cy VU) (VT.out.trans Ky).size (by simp only [List.length_append,List.nil_append,ml];omega);have agH:Grow w1 w15:=Below.grown (VT.out.trans Ky) r3 (VT.out.trans Ky).size (fun g hg=>(VV.lt hg).1);have hres:aG w.heap.size w15 qX (fN (dM size [] (ys.map Ev.e)) ys.length (dn (ys.map Ev.e))):=by
    have h1:=Row1.mono r2 dK.out.size;have e:Y++E++([]++cm 4 SM)=fN (dM size [] (ys.map Ev.e)) ys.length (dn (ys.map Ev.e)):=by
     unfold fN;rw [Kt.out,HY.out,←HSM.out,HE2.out];simp only [List.append_assoc,List.nil_append]
    rw [e] at h1;exact h1
   have ct:=ae hres;have axx:=ae (dK.out.trans agH);have axy:=ae r1;obtain ⟨oa3,oL3,oc3,rfl⟩:∃ a L c,qX= .slice a L c:=by obtain ⟨a,c,h⟩:=hres.slice;exact ⟨_,_,_,h⟩
   obtain ⟨la,lL,lc,rfl⟩:∃ a L c,lv= .slice a L c:=by obtain ⟨a,c,h⟩:=VU.slice;exact ⟨_,_,_,h⟩
   clear r1 r2 r3 agH hres VV VU oG Ky ml agF
   go_wp2_with (at_builtin;refine fC rfl rfl rfl rfl axy.out ?_)
   go_ret2;exact ⟨_,rfl,ct.out,axx.out⟩
end Go.Proofs.YtoolkdapflaeeaaGreatDoor
namespace Go.Proofs.YtoolkdapflaeeaaGreatDoor
open Go.RowKit Go.Gl Go.aH Mn
abbrev FC:List UInt8:= [116,45]
theorem VW {N B:Nat} {w:World} (h:cI N B w) {n:Nat} (hn:n<N) (h6:n<1000000):
  Calls Tryz.prog 35 #[.int .i64 n] w fun e w'=>e= .returned (.string (dF n))∧Grow w w':=by
 have Hi:=ae (aaU h hn h6);have hl:=wL h6;have e3:¬ 9223372036854775807<2+(eB n).length:=by omega
 clear h;go_enter Tryz.func35,Tryz.ntmps35
 go_wp2_with fail
 (with_reducible refine Hi.out.mono ?_);rintro e w1 ⟨rfl,hg1⟩;go_wp2;go_ret;exact ⟨by rw [show (⟨#[116,45]⟩:ByteArray)=⟨(FC:List UInt8).toArray⟩ from rfl,uR];rfl,hg1⟩
structure Wv where
 x:Wr
 v:Value
def ma (y:Wv):List Value:= [.string y.x.key,.bool y.x.gone,y.v]
abbrev Kz (y:Wv):Array Value:=#[.string y.x.key,.bool y.x.gone,y.v]
theorem aGu (y:Wv):(ma y).length=3:=rfl
abbrev oL (N:Nat→Prop) (w:World) (y:Wv):Prop:=Bw N w y.v y.x.val
def Ws (N:Nat→Prop) (w:World) (v:Value) (xs:List Wv):Prop:=
 (∃ a c,v= .slice a xs.length c∧xs.length≤c∧c≤maxLen∧(a=none→c=0)∧(xs= []∨∃ b o,a=some ⟨b,o,none⟩∧N b∧b<w.heap.size∧Rd w b o ma 3 xs))∧∀ x∈xs,oL N w x
section
variable {N M:Nat→Prop} {w w' w'':World} {v:Value} {xs:List Wv}
theorem Ws.kp (h:Ws N w v xs) (k:Kp N w w'):Ws N w' v xs:=by
 obtain ⟨⟨a,c,rfl,hl,hm,hn,h⟩,h2⟩:=h;refine ⟨⟨a,c,rfl,hl,hm,hn,?_⟩,fun x hx=>(h2 x hx).kp k⟩;rcases h with h|⟨b,o,rfl,hb,hlt,hr⟩
 ·exact .inl h
 ·refine .inr ⟨b,o,rfl,hb,cj hlt k.size,fun i x hx c u hu=> ?_⟩
  rw [k.cell hb hlt];exact hr i x hx c u hu
theorem Ws.grow (h:Ws N w v xs) (hg:Grow w w'):Ws N w' v xs:=h.kp (.bF hg)
theorem Ws.mono (h:Ws N w v xs) (hM:∀ b,N b→M b):Ws M w v xs:=by
 obtain ⟨⟨a,c,rfl,hl,hm,hn,h⟩,h2⟩:=h;refine ⟨⟨a,c,rfl,hl,hm,hn,?_⟩,fun x hx=>(h2 x hx).mono hM⟩;rcases h with h|⟨b,o,rfl,hb,hlt,hr⟩
 ·exact .inl h
 ·exact .inr ⟨b,o,rfl,hM b hb,hlt,hr⟩
theorem Ws.slice (h:Ws N w v xs):∃ a c,v= .slice a xs.length c:=by
 obtain ⟨⟨a,c,h,_⟩,_⟩:=h;exact ⟨a,c,h⟩
theorem Ws.get (h:Ws N w v xs) {i:Nat} {x:Wv} (hx:xs[i]?=some x):oL N w x:=h.2 x (dY hx)
theorem Ws.addr (h:Ws N w v xs) {i:Nat} {x:Wv} (hx:xs[i]?=some x):∃ b o c,v= .slice (some ⟨b,o,none⟩) xs.length c∧N b∧b<w.heap.size∧Rd w b o ma 3 xs:=by
 obtain ⟨⟨a,c,rfl,hl,hm,hn,h⟩,h2⟩:=h;rcases h with rfl|⟨b,o,rfl,hb,hlt,hr⟩
 ·simp at hx
 ·exact ⟨b,o,c,rfl,hb,hlt,hr⟩
theorem FD {b o i:Nat} {x:Wv} (h:Rd w b o ma 3 xs) (hx:xs[i]?=some x):
  w.cell? ⟨b,o+i*3,none⟩=some (.string x.x.key)∧w.cell? ⟨b,o+i*3+1,none⟩=some (.bool x.x.gone)∧w.cell? ⟨b,o+i*3+2,none⟩=some x.v:=
 ⟨h i x hx 0 _ rfl,h i x hx 1 _ rfl,h i x hx 2 _ rfl⟩
end
def sF (g:Bool):Nat:=if g then 1 else 0
def jM (y:Wr):List UInt8:=aA (sF y.gone)++(aU y.key.data.toList++aU y.val)
def lF (seq:Nat) (l:List Wr):List UInt8:=aA seq++aA l.length++l.flatMap jM
def bD (l:List Wr):Nat:=(l.map fun y=>y.key.size+y.val.length).sum
theorem axz (y:Wr):(jM y).length≤30+(y.key.size+y.val.length):=by
 have h1:=cf (sF y.gone);have h2:=lO y.key.data.toList;have h3:=lO y.val;have e1:y.key.data.toList.length=y.key.size:=by rw [Array.length_toList];rfl
 simp only [jM,List.length_append] at*;omega
theorem Ph:∀ l:List Wr,(l.flatMap jM).length≤30*l.length+bD l
 | []=>by simp [bD]
 |y::l=>by
  have h1:=axz y;have h2:=Ph l;simp only [List.flatMap_cons,List.length_append,List.length_cons,bD,List.map_cons,List.sum_cons] at*;omega
theorem VX (seq:Nat) (l:List Wr):(lF seq l).length≤20+30*l.length+bD l:=by
 have h1:=cf seq;have h2:=cf l.length;have h3:=Ph l;simp only [lF,List.length_append] at*;omega
theorem KA (a b:List Wr):bD (a++b)=bD a+bD b:=by simp [bD]
theorem Pj (l:List Wr) (i:Nat):bD (l.take i)≤bD l:=by
 have h:=KA (l.take i) (l.drop i);rw [List.take_append_drop] at h;omega
theorem Pk {l:List Wr} {y:Wr} (h:y∈l):y.key.size+y.val.length≤bD l:=by
 induction l with
 |nil=>cases h
 |cons z l ih=>
  rcases List.mem_cons.1 h with rfl|h
  ·simp [bD]
  ·have:=ih h;simp only [bD,List.map_cons,List.sum_cons] at*;omega
end Go.Proofs.YtoolkdapflaeeaaGreatDoor
