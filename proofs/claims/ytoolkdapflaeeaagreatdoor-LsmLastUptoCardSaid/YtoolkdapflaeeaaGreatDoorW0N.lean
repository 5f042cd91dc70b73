/- Helpers. -/
import Derived.Deep.CutRange
import Derived.Deep.DeepCutAuto
import Derived.Test.YtoolkdapflaeeaaGreatDoorW0M
import Derived.Test.YtoolkdapflaeeaaGreatDoorW0C
import Derived.Test.YtoolkdapflaeeaaGreatDoorW0J
set_option maxRecDepth 100000
set_option maxHeartbeats 16000000
namespace Go.Proofs.YtoolkdapflaeeaaGreatDoor
open Go.RowKit Go.Gl Go.aH Mn
theorem Tryz.aik:(Tryz.prog.info? 113).map (fun i=>(i.zero,i.size,i.bytes))=some (some .nilIface,1,16):=by kernel_rfl
def oT (mb:Nat) (tbs:List Nat):List Value:= .iface 89 (.pointer (some ⟨mb,0,none⟩))::tbs.map (fun t=>Value.iface 143 (.pointer (some ⟨t,0,none⟩)))
structure WM (w w1:World) (mb:Nat) (tv:Value) (tabs:List Tb) (tbs:List Nat) (i:Nat) (sv:Value) (wr:World):Prop where
 row:Go.Gl.Row1 113 w.heap.size wr sv (oT mb (tbs.take i))
 grow:Grow w wr
 tabs:Mn.Own w.heap.size wr tv tabs
theorem azh {B:Nat} {w:World} {v:Value} {xs:List Value} (h:Go.Gl.Row1 113 B w v xs) (hB:B≤w.heap.size) (hl:xs.length≤1000000) (x:Value) (hx:x.oneCell'=true):
  ∃ v' w',(Builtin.append_ #[110,110] 110 #[v,.slice (some ⟨w.heap.size,0,none⟩) 1 1]).run Tryz.prog (w.alloc (.cells #[x] 113))= .ok v' w'∧Go.Gl.Row1 113 B w' v' (xs++ [x])∧w.grownBy w' v.ownBlock:=by
 have dV:(w.alloc (.cells #[x] 113)).heap[w.heap.size]?=some (.cells #[x] 113 (0,0)):=aw _ _;have uK:Src Tryz.prog 1 110 (.slice (some ⟨w.heap.size,0,none⟩) 1 1) 1 [x] (w.alloc (.cells #[x] 113)):=
  Src.ofSlice _ Tryz.underlying110 ⟨w.heap.size,0,none⟩ 1 1 [x] rfl (fun j u hu=>World.news_of_block dV j u (by simpa using hu)) (fun u hu=>by rw [cY.1 hu];exact hx)
 obtain ⟨v',w',h1,h2,h3,_⟩:=Bd (ty:=110) Tryz.underlying110 Tryz.aik rfl (h.grow (Grow.alloc _ _)) uK (by simp;omega) (by unfold maxLen;omega) (by omega);obtain ⟨a,b,c,d,e⟩:=h3;exact ⟨v',w',h1,h2,⟨a,b,c,aN (by simp) d,fun k hk hn=>by rw [e k (by simp;omega) hn];exact heap_alloc_old _ _ hk⟩⟩
theorem azi (tv:Value) (s n wl:Int) (w:World):(Instr.field 85 (.agg (bz tv s n wl)) 0).run Tryz.prog w= .ok tv w:=by kernel_rfl
theorem azj (tv:Value) (s n wl:Int) (w:World):(Instr.field 85 (.agg (bz tv s n wl)) 2).run Tryz.prog w= .ok (.int .i64 n) w:=by kernel_rfl
def azk (w w1:World) (mb:Nat) (tv:Value) (tabs:List Tb) (tbs:List Nat) (sv iv:Value) (wr:World):Prop:=
 ∃ i:Nat,iv= .int .i64 (i:Int)∧i≤tabs.length∧WM w w1 mb tv tabs tbs i sv wr
theorem azl {w:World} {db sb p:Nat} {o:Od} {drv lv:Value} {mb tm seq hm:Nat} {tv:Value} {V:bu} {k:Int} {B':Nat} (hC:dT w db sb o drv lv mb tm seq hm) (hS:dy w sb p tv V k) (hown:Mn.Own B' w tv V.tabs) (xY:V.tabs.length≤100000)
  {g:Int→Option Value} {m:Nat} (hM:fA w tm encI g m) {tbs:List Nat} (iz:tbs.length=V.tabs.length) (dp:∀ (i:Nat) (t:Tb) (b:Nat),V.tabs[i]?=some t→tbs[i]?=some b→g t.file=some (.pointer (some ⟨b,0,none⟩))):
  Calls Tryz.prog 45 #[.pointer (some ⟨db,0,none⟩)] w fun e w'=>∃ v,e= .returned v∧Go.Gl.Row1 113 w.heap.size w' v (oT mb tbs)∧Grow w w':=by
 obtain ⟨c0,_,_,c8,_,_,_,bA⟩:=hC.cells;have ai:=Grow.alloc w (.cells #[.iface 89 (.pointer (some ⟨mb,0,none⟩))] 113);have dw:=aw w (.cells #[.iface 89 (.pointer (some ⟨mb,0,none⟩))] 113);have hrow:Go.Gl.Row1 113 w.heap.size (w.alloc (.cells #[.iface 89 (.pointer (some ⟨mb,0,none⟩))] 113)) (.slice (some ⟨w.heap.size,0,none⟩) 1 1) [.iface 89 (.pointer (some ⟨mb,0,none⟩))]:=
  .inr ⟨w.heap.size,1,_,rfl,ay _,dw,by simp,by simp,by unfold maxLen;omega,rfl⟩
 have sK:=Ua (hS.grow ai) (ek hown ai) (by omega);have Au:=ae sK;have pL:=ae hrow;have bT:=ae ai;have HC:=ae hC;have HM:=ae hM;have fw:=ae dp;have aQ:(w.alloc (.cells #[.iface 89 (.pointer (some ⟨mb,0,none⟩))] 113)).cell? ⟨db,0,none⟩=some (.pointer (some ⟨sb,0,none⟩)):=by rw [World.cell?_alloc_lt _ _ _ bA];exact c0
 have azm:=cj bA ai.size;clear sK hrow ai dw hC hM hS hown dp;go_enter Tryz.func45,Tryz.ntmps45
 go_upto_region 2 with fail
 generalize w.alloc (.cells #[.iface 89 (.pointer (some ⟨mb,0,none⟩))] 113)=w1 at*;clear c0 c8 bA;obtain ⟨wb,iI⟩:∃ wb,wb=w.heap.size:=⟨_,rfl⟩
 rw [←iI] at pL;rw [←iI];have Hwb:=ae iI;clear iI
 go_wp2_with fail
 (with_reducible refine Au.out.mono ?_);rintro e w2 ⟨tv2,rfl,hown2,hg2⟩;have hst:WM w w1 mb tv2 V.tabs tbs 0 (.slice (some ⟨wb,0,none⟩) 1 1) w2:=⟨by rw [←Hwb.out];exact pL.out.grow hg2,bT.out.trans hg2,qx hown2 bT.out.size⟩
 have bI:=ae hst;obtain ⟨ta,tc,rfl⟩:=iV hown2;have hvt:=azi (.slice ta V.tabs.length tc) V.seq V.next V.aj w2;clear hst hown2 hg2 aQ azm Au pL
 go_wp2_with fail
 go_loopw [3,19] (fun sv iv wr=>azk w w1 mb (.slice ta V.tabs.length tc) V.tabs tbs sv iv wr) (fun _ iv _=>V.tabs.length-(intOf iv).toNat)
 case atStart=>exact ⟨0,rfl,bk _,bI.out⟩
 case round=>
  clear bI;obtain ⟨i,rfl,hi,hs⟩:=hrel;by_cases hlt:i<V.tabs.length
  ·obtain ⟨t,ht⟩:∃ t,V.tabs[i]?=some t:=⟨V.tabs[i],by simp [hlt]⟩
   obtain ⟨b,hb⟩:∃ b,tbs[i]?=some b:=⟨tbs[i]'(by omega),by simp [iz,hlt]⟩
   have hgk:=fw.out i t b ht hb;obtain ⟨gT,azp,azq,jN,hBT,KR,jO⟩:∃ (g cap:Nat) (cur:Array Value),(Value.slice ta V.tabs.length tc)= .slice (some ⟨g,0,none⟩) V.tabs.length cap∧w.heap.size≤g∧wr.heap[g]?=some (.cells cur 101 (0,0))∧Rd wr g 0 ig 5 V.tabs:=by
    rcases id hs.tabs.2 with ⟨h1,h0⟩|⟨g,cap,cur,h1,h2,h3,h4⟩
    ·omega
    ·exact ⟨g,cap,cur,h1,h2,h3,wO pw (h1 ▸ hs.tabs)⟩
   cases jN;have gW:=jO i t ht;have hlk:=ahx Wt Tryz.underlying90 (z:= .pointer none) (by kernel_rfl) (HM.out.grow hs.grow) t.file;rw [hgk] at hlk;obtain ⟨f0,f1,f2,f3,f4⟩:=t;have a0:=gW 0 _ rfl;have a1:=gW 1 _ rfl;have a2:=gW 2 _ rfl;have a3:=gW 3 _ rfl;have a4:=gW 4 _ rfl;simp only [Nat.add_zero,Nat.zero_add] at a0 a1 a2 a3 a4;have lT:gT<wr.heap.size:=af KR;have dJ:(i:Int)<(V.tabs.length:Int):=by omega
   have bK:(0:Int)≤(i:Int):=by omega
   have eE:IntKind.i64.wrap ((i:Int)+1)=(i:Int)+1:=aR _ (by omega);have aM:Grow wr (wr.alloc (.cells #[.int .i64 f0,.int .i64 f1,.string f2,.string f3,.int .i64 f4] 101)):=Grow.alloc _ _;have dw:=aw wr (.cells #[.int .i64 f0,.int .i64 f1,.string f2,.string f3,.int .i64 f4] 101);obtain ⟨sa,sc,rfl⟩:=hs.row.slice;have mo:(oT mb (tbs.take i)).length=i+1:=by simp [oT];omega
   rw [mo] at hs ⊢;have Hs:=ae hs;have Ci:=ae aM;have HbI:=ae hb;clear hlk gW jO KR hs hb
   go_upto_region 5 with fail
   clear a0 a1 a2 a3 a4 lT;generalize wr.alloc (.cells #[.int .i64 f0,.int .i64 f1,.string f2,.string f3,.int .i64 f4] 101)=w5 at*;generalize wr.heap.size=xb at*;obtain ⟨_,_,_,_,c9,_,_,bA⟩:=((HC.out.grow Hs.out.grow).grow Ci.out).cells;obtain ⟨t0,t1,t2,t3,t4⟩:=cw dw;have im:=af dw;refine bX (fun W=>W.cell? ⟨db,9,none⟩=some (.map (some tm))∧db<W.heap.size∧W.cell? ⟨xb,0,none⟩=some (.int .i64 f0)∧xb<W.heap.size) [(0,false),(1,false),(2,false),(3,false),(4,false),(5,false),(6,false),(7,true),(8,false),(9,true),(10,true),(11,false)] (by kernel_rfl) (by kernel_rfl) (fun c a d v w h=>by cases d<;>exact h) ⟨by simpa using c9,by simpa using bA,by simpa using t0,by simpa using im⟩ ?_;simp only [aP,nth];clear c9 bA t0 t1 t2 t3 t4 im aM
   repeat (first|(refine aB (v:= ?_) (by rfl) ?_ ?_;rotate_left;(rintro W ⟨hW0,hW1,hW2,hW3⟩;go_simp;with_reducible rfl);simp only [ag,List.set])|(refine aC (by rfl) ?_;simp only [ag,List.set]))
   have hgd:=Ci.out.trans (Grow.drew w5);have hlk:=ahx Wt Tryz.underlying90 (z:= .pointer none) (by kernel_rfl) ((HM.out.grow Hs.out.grow).grow hgd) f0;rw [hgk] at hlk;obtain ⟨_,_,_,_,c9,_,_,bA⟩:=((HC.out.grow Hs.out.grow).grow hgd).cells;have KS:=(Grow.drew w5).heap dw;obtain ⟨t0,t1,t2,t3,t4⟩:=cw KS;have im:=af KS;refine fQ (by rfl) (fun K hK=> ?_);go_simp;refine hK _ _ ⟨⟨c9,bA,t0,im⟩,?_⟩;clear hK K hlk
   try first|simp only [ag,List.set]|simp only [aD]
   repeat (first|(refine aB (v:= ?_) (by rfl) ?_ ?_;rotate_left;(rintro W ⟨hW0,hW1,hW2,hW3⟩;go_simp;with_reducible rfl);simp only [ag,List.set])|(refine aC (by rfl) ?_;simp only [ag,List.set]))
   obtain ⟨v',w6,hrun,hrow,hgr⟩:=azh (Hs.out.row.grow hgd) (aN Hs.out.grow.size hgd.size) (by rw [mo];omega) (.iface 143 (.pointer (some ⟨b,0,none⟩))) rfl;have CC:=Grow.alloc w5.drew (.cells #[.iface 143 (.pointer (some ⟨b,0,none⟩))] 113);have xZ:=Hs.out.row.grow hgd;have kp:∀ (c:Nat) (arr:Array Value) (ty:TypeId) (fz:Nat×Nat),w5.drew.heap[c]?=some (.cells arr ty fz)→ty≠113→w6.heap[c]?=some (.cells arr ty fz):=fun c arr ty fz hc hne=>
    (hgr.block c (af hc) (fun e=>xZ.apart hc hne e.symm)).trans hc
   have PB:w5.drew.heap[db]?=some (.cells (oO sb o drv lv mb tm seq hm) 93 (0,0)):=(HC.out.grow Hs.out.grow).grow hgd;have aim:dT w6 db sb o drv lv mb tm seq hm:=kp _ _ _ _ PB (by decide);have WN:=kp _ _ _ _ KS (by decide);have gO:WM w w1 mb (.slice (some ⟨gT,0,none⟩) V.tabs.length tc) V.tabs tbs (i+1) v' w6:=by
    refine ⟨?_,?_,uW (ek Hs.out.tabs hgd) (fun g' eA=> ?_)⟩
    ·have:oT mb (tbs.take (i+1))=oT mb (tbs.take i)++ [.iface 143 (.pointer (some ⟨b,0,none⟩))]:=by
      unfold oT;rw [take_one HbI.out];simp
     rw [this];exact hrow
    ·exact (Hs.out.grow.trans hgd).grown hgr (aN Hs.out.grow.size hgd.size) (fun k e=>(xZ.lt e).1)
    ·obtain ⟨cur,hc,_⟩:=qC (ek Hs.out.tabs hgd) eA
     exact (kp _ _ _ _ hc (by decide)).trans hc.symm
   have jY:=ae gO;obtain ⟨va,vL,vc,rfl⟩:∃ a L c,v'= .slice a L c:=by obtain ⟨a,c,h⟩:=hrow.slice;exact ⟨_,_,_,h⟩
   refine ry (by rfl) (ru (v:= .iface 143 (.pointer (some ⟨b,0,none⟩))) rfl Tryz.underlying110 Tryz.aik rfl rfl rfl) ⟨by rw [World.cell?_alloc_lt _ _ _ bA];exact c9,cj bA CC.size,by rw [World.cell?_alloc_lt _ _ _ im];exact t0,cj im CC.size⟩ ?_
   try first|simp only [ag,List.set]|simp only [aD]
   obtain ⟨_,_,_,_,d9,_,_,ain⟩:=aim.cells;obtain ⟨x0,_,_,_,_⟩:=cw WN;refine ry (by rfl) (GH rfl rfl rfl hrun) ⟨d9,ain,x0,af WN⟩ ?_;clear gO hrun hrow hgr CC xZ kp PB aim WN c9 bA t0 t1 t2 t3 t4 im d9 ain x0 KS hgd
   try first|simp only [ag,List.set]|simp only [aD]
   repeat (first|(refine aB (v:= ?_) (by rfl) ?_ ?_;rotate_left;(rintro W ⟨hW0,hW1,hW2,hW3⟩;go_simp;with_reducible rfl);simp only [ag,List.set])|(refine aC (by rfl) ?_;simp only [ag,List.set]))
   refine bm ?_;go_wp2;go_roundw
   case rel=>exact ⟨i+1,by simp,hlt,jY.out⟩
   case measure=>simp [intOf];omega
  ·obtain rfl:i=V.tabs.length:=by omega
   have Hs:=ae hs;have hr:=hs.row;rw [←iz,List.take_length] at hr;obtain ⟨sa,sc,rfl⟩:=hr.slice;have Hr:=ae hr;clear hs hr;go_wp2;go_ret;exact ⟨_,rfl,Hr.out,Hs.out.grow⟩
abbrev KT:Int→Value:=Value.int .u64
theorem azs {N:Nat→Prop} {w:World} {tb ha:Nat} {ns:List Nd} {aM:Nat} {dv:Value} {ds:List Int} (h:cX N w tb ha ns aM dv ds):
  Calls Tryz.prog 44 #[.pointer (some ⟨tb,0,none⟩)] w fun e w'=>e= .returned (.int .i64 ((costs (ns.map (fun n=>n.x.e)):Nat):Int))∧w'=w:=by
 have c9:w.cell? ⟨tb,9,none⟩=some (.int .i64 ((costs (ns.map (fun n=>n.x.e)):Nat):Int)):=by simp [World.cell?,h.self]
 have lt:=af h.self;clear h;generalize ((costs (ns.map (fun n=>n.x.e)):Nat):Int)=c at*;go_enter Tryz.func44,Tryz.ntmps44;go_wp2;go_ret;exact ⟨rfl,rfl⟩
theorem azt {N:Nat→Prop} {w:World} {tb ha:Nat} {ns:List Nd} {aM:Nat} {dv:Value} {ds:List Int} (h:cX N w tb ha ns aM dv ds):
  Calls Tryz.prog 74 #[.pointer (some ⟨tb,0,none⟩)] w fun e w'=>e= .returned (.int .i64 (ns.length:Int))∧w'=w:=by
 have c7:w.cell? ⟨tb,7,none⟩=some (.int .i64 (ns.length:Int)):=by simp [World.cell?,h.self]
 have lt:=af h.self;clear h;go_enter Tryz.func74,Tryz.ntmps74;go_wp2;go_ret;exact ⟨rfl,rfl⟩
theorem azu {n:Nat} (h:n<1000000):jC (dF n):=by
 have hl:=wL h;refine IE (by simp) (by simp [hl]) ?_;intro c hc;rcases List.mem_append.1 hc with hc|hc
 ·exact (by decide:∀ c∈FC,yM c=true) c hc
 ·rcases List.mem_append.1 hc with hc|hc
  ·rw [(List.mem_replicate.1 hc).2];decide
  ·exact SD (ID n c hc)
theorem Dl.KU {Z B:Nat} {w:World} {p r:Nat} {f:Lk} {T K:Nat} {F:Nat→Prop} (h:Dl Z B w p r f T K F) {rb:Nat} {cs:Array Value} {fz:Nat×Nat} (ep:w.heap[rb]?=some (.cells cs 101 fz)) (j:Nat) (v:Value):Dl Z B (w.setCell ⟨rb,j,none⟩ v) p r f T K F:=by
 have vH:=h.apart ep (by decide) (by decide) (by decide);obtain ⟨V,h1,h2⟩:=h;exact ⟨V,h1.keep (by simp) (fun b hb=>aK _ _ _ _ (fun e=>vH (by have e':b=rb:=e;rw [←e'];exact hb))),h2⟩
theorem mZ.Nh {Z B:Nat} {w w':World} {p r:Nat} {f:Lk} {T K:Nat} {F:Nat→Prop} (h:mZ Z B w p r F w' f T K) {rb:Nat} {cs:Array Value} {fz:Nat×Nat} (ep:w'.heap[rb]?=some (.cells cs 101 fz)) (hw:w.heap.size≤rb) (v0 v1 v2 v3 v4:Value):
  mZ Z B w p r F (((((w'.setCell ⟨rb,0,none⟩ v0).setCell ⟨rb,1,none⟩ v1).setCell ⟨rb,2,none⟩ v2).setCell ⟨rb,3,none⟩ v3).setCell ⟨rb,4,none⟩ v4) f T K:=by
 obtain ⟨F',h1,h2⟩:=h;have b1:=Go.Gl.aI ep 0 v0;have b2:=Go.Gl.aI b1 1 v1;have b3:=Go.Gl.aI b2 2 v2;have b4:=Go.Gl.aI b3 3 v3;exact ⟨F',((((h1.KU ep 0 v0).KU b1 1 v1).KU b2 2 v2).KU b3 3 v3).KU b4 4 v4,((((h2.xw hw 0 v0).xw hw 1 v1).xw hw 2 v2).xw hw 3 v3).xw hw 4 v4⟩
def azv (Z B:Nat) (w:World) (p r:Nat) (f:Lk) (T K:Nat) (F:Nat→Prop) (n:Nat) (lvl:Int) (D:List UInt8) (k0 k1:ByteArray) (e:Ending) (w':World):Prop:=
 (T+D.length≤Z∧e= .returned (.tuple #[.agg #[.int .i64 (n:Int),.int .i64 lvl,.string k0,.string k1,.int .i64 (D.length:Int)],.bool true])∧mZ Z B w p r F w' (f.set (dF n) (D,D.length)) (T+D.length) (K+1))∨
 (Z<T+D.length∧e= .returned (.tuple #[.agg #[.int .i64 0,.int .i64 0,.string ⟨#[]⟩,.string ⟨#[]⟩,.int .i64 0],.bool false])∧mZ Z B w p r F w' f T (K+1))
theorem azw {N Z B:Nat} {M:Nat→Prop} {w:World} {p r:Nat} {f:Lk} {T K:Nat} {F:Nat→Prop} {db sb:Nat} {o:Od} {drv lv:Value} {mb tm seq hm:Nat} {tv:Value} {V:bu} {k:Int} (hC:dT w db sb o drv lv mb tm seq hm) (hS:dy w sb p tv V k) (hD:Dl Z B w p r f T K F) (hN:cI N B w) {n:Nat} (hn:n<N) (h6:n<1000000) (hf:f (dF n)=none) {lvl:Int}
  {v:Value} {ys:List Ev} (hE:Es M w v ys) (hM:∀ b,M b→¬ F b) (hlen:ys.length≤1000000) (ho:cQ (ys.map Ev.e)) (iQ:CJ (ys.map Ev.e)) {size:Nat} (hsz:o.block=(size:Int)) (hz1:1≤size) (hz2:size≤67108864)
  (Ag:∀ y∈ys,y.e.key.size≤65535∧y.e.seq<18446744073709551616∧y.e.val.length≤33554432) (mQ:(aZ (ys.map Ev.e)).length+30*ys.length≤50000000) (hDl:(fN (dM size [] (ys.map Ev.e)) ys.length (dn (ys.map Ev.e))).length≤1000000000000) {y0 y1:Ev} (mK:ys[0]?=some y0) (Aw:ys[ys.length-1]?=some y1):
  Calls Tryz.prog 62 #[.pointer (some ⟨db,0,none⟩),v,.int .i64 (n:Int),.int .i64 lvl] w (azv Z B w p r f T K F n lvl (fN (dM size [] (ys.map Ev.e)) ys.length (dn (ys.map Ev.e))) y0.e.key y1.e.key):=by
 have ai:=Grow.alloc w (.cells #[.int .i64 0,.int .i64 0,.string ⟨#[]⟩,.string ⟨#[]⟩,.int .i64 0] 101);have PY:=axl (hE.grow ai) hlen ho iQ hz1 hz2 Ag mQ;rw [←hsz] at PY;obtain ⟨D,hDD⟩:∃ D,D=fN (dM size [] (ys.map Ev.e)) ys.length (dn (ys.map Ev.e)):=⟨_,rfl⟩
 rw [←hDD] at PY hDl ⊢;clear hDD;obtain ⟨c0,c1,_,_,_,_,_,bA⟩:=(hC.grow ai).cells;have c2:(w.alloc (.cells #[.int .i64 0,.int .i64 0,.string ⟨#[]⟩,.string ⟨#[]⟩,.int .i64 0] 101)).cell? ⟨db,2,none⟩=some (.int .i64 o.block):=by
  have:=hC.grow ai;unfold dT at this;simp [World.cell?,this]
 have Hbu:=ae PY;have HC:=ae (hC.grow ai);have HS:=ae (hS.grow ai);have HD:=ae (hD.grow ai);have HN:=ae (hN.grow ai hD.base);have HE:=ae hE;have HM:=ae hM;have Hf:=ae hf;have bT:=ae ai;obtain ⟨va,vc,rfl⟩:=hE.slice;have ep:=aw w (.cells #[.int .i64 0,.int .i64 0,.string ⟨#[]⟩,.string ⟨#[]⟩,.int .i64 0] 101);have kA:=ae ep;clear hC hS hD hN hE hM hf PY ho iQ Ag mQ ai ep hsz;go_enter Tryz.func62,Tryz.ntmps62
 go_wp2_with fail
 generalize w.alloc (.cells #[.int .i64 0,.int .i64 0,.string ⟨#[]⟩,.string ⟨#[]⟩,.int .i64 0] 101)=w1 at*;obtain ⟨rb,WO⟩:∃ rb,rb=w.heap.size:=⟨_,rfl⟩
 rw [←WO] at kA ⊢;have WQ:=ae WO;clear WO c0 c1 c2 bA;(with_reducible refine Hbu.out.mono ?_);rintro e w2 ⟨bv,rfl,bg,hg2⟩;have Hfi:=ae (VW (HN.out.grow hg2 HD.out.base) hn h6);have Vj:=ae bg;have eD:=ae hg2;obtain ⟨ba,bc,rfl⟩:=bg.slice;clear bg hg2 Hbu
 go_wp2_with fail
 (with_reducible refine Hfi.out.mono ?_);rintro e w3 ⟨rfl,hg3⟩;have jS:=eD.out.trans hg3;obtain ⟨c0,_,_,_,_,_,_,bA⟩:=(HC.out.grow jS).cells;obtain ⟨s0,_,_,_,_,_,lM⟩:=(HS.out.grow jS).cells;have kq:=ae hg3;have Ak:=ae jS;clear hg3 jS Hfi
 go_wp2_with fail
 have ai:=Grow.alloc w3 (.cells #[.string (dF n)] 9);(with_reducible refine (abi (HD.out.grow (Ak.out.trans ai)) Hf.out (aw _ _)).mono ?_);rintro e w4 ⟨rfl,hg4⟩;have oG:=(Ak.out.trans ai).trans hg4;have gj:=(kq.out.trans ai).trans hg4;clear c0 bA s0 lM;obtain ⟨c0,_,_,_,_,_,_,bA⟩:=(HC.out.grow oG).cells;obtain ⟨s0,_,_,_,_,_,lM⟩:=(HS.out.grow oG).cells;have KV:=ae oG;have azx:=ae (cy (Vj.out.grow gj));clear oG gj hg4 ai
 go_wp2_with fail
 have hgb:=Grow.alloc w4 (.cells #[.slice ba D.length bc] 49);(with_reducible refine (Uj (HD.out.grow (KV.out.trans hgb)) (azu h6) (aw _ _) (azx.out.grow hgb) hDl).mono ?_);rintro e w5 ⟨c5,f5,T5,rfl,hc5,F5,gM,hs5⟩;have pP:=KV.out.trans hgb;have tL:=(HS.out.grow pP).sep (HD.out.grow pP) hs5;have kp:∀ (c:Nat) (arr:Array Value) (ty:TypeId) (fz:Nat×Nat),w1.heap[c]?=some (.cells arr ty fz)→ty≠125→ty≠165→ty≠5→w5.heap[c]?=some (.cells arr ty fz):=fun c arr ty fz hc h1 h2 h3=>
  (hs5.out c (af (pP.heap hc)) ((HD.out.grow pP).apart (pP.heap hc) h1 h2 h3)).trans (pP.heap hc)
 have FQ:w1.heap[db]?=some (.cells (oO sb o drv lv mb tm seq hm) 93 (0,0)):=HC.out;have Ax:dT w5 db sb o drv lv mb tm seq hm:=kp _ _ _ _ FQ (by decide) (by decide) (by decide);have Ay:=kp _ _ _ _ kA.out (by decide) (by decide) (by decide);have PZ:Sep F w w5 F5:=(Sep.bF (bT.out.trans pP)).trans hs5;clear c0 bA s0 lM;obtain ⟨c0,_,_,_,_,_,_,bA⟩:=Ax.cells;obtain ⟨s0,_,_,_,_,_,lM⟩:=tL.cells;obtain ⟨r0,r1,r2,r3,r4⟩:=cw Ay;have lrb:=af Ay;have frb:∀ j,w5.frozen? ⟨rb,j,none⟩=false:=fun j=>by simp [World.frozen?,Ay]
 rcases hc5 with ⟨rfl,hroom,rfl,rfl⟩|⟨rfl,pj,rfl,rfl⟩
 rotate_left
 ·have hend:=(show mZ Z B w p r F w5 f5 T5 (K+1) from ⟨F5,gM,PZ⟩).Nh Ay (by have:=WQ.out;omega) (.int .i64 0) (.int .i64 0) (.string ⟨#[]⟩) (.string ⟨#[]⟩) (.int .i64 0)
  have aQ:=Go.Gl.aI (Go.Gl.aI (Go.Gl.aI (Go.Gl.aI (Go.Gl.aI Ay 0 (.int .i64 0)) 1 (.int .i64 0)) 2 (.string ⟨#[]⟩)) 3 (.string ⟨#[]⟩)) 4 (.int .i64 0);have bG:=ae hend;have fL:=ae (cw aQ);have KW:=ae pj;clear hend aQ pj Ax tL kp FQ Ay PZ gM hs5 pP hgb;go_wp2;obtain ⟨z0,z1,z2,z3,z4⟩:=fL.out;refine bodyPost_ret (v:= .tuple #[.agg #[.int .i64 0,.int .i64 0,.string ⟨#[]⟩,.string ⟨#[]⟩,.int .i64 0],.bool false]) (by simp [results,Tryz.results62,go_sem,z0,z1,z2,z3,z4]) rfl ?_;exact .inr ⟨KW.out,rfl,bG.out⟩
 ·have JD:=ae hroom
  have oA:=ae gM;have ais:=ae PZ;have HC5:=ae Ax;have qL:=ae tL;have WR:=ae Ay;clear hroom gM PZ Ax tL Ay kp FQ hs5 pP hgb
  go_wp2_with fail
  have sL:=Grow.alloc w5 (.cells #[.string (dF n)] 9);have lC:f.add (dF n) D=f.set (dF n) (D,0):=by unfold Lk.add;rw [Hf.out]
  have qo:=IJ (q:=(D,0)) (oA.out.grow sL) (n:=dF n) (by rw [lC,qw]) (aw _ _);rw [lC,ML] at qo;(with_reducible refine qo.mono ?_);rintro e w6 ⟨rfl,F6,nB,ox⟩;have WS:=(ais.out.trans (Sep.bF sL)).trans ox;have hE6:=HE.out.kp (Kp.auM WS HM.out);have Qa:=(ox.out rb (af (sL.heap WR.out)) ((oA.out.grow sL).apart (sL.heap WR.out) (by decide) (by decide) (by decide))).trans (sL.heap WR.out);obtain ⟨eb,eo,ec,jN,hMb,hbl,aY⟩:=HE.out.addr mK;obtain ⟨eb',eo',ec',aiu,azB,aiv,Df⟩:=hE6.addr mK;rw [jN] at aiu;cases aiu;cases jN;obtain ⟨a0,_,_,_⟩:=JL Df mK;obtain ⟨b0,_,_,_⟩:=JL Df Aw;have hne:eb≠rb:=by have:=WQ.out;omega
  have yI:0<ys.length:=(dQ.1 mK).1;have w1e:IntKind.i64.wrap ((ys.length:Int)-1)=((ys.length-1:Nat):Int):=(aR _ (by omega)).trans (by omega);have lE:=af Qa;have WT:eb<w6.heap.size:=aiv;simp only [Nat.zero_mul,Nat.add_zero] at a0;have Ga:=(Grow.drew w6).heap Qa;have hend:=(show mZ Z B w p r F w6.drew (f.set (dF n) (D,D.length)) (T+D.length) (K+1) from ⟨F6,nB.grow (Grow.drew w6),WS.trans (Sep.bF (Grow.drew w6))⟩).Nh Ga (by have:=WQ.out;omega) (.int .i64 (n:Int)) (.int .i64 lvl) (.string y0.e.key) (.string y1.e.key) (.int .i64 (D.length:Int));have aQ:=Go.Gl.aI (Go.Gl.aI (Go.Gl.aI (Go.Gl.aI (Go.Gl.aI Ga 0 (.int .i64 (n:Int))) 1 (.int .i64 lvl)) 2 (.string y0.e.key)) 3 (.string y1.e.key)) 4 (.int .i64 (D.length:Int));have aHt:∀ j,w6.drew.frozen? ⟨rb,j,none⟩=false:=fun j=>by simp [World.frozen?,Ga]
  clear r0 r1 r2 r3 r4 lrb;obtain ⟨r0,r1,r2,r3,r4⟩:=cw Ga;have lrb:=af Ga;have bG:=ae hend;have fL:=ae (cw aQ);have aHu:=ae Qa;clear hend aQ aY Df qo ox nB WS hE6 Qa sL lC oA ais hMb azB hbl aiv c0 s0 frb bA lM Ga lE;obtain ⟨i1,dJ⟩:∃ i1,i1=ys.length-1:=⟨_,rfl⟩
  rw [←dJ] at b0 w1e;have i1l:(i1:Int)<(ys.length:Int):=by omega
  have i1g:(0:Int)≤(i1:Int):=by omega
  have i0l:(0:Int)<(ys.length:Int):=by omega
  clear dJ
  go_upto_region 7 with fail
  refine bX (fun W=>W.cell? ⟨eb,eo,none⟩=some (.string y0.e.key)∧W.cell? ⟨eb,eo+i1*4,none⟩=some (.string y1.e.key)∧eb<W.heap.size) [(0,false),(1,false),(2,false),(3,false),(4,false),(5,false),(6,false),(7,false),(8,false),(9,false),(10,false),(11,false),(12,false),(13,false),(14,false),(15,false),(16,true),(17,false)] (by kernel_rfl) (by kernel_rfl) (fun c a d v w h=>by cases d<;>exact h) ⟨by simpa using a0,by simpa using b0,by simpa using WT⟩ ?_;simp only [aP,nth]
  repeat (first|(refine aB (v:= ?_) (by rfl) ?_ ?_;rotate_left;(rintro W ⟨hW0,hW1,hW2⟩;go_simp;with_reducible rfl);simp only [ag,List.set])|(refine aC (by rfl) ?_;simp only [ag,List.set]))
  have a0d:w6.drew.cell? ⟨eb,eo,none⟩=some (.string y0.e.key):=by simpa using a0
  have b0d:w6.drew.cell? ⟨eb,eo+i1*4,none⟩=some (.string y1.e.key):=by simpa using b0
  have lb7:eb<w6.drew.heap.size:=by simpa using WT
  clear a0 b0 WT;generalize w6.drew=w7 at*;have ne:∀ (W:World) (i j:Nat) (u:Value),(W.setCell ⟨rb,j,none⟩ u).cell? ⟨eb,i,none⟩=W.cell? ⟨eb,i,none⟩:=fun W i j u=>by
   simp only [World.cell?,aK W ⟨rb,j,none⟩ u eb hne]
  refine fQ (by rfl) (fun K hK=> ?_);go_simp;refine hK _ _ ⟨?_,?_⟩
  ·refine ⟨?_,?_,by simpa using lb7⟩
   ·rw [ne,ne,ne,ne,ne];exact a0d
   ·rw [ne,ne,ne,ne,ne];exact b0d
  clear hK K
  repeat (first|(refine aB (v:= ?_) (by rfl) ?_ ?_;rotate_left;(rintro W ⟨hW0,hW1,hW2⟩;go_simp;with_reducible rfl);simp only [ag,List.set])|(refine aC (by rfl) ?_;simp only [ag,List.set]))
  refine bm ?_;obtain ⟨z0,z1,z2,z3,z4⟩:=fL.out;go_wp2;refine bodyPost_ret (v:= .tuple #[.agg #[.int .i64 (n:Int),.int .i64 lvl,.string y0.e.key,.string y1.e.key,.int .i64 (D.length:Int)],.bool true]) (by simp [results,Tryz.results62,go_sem,z0,z1,z2,z3,z4]) rfl ?_;exact .inl ⟨JD.out,rfl,bG.out⟩
theorem WU:∀ (gs:List (List En)) (k:Nat),(∀ g∈gs,g≠ [])→(iR k gs).length≤(aZ gs.flatten).length+30*gs.length
 | [],_,_=>by simp [iR]
 |g::gs,k,h=>by
  have h1:=WU gs (k+(fj g).length) (fun x hx=>h x (gz _ hx));have h2:=lO (jX g).data.toList;have h3:=VF (h g (eQ ..));have h4:=cf k;have h5:=cf (fj g).length;have e1:(jX g).data.toList.length=(jX g).size:=by rw [Array.length_toList];rfl
  rw [List.flatten_cons,qQ,List.length_append];simp only [iR,List.length_append,List.length_cons] at*;omega
theorem aiw {size:Nat} {l:List En} (hne:l≠ []) (_hlen:l.length≤1000000) (mQ:(aZ l).length+30*l.length≤50000000):(fN (dM size [] l) l.length (dn l)).length≤300000000:=by
 have h1:=Fx (dM size [] l);have h2:=Kr size l [];have h3:=JH size l [] hne;have h5:=WU (dM size [] l) 0 (JI size l []);rw [List.nil_append] at h3;rw [h3] at h1 h5;have h4:=JW l;have h6:=Fl l l.length;have h7:fP l≤8+(10*l.length+7) / 8:=by unfold fP;omega
 have h8:=kT aq (iR 0 (dM size [] l));have h9:=kT aq (dn l);have h10:=cf (iR 0 (dM size [] l)).length;have h11:=cf (dn l).length;unfold fN dz;simp only [List.length_append,Oa,kQ];omega
abbrev sM:List UInt8:=((⟨bU.toArray⟩:ByteArray)++⟨#[45]⟩).data.toList
theorem fG.Qb {f:Lk} {a:Nat} {L:List (List UInt8)} (h:fG f a L) {n:ByteArray} (hn:Lib.hasPrefix n.data.toList sM=false) (q:List UInt8×Nat):fG (f.set n q) a L:=by
 have hne:∀ m:ByteArray,Lib.hasPrefix m.data.toList sM=true→m≠n:=fun m hm e=>by rw [e,hn] at hm;cases hm
 refine ⟨fun i q' hq=> ?_,fun m hm hs=> ?_⟩
 ·rw [fZ _ (hne _ (NK _))];exact h.there i q' hq
 ·rw [fZ _ (hne m hm)] at hs;exact h.only m hm hs
theorem uo (n:Nat):Lib.hasPrefix (dF n).data.toList sM=false:=by
 have:(dF n).data.toList=116::45::eB n:=rfl;rw [this];rfl
theorem Az (n:Nat):Lib.hasPrefix (cD n).data.toList sM=false:=by
 have:(cD n).data.toList=qp++eB n:=rfl;rw [this];rfl
theorem fG.KX {f:Lk} {a:Nat} {L:List (List UInt8)} (h:fG f a L):fG (f.set (bp bU (a+L.length)) ([],0)) a (L++ [[]]):=by
 refine ⟨fun i q hq=> ?_,fun n hn hs=> ?_⟩
 ·by_cases hi:i<L.length
  ·rw [List.getElem?_append_left hi] at hq
   rw [fZ _ (fun e=>by have:=Co e;omega)];exact h.there i q hq
  ·rw [List.getElem?_append_right (by omega)] at hq
   have Mz:i=L.length:=by
    have:=(dQ.1 hq).1;simp at this;omega
   subst Mz;rw [Nat.sub_self] at hq;cases hq;exact qw _ _ _
 ·by_cases he:n=bp bU (a+L.length)
  ·exact ⟨L.length,by simp,he⟩
  ·rw [fZ _ he] at hs
   obtain ⟨i,hi,e⟩:=h.only n hn hs;exact ⟨i,by rw [List.length_append];omega,e⟩
theorem fG.app {f:Lk} {a:Nat} {L:List (List UInt8)} {q:List UInt8} (h:fG f a (L++ [q])) (x:List UInt8):fG (f.set (bp bU (a+L.length)) (q++x,(q++x).length)) a (L++ [q++x]):=by
 refine ⟨fun i q' hq=> ?_,fun n hn hs=> ?_⟩
 ·by_cases hi:i<L.length
  ·rw [List.getElem?_append_left hi] at hq
   rw [fZ _ (fun e=>by have:=Co e;omega)];exact h.there i q' (by rw [List.getElem?_append_left hi];exact hq)
  ·rw [List.getElem?_append_right (by omega)] at hq
   have Mz:i=L.length:=by
    have:=(dQ.1 hq).1;simp at this;omega
   subst Mz;rw [Nat.sub_self] at hq;cases hq;exact qw _ _ _
 ·by_cases he:n=bp bU (a+L.length)
  ·exact ⟨L.length,by simp,he⟩
  ·rw [fZ _ he] at hs
   obtain ⟨i,hi,e⟩:=h.only n hn hs;exact ⟨i,by simpa using hi,e⟩
abbrev fB (PP:List (List (List UInt8))):List (List UInt8):=PP.map (bP aq)
theorem aix:∀ (PP:List (List (List UInt8))),(∀ ps∈PP,∀ p∈ps,p.length≤67108864)→lD (fB PP)=PP.flatten
 | [],_=>rfl
 |ps::PP,h=>by
  have h1:=aix PP (fun x hx=>h x (gz _ hx));have h2:=RH aq ps (h ps (eQ ..));unfold lD fB at h1 ⊢;rw [List.map_cons,List.map_cons,List.flatten_cons,h1,h2,List.flatten_cons]
theorem azG {PP:List (List (List UInt8))} (h:∀ ps∈PP,∀ p∈ps,p.length≤67108864):∀ q∈fB PP,(kj aq q).2.2=0:=fun q hq=>by
 obtain ⟨ps,eh,rfl⟩:=List.mem_map.1 hq;rw [RH aq ps (h ps eh)]
theorem azH (ps:List (List UInt8)) (p:List UInt8):bP aq (ps++ [p])=bP aq ps++bw aq p:=by simp [bP]
theorem azI {f:Lk} {a:Nat} {PP:List (List (List UInt8))} {ps:List (List UInt8)} (h:fG f a (fB (PP++ [ps]))) (p:List UInt8):fG (f.set (bp bU (a+PP.length)) (bP aq (ps++ [p]),(bP aq (ps++ [p])).length)) a (fB (PP++ [ps++ [p]])):=by
 have h1:fG f a (fB PP++ [bP aq ps]):=by simpa [fB] using h
 have h2:=h1.app (bw aq p);rw [←azH,show (fB PP).length=PP.length by simp [fB]] at h2;simpa [fB] using h2
theorem aiy (x:En) (l:List En):(gp x l).length≤l.length:=by
 have:=congrArg List.length (tS x l);rw [List.length_append] at this;omega
theorem azJ {x:En} {l:List En} {i:Nat} (hi:i<l.length) (h:i<(gp x l).length):fH l[i] x<0:=by
 have h1:(gp x l)[i]?=l[i]?:=by
  conv=>rhs;rw [←tS x l]
  rw [List.getElem?_append_left h]
 rw [List.getElem?_eq_getElem h,List.getElem?_eq_getElem hi] at h1;have h2:=NY _ (List.getElem_mem h);rw [bB h1] at h2;exact (Cu _ _).2 h2
theorem azK {x:En} {l:List En} (ho:cQ l) {i:Nat} (hi:i<l.length) (h:(gp x l).length≤i):¬ fH l[i] x<0:=by
 have h1:(gq x l)[i-(gp x l).length]?=l[i]?:=by
  conv=>rhs;rw [←tS x l]
  rw [List.getElem?_append_right h]
 rw [List.getElem?_eq_getElem hi] at h1;intro h3;exact EX ho _ (dY h1) ((Cu _ _).1 h3)
theorem aiz (x y:Ev) {xa ya:Option Addr} {xl xc yl yc:Nat} (_hx:x.v= .slice xa xl xc) (_hy:y.v= .slice ya yl yc) (W:World):
  Calls Tryz.prog 133 #[.agg #[.string x.e.key,.int .u64 x.e.seq,.bool x.e.gone,.slice xa xl xc],.agg #[.string y.e.key,.int .u64 y.e.seq,.bool y.e.gone,.slice ya yl yc]] W fun e w'=>e= .returned (.int .i64 (fH x.e y.e))∧Grow W w':=
 aev x.e.key x.e.seq x.e.gone (.slice xa xl xc) y.e.key y.e.seq y.e.gone (.slice ya yl yc) W
def azL (w1:World) (n lo0:Nat) (iv jv:Value) (wr:World):Prop:=∃ lo hi:Nat,iv= .int .i64 (lo:Int)∧jv= .int .i64 (hi:Int)∧lo≤lo0∧lo0≤hi∧hi≤n∧Grow w1 wr
theorem azM {N:Nat→Prop} {w:World} {v:Value} {ys:List Ev} (h:Es N w v ys) (hlen:ys.length≤1000000000) (ho:cQ (ys.map Ev.e)) (x:Ev) {xa:Option Addr} {xl xc:Nat} (hx:x.v= .slice xa xl xc):
  Calls Tryz.prog 201 #[v,.agg (bQ x),.func (.func 133) #[] #[]] w fun e w'=>∃ b,e= .returned (.tuple #[.int .i64 ((gp x.e (ys.map Ev.e)).length:Nat),.bool b])∧Grow w w':=by
 have hL:=aiy x.e (ys.map Ev.e);rw [List.length_map] at hL;have hlo:=fun (i:Nat) (hi:i<(ys.map Ev.e).length)=> @azJ x.e (ys.map Ev.e) i hi
 have lX:=fun (i:Nat) (hi:i<(ys.map Ev.e).length)=> @azK x.e (ys.map Ev.e) ho i hi
 generalize (gp x.e (ys.map Ev.e)).length=L at*;obtain ⟨va,vc,rfl⟩:=h.slice;have hex:bQ x=#[.string x.e.key,.int .u64 x.e.seq,.bool x.e.gone,.slice xa xl xc]:=by rw [←hx]
 rw [hex];have ai:=Grow.alloc w (.cells #[.string x.e.key,.int .u64 x.e.seq,.bool x.e.gone,.slice xa xl xc] 60);have eO:=aw w (.cells #[.string x.e.key,.int .u64 x.e.seq,.bool x.e.gone,.slice xa xl xc] 60);have H:=ae (h.grow ai);have bT:=ae ai;have rT:=ae eO;have Qc:=ae hlo;have Hhi:=ae lX;have Hx:=ae hx;clear h ai eO hlo lX hx hex;go_enter Tryz.func201,Tryz.ntmps201
 go_wp2_with fail
 generalize w.alloc (.cells #[.string x.e.key,.int .u64 x.e.seq,.bool x.e.gone,.slice xa xl xc] 60)=w1 at*;generalize w.heap.size=eb at*
 go_loopw [9,10] (fun iv jv wr=>azL w1 ys.length L iv jv wr) (fun iv jv _=>(intOf jv).toNat-(intOf iv).toNat)
 case atStart=>exact ⟨0,ys.length,rfl,rfl,bk _,hL,ay _,Grow.refl _⟩
 case round=>
  obtain ⟨lo,hi,rfl,rfl,h1,h2,h3,hg⟩:=hrel;have hb:=hg.heap rT.out;obtain ⟨t0,t1,t2,t3⟩:=cK hb;have lb:=af hb;by_cases hlt:lo<hi
  ·obtain ⟨m,hm⟩:∃ m,m=(lo+hi) / 2:=⟨_,rfl⟩
   have eY:m<ys.length:=by omega
   obtain ⟨y,b,o,c,ya,yc,hy,hv,cZ,ir,vG,c0,c1,c2,c3⟩:=H.out.read hg eY;cases hv;have fD:=fun W=>aiz y x ir Hx.out W
   obtain ⟨d,hd⟩:∃ d,fH y.e x.e=d:=⟨_,rfl⟩
   rw [hd] at fD;have Kn:(ys.map Ev.e)[m]'(by simpa using eY)=y.e:=by
    rw [List.getElem_map];rw [List.getElem?_eq_getElem eY] at hy;rw [bB hy]
   have fS:(d<0→m<L)∧(¬ d<0→L≤m):=by
    have k1:=Qc.out m (by simpa using eY);have k2:=Hhi.out m (by simpa using eY);rw [Kn,hd] at k1 k2;have k2':L≤m→¬ d<0:=fun h5=>by have:=k2 h5;omega
    constructor
    ·intro h4
     rcases Nat.lt_or_ge m L with h5|h5
     ·exact h5
     ·exact absurd h4 (k2' h5)
    ·intro h4
     rcases Nat.lt_or_ge m L with h5|h5
     ·exact absurd (k1 h5) h4
     ·exact h5
   have jP:=ae fD;have Hg:=ae hg;have WV:=ae fS;have i1:(lo:Int)<(hi:Int):=by omega
   have ws:IntKind.i64.wrap ((lo:Int)+(hi:Int))=((lo+hi:Nat):Int):=by rw [aR _ (by omega)];omega
   have wu:=tW (n:=lo+hi) (by omega);have iy:((lo+hi:Nat):Int) / 2=(m:Int):=by omega
   have wm:IntKind.i64.wrap (m:Int)=(m:Int):=aR _ (by omega);have wm1:IntKind.i64.wrap ((m:Int)+1)=((m+1:Nat):Int):=by rw [aR _ (by omega)];omega
   have m0:(0:Int)≤(m:Int):=by omega
   have m1:(m:Int)<(ys.length:Int):=by omega
   have Hm:=ae hm;generalize hsm:((lo+hi:Nat):Int)=sm at*;have aQ:=Grow.cells (w:=wr);clear fD hg fS hd Kn hy ir vG hb hm hsm
   go_upto_region 5 with fail
   refine bX (fun V=>Below wr.heap.size wr V) [(0,false),(1,false),(2,false),(3,false),(4,false),(5,false),(6,true),(7,false)] (by kernel_rfl) (by kernel_rfl) (fun c a d v w h=>by cases d<;>exact h) (by (repeat (first|exact Below.refl _ _|assumption|refine Below.drew ?_|refine cp ?_|refine Below.setCell ?_ (by first|omega|(simp<;>omega)) _|refine Below.alloc ?_ (by first|omega|(simp<;>omega)) _))) ?_;simp only [aP,nth]
   repeat (first|(refine aB (v:= ?_) (by rfl) ?_ ?_;rotate_left;(rintro W hW;go_simp;with_reducible rfl);simp only [ag,List.set])|(refine aC (by rfl) ?_;simp only [ag,List.set]))
   clear t0 t1 t2 t3 c0 c1 c2 c3;refine bj (by rfl) (by go_simp) (jP.out _) ?_;rintro e w2 ⟨rfl,hg2⟩;have hg3:=(Grow.drew wr).trans hg2;refine ⟨_,rfl,hg3,?_⟩
   try first|simp only [ag,List.set]|simp only [aD]
   have kq:=ae (Hg.out.trans hg3);clear hg2 hg3 aQ;obtain ⟨bb,cZ⟩:∃ bb,decide (d<0)=bb:=⟨_,rfl⟩
   repeat (first|(refine aB (v:= ?_) (by rfl) ?_ ?_;rotate_left;(rintro W hW;go_simp;with_reducible rfl);simp only [ag,List.set])|(refine aC (by rfl) ?_;simp only [ag,List.set]))
   refine bm ?_;cases bb with
   |true=>
    have nG:=WV.out.1 (of_decide_eq_true cZ);clear cZ;go_wp2;go_roundw
    case rel=>exact ⟨m+1,hi,rfl,rfl,nG,h2,h3,kq.out⟩
    case measure=>have:=Hm.out;simp [intOf];omega
   |false=>
    have nG:=WV.out.2 (of_decide_eq_false cZ);clear cZ;go_wp2;go_roundw
    case rel=>exact ⟨lo,m,rfl,rfl,h1,nG,by omega,kq.out⟩
    case measure=>have:=Hm.out;simp [intOf];omega
  ·obtain rfl:lo=L:=by omega
   obtain rfl:hi=lo:=by omega
   have Hg:=ae hg;by_cases mW:hi<ys.length
   ·obtain ⟨y,b,o,c,ya,yc,hy,hv,cZ,ir,vG,c0,c1,c2,c3⟩:=H.out.read hg mW
    cases hv;have fD:=fun W=>aiz y x ir Hx.out W
    generalize fH y.e x.e=d at*;have jP:=ae fD;have m0:(0:Int)≤(hi:Int):=by omega
    have m1:(hi:Int)<(ys.length:Int):=by omega
    have aQ:=Grow.cells (w:=wr);clear fD hg hy ir vG hb
    go_upto_region 8 with fail
    refine bX (fun V=>Below wr.heap.size wr V) [(0,false),(1,false),(2,false),(3,false),(4,false),(5,false),(6,false),(7,false),(8,false),(9,false),(10,false),(11,true),(12,false),(13,false),(14,false),(15,false)] (by kernel_rfl) (by kernel_rfl) (fun c a d v w h=>by cases d<;>exact h) (by (repeat (first|exact Below.refl _ _|assumption|refine Below.drew ?_|refine cp ?_|refine Below.setCell ?_ (by first|omega|(simp<;>omega)) _|refine Below.alloc ?_ (by first|omega|(simp<;>omega)) _))) ?_;simp only [aP,nth]
    repeat (first|(refine aB (v:= ?_) (by rfl) ?_ ?_;rotate_left;(rintro W hW;go_simp;with_reducible rfl);simp only [ag,List.set])|(refine aC (by rfl) ?_;simp only [ag,List.set]))
    clear t0 t1 t2 t3 c0 c1 c2 c3;refine bj (by rfl) (by go_simp) (jP.out _) ?_;rintro e w2 ⟨rfl,hg2⟩;have hg3:=(Grow.drew wr).trans hg2;refine ⟨_,rfl,hg3,?_⟩
    try first|simp only [ag,List.set]|simp only [aD]
    have kq:=ae (Hg.out.trans hg3);clear hg2 hg3 aQ
    repeat (first|(refine aB (v:= ?_) (by rfl) ?_ ?_;rotate_left;(rintro W hW;go_simp;with_reducible rfl);simp only [ag,List.set])|(refine aC (by rfl) ?_;simp only [ag,List.set]))
    refine bm ?_;go_wp2;go_ret2;exact ⟨_,rfl,bT.out.trans kq.out⟩
   ·have m1:¬ (hi:Int)<(ys.length:Int):=by omega
    have m2:decide (hi<ys.length)=false:=decide_eq_false mW;clear hb hg
    go_upto_region 8 with fail
    refine bX (fun V=>Below wr.heap.size wr V) [(0,false),(1,false),(2,false),(3,false),(4,false),(5,false),(6,false),(7,false),(8,false),(9,false),(10,false),(11,true),(12,false),(13,false),(14,false),(15,false)] (by kernel_rfl) (by kernel_rfl) (fun c a d v w h=>by cases d<;>exact h) (by (repeat (first|exact Below.refl _ _|assumption|refine Below.drew ?_|refine cp ?_|refine Below.setCell ?_ (by first|omega|(simp<;>omega)) _|refine Below.alloc ?_ (by first|omega|(simp<;>omega)) _))) ?_;simp only [aP,nth]
    repeat (first|(refine aB (v:= ?_) (by rfl) ?_ ?_;rotate_left;(rintro W hW;go_simp;with_reducible rfl);simp only [ag,List.set])|(refine aC (by rfl) ?_;simp only [ag,List.set]))
    refine Rz (by rfl) (by (repeat (first|exact Below.refl _ _|assumption|refine Below.drew ?_|refine cp ?_|refine Below.setCell ?_ (by first|omega|(simp<;>omega)) _|refine Below.alloc ?_ (by first|omega|(simp<;>omega)) _))) ?_
    try first|simp only [ag,List.set]|simp only [aD]
    repeat (first|(refine aB (v:= ?_) (by rfl) ?_ ?_;rotate_left;(rintro W hW;go_simp;with_reducible rfl);simp only [ag,List.set])|(refine aC (by rfl) ?_;simp only [ag,List.set]))
    refine bm ?_;go_wp2;go_ret2;exact ⟨by simp,bT.out.trans (Hg.out.trans (Grow.drew wr))⟩
structure pX (N:Nat→Prop) (w:World) (tb:Nat) (l:List En):Prop where
 cells:∃ (v fv:Value) (nb:Int) (ys:List Ev),w.heap[tb]?=some (.cells #[v,.int .i64 nb,fv] 251 (0,0))∧ys.map Ev.e=l∧Es N w v ys
 own:N tb
 ord:cQ l
 len:l.length≤1000000
 vals:∀ x∈l,x.val.length≤33554432
theorem pX.kp {N:Nat→Prop} {w w':World} {tb:Nat} {l:List En} (h:pX N w tb l) (k:Kp N w w'):pX N w' tb l:=by
 obtain ⟨v,fv,nb,ys,h1,h2,h3⟩:=h.cells;exact ⟨⟨v,fv,nb,ys,(k.same tb h.own (af h1)).trans h1,h2,h3.kp k⟩,h.own,h.ord,h.len,h.vals⟩
theorem pX.mono {N M:Nat→Prop} {w:World} {tb:Nat} {l:List En} (h:pX N w tb l) (hM:∀ b,N b→M b):pX M w tb l:=by
 obtain ⟨v,fv,nb,ys,h1,h2,h3⟩:=h.cells;exact ⟨⟨v,fv,nb,ys,h1,h2,h3.mono hM⟩,hM _ h.own,h.ord,h.len,h.vals⟩
theorem azP {N:Nat→Prop} {w:World} {tb:Nat} {l:List En} (h:pX N w tb l) (key:ByteArray) {up:Nat}:
  Calls Tryz.prog 154 #[.pointer (some ⟨tb,0,none⟩),.string key,.int .u64 up] w fun e w'=>e= .returned (.int .i64 ((gp (spot key up) l).length:Nat))∧Grow w w':=by
 obtain ⟨v,fv,nb,ys,h1,h2,h3⟩:=h.cells;have hb:=azM h3 (by have:=h.len;rw [←h2,List.length_map] at this;omega) (by rw [h2];exact h.ord) (vN key up) (xa:=none) (xl:=0) (xc:=0) rfl;rw [h2] at hb;have Hb:=ae hb;have c0:w.cell? ⟨tb,0,none⟩=some v:=by simp [World.cell?,h1]
 have lt:=af h1;obtain ⟨va,vc,rfl⟩:=h3.slice;clear h h1 h2 h3 hb;go_enter Tryz.func154,Tryz.ntmps154
 go_wp2_with fail
 (with_reducible refine Hb.out.mono ?_);rintro e w2 ⟨b,rfl,hg⟩;have Hg:=ae hg;clear hg;go_wp2;go_ret;exact ⟨rfl,Hg.out⟩
theorem azQ (x:En) (l:List En):gq x l=l.drop (gp x l).length:=by
 conv=>rhs;rw [←tS x l]
 rw [tS x l];have h:=tS x l;have:(gp x l++gq x l).drop (gp x l).length=gq x l:=List.drop_left;rw [h] at this;exact this.symm
def azR (w:World) (b:Option En) (e:Ending) (w':World):Prop:=
 (match b with
  |none=>e= .returned (.tuple #[.agg #[.string ⟨#[]⟩,.int .u64 0,.bool false,.slice none 0 0],.bool false])
  |some x=>∃ sv,e= .returned (.tuple #[.agg (bQ ⟨x,sv⟩),.bool true])∧aG w.heap.size w' sv x.val)∧Grow w w'
theorem azS {N:Nat→Prop} {w:World} {tb:Nat} {l:List En} (h:pX N w tb l) (key:ByteArray) {up:Nat}:
  Calls Tryz.prog 275 #[.pointer (some ⟨tb,0,none⟩),.string key,.int .u64 up] w (azR w (eK key up l)):=by
 have ai:=Grow.alloc w (.cells #[.string ⟨#[]⟩,.int .u64 0,.bool false,.slice none 0 0] 60);have ep:=aw w (.cells #[.string ⟨#[]⟩,.int .u64 0,.bool false,.slice none 0 0] 60);have xO:=aep (key:=key) (up:=up) h.ord;rw [azQ] at xO;have hpl:=fun W (hg:Grow w W)=>azP (h.kp (.bF hg)) key (up:=up)
 have ml:=aiy (spot key up) l;have aiC:=h.vals;have mW:=h.len;generalize (gp (spot key up) l).length=i at*;obtain ⟨v,fv,nb,ys,h1,h2,h3⟩:=h.cells;have dX:ys.length=l.length:=by rw [←h2,List.length_map]
 have OC:=ae hpl;have bT:=ae ai;have kA:=ae ep;have Hb:=ae xO;have H:=ae (ah h1 (ah h2 (ah h3 dX)));have Hv:=ae aiC;obtain ⟨va,vc,rfl⟩:=h3.slice;clear h h1 h2 h3 hpl ai ep xO dX aiC;go_enter Tryz.func275,Tryz.ntmps275
 go_wp2_with fail
 generalize w.alloc (.cells #[.string ⟨#[]⟩,.int .u64 0,.bool false,.slice none 0 0] 60)=w1 at*;(with_reducible refine (OC.out w1 bT.out).mono ?_);rintro e w2 ⟨rfl,hg2⟩;have nV:=bT.out.trans hg2;obtain ⟨h1,h2,h3,dX⟩:=H.out;have dp:=nV.heap h1;have s0:w2.cell? ⟨tb,0,none⟩=some (.slice va ys.length vc):=by simp [World.cell?,dp]
 have lt:=af dp;have zl:=hg2.heap kA.out;obtain ⟨r0,r1,r2,r3⟩:=cK zl;have lr:=af zl;have fr:∀ j,w2.frozen? ⟨w.heap.size,j,none⟩=false:=fun j=>by simp [World.frozen?,zl]
 have jT:=ae nV;rcases Nat.lt_or_ge i l.length with kO|kO
 ·obtain ⟨y,b,o,c,ya,yc,hy,hv,cZ,ir,vG,c0,c1,c2,c3⟩:=h3.read nV (i:=i) (by omega)
  cases hv;have hle:l[i]=y.e:=by
   have:(ys.map Ev.e)[i]?=some y.e:=by rw [List.getElem?_map,hy];rfl
   rw [h2,List.getElem?_eq_getElem kO] at this;exact bB this
  have oM:eK key up l=if y.e.key=key then some y.e else none:=by
   rw [Hb.out,List.drop_eq_getElem_cons kO,hle]
  have hap:=fun W (hg:Grow w2 W)=>aeD (vG.grow hg) (by have:=Hv.out y.e (by rw [←h2];exact List.mem_map.2 ⟨y,dY hy,rfl⟩);omega)
  have ey:bQ y=#[.string y.e.key,.int .u64 y.e.seq,.bool y.e.gone,.slice ya y.e.val.length yc]:=by rw [←ir]
  rw [ey] at hap;have eG:=ae (hap w2 (Grow.refl w2));have i0:(0:Int)≤(i:Int):=by omega
  have i1:(i:Int)<(ys.length:Int):=by omega
  have pS:=ae oM;have uq:=ae zl;clear h1 h2 h3 nV hg2 dp hy ir vG hle oM hap ey zl dX;by_cases hk:y.e.key=key
  ·have sS:(y.e.key.toList==key.toList)=true:=by rw [hk];simp
   have Hk:=ae hk;clear hk
   go_wp2_with fail
   (with_reducible refine eG.out.mono ?_);rintro e w3 ⟨sv,rfl,ho,hg3⟩;obtain ⟨sa,sc,rfl⟩:=ho.slice;have KY:=hg3.heap uq.out;obtain ⟨r0,r1,r2,r3⟩:=cK KY;have TV:=af KY;have fr3:∀ j,w3.frozen? ⟨w.heap.size,j,none⟩=false:=fun j=>by simp [World.frozen?,KY]
   have y1:=zV (v0:= .string y.e.key) (v1:= .int .u64 y.e.seq) (v2:= .bool y.e.gone) (v3:= .slice sa y.e.val.length sc) KY;have hle:w.heap.size≤w.heap.size:=ay _;have dG:Below w.heap.size w w3:=jT.out.trans hg3;have gJ:aG w.heap.size (iG w3 w.heap.size (.string y.e.key) (.int .u64 y.e.seq) (.bool y.e.gone) (.slice sa y.e.val.length sc)) (.slice sa y.e.val.length sc) y.e.val∧Below w.heap.size w (iG w3 w.heap.size (.string y.e.key) (.int .u64 y.e.seq) (.bool y.e.gone) (.slice sa y.e.val.length sc)):=by
    refine ⟨(ho.mono jT.out.size).keep (fun g hg=>qR (fun e=> ?_) _ _ _ _),(((dG.setCell (p:=⟨w.heap.size,0,none⟩) hle _).setCell (p:=⟨w.heap.size,1,none⟩) hle _).setCell (p:=⟨w.heap.size,2,none⟩) hle _).setCell (p:=⟨w.heap.size,3,none⟩) hle _⟩;have h5:=(ho.lt hg).1;have h6:=af uq.out;omega
   have cS:=ae gJ;have Hy:=ae (cK y1);clear gJ y1 dG ho hg3 KY;go_wp2;obtain ⟨z0,z1,z2,z3⟩:=Hy.out;refine bodyPost_ret (v:= .tuple #[.agg #[.string y.e.key,.int .u64 y.e.seq,.bool y.e.gone,.slice sa y.e.val.length sc],.bool true]) (by simp [results,Tryz.results275,go_sem,z0,z1,z2,z3]) rfl ?_;refine ⟨?_,cS.out.2⟩;rw [pS.out,if_pos Hk.out];exact ⟨_,rfl,cS.out.1⟩
  ·have sS:(y.e.key.toList==key.toList)=false:=by
    simp only [beq_eq_false_iff_ne,ne_eq];intro e;rw [ByteArray.toList_eq,ByteArray.toList_eq] at e;exact hk (EW e)
   have Hk:=ae hk;clear hk;have q0:=dN (v:= .string ⟨#[]⟩) (i:=0) uq.out rfl;have q1:=dN (v:= .int .u64 0) (i:=1) uq.out rfl;have q2:=dN (v:= .bool false) (i:=2) uq.out rfl;have q3:=dN (v:= .slice none 0 0) (i:=3) uq.out rfl;go_wp2;refine bodyPost_ret (v:= .tuple #[.agg #[.string ⟨#[]⟩,.int .u64 0,.bool false,.slice none 0 0],.bool false]) (by simp [results,Tryz.results275,go_sem,r0,r1,r2,r3]) rfl ?_;refine ⟨?_,jT.out⟩;rw [pS.out,if_neg Hk.out]
 ·have oM:eK key up l=none:=by rw [Hb.out,List.drop_of_length_le kO]
  have pS:=ae oM;have uq:=ae zl;have i1:¬ (i:Int)<(ys.length:Int):=by omega
  have i2:decide (i<ys.length)=false:=decide_eq_false (by omega);clear h1 h2 h3 nV hg2 dp oM zl dX;have q0:=dN (v:= .string ⟨#[]⟩) (i:=0) uq.out rfl;have q1:=dN (v:= .int .u64 0) (i:=1) uq.out rfl;have q2:=dN (v:= .bool false) (i:=2) uq.out rfl;have q3:=dN (v:= .slice none 0 0) (i:=3) uq.out rfl;go_wp2;refine bodyPost_ret (v:= .tuple #[.agg #[.string ⟨#[]⟩,.int .u64 0,.bool false,.slice none 0 0],.bool false]) (by simp [results,Tryz.results275,go_sem,r0,r1,r2,r3]) rfl ?_;refine ⟨?_,jT.out⟩;rw [pS.out]
def yb (a:Option En) (b:Option En):Option En:=
 match b with
 |none=>a
 |some x=>match a with
  |none=>some x
  |some y=>if y.seq<x.seq then some x else some y
def Dq (key:ByteArray) (up:Nat) (ls:List (List En)):Option En:=(ls.map (eK key up)).foldl yb none
theorem aiD (key:ByteArray) (up:Nat) (ls:List (List En)) (l:List En):Dq key up (ls++ [l])=yb (Dq key up ls) (eK key up l):=by simp [Dq]
abbrev zEn:En:=⟨⟨#[]⟩,0,false,[]⟩
structure KZ (w:World) (pb:Nat) (acc:Option En) (x:En) (sv:Value) (wr:World):Prop where
 cell:wr.heap[pb]?=some (.cells (bQ ⟨x,sv⟩) 60 (0,0))
 own:aG w.heap.size wr sv x.val
 is:acc=some x∨acc=none
 grow:Grow w wr
theorem KZ.step {w wr w':World} {pb:Nat} {acc:Option En} {x:En} {sv:Value} (h:KZ w pb acc x sv wr) (hg:Grow wr w'):KZ w pb acc x sv w':=
 ⟨hg.heap h.cell,h.own.grow hg,h.is,h.grow.trans hg⟩
def La (w:World) (pb:Nat) (key:ByteArray) (up:Nat) (ls:List (List En)) (sb:Nat) (cur:Array Value) (fv iv:Value) (wr:World):Prop:=
 ∃ (i:Nat) (acc:Option En) (x:En) (sv:Value),fv= .bool acc.isSome∧iv= .int .i64 (i:Int)∧i≤ls.length∧acc=Dq key up (ls.take i)∧KZ w pb acc x sv wr∧wr.heap[sb]?=some (.cells cur 113 (0,0))
def AA (w:World) (r:Option En) (e:Ending) (w':World):Prop:=
 (match r with
  |none=>e= .returned (.tuple #[.slice none 0 0,.bool false])
  |some x=>if x.gone then e= .returned (.tuple #[.slice none 0 0,.bool false]) else ∃ v,e= .returned (.tuple #[v,.bool true])∧aG w.heap.size w' v x.val)∧Grow w w'
theorem Tryz.azT (v:Value) (w:World):(method 492 89 v "Get").run Tryz.prog w= .ok (272,v) w:=by kernel_rfl
theorem Tryz.azU (v:Value) (w:World):(method 492 143 v "Get").run Tryz.prog w= .ok (275,v) w:=by kernel_rfl
theorem azV {N:Nat→Prop} {w:World} {db sb p:Nat} {o:Od} {drv lv:Value} {mb tm seq hm:Nat} {tv:Value} {V:bu} {k:Int} {B':Nat} (hC:dT w db sb o drv lv mb tm seq hm) (hS:dy w sb p tv V k) (hown:Mn.Own B' w tv V.tabs) (xY:V.tabs.length≤100000)
  {g:Int→Option Value} {m:Nat} (hM:fA w tm encI g m) {tbs:List Nat} (iz:tbs.length=V.tabs.length) (dp:∀ (i:Nat) (t:Tb) (b:Nat),V.tabs[i]?=some t→tbs[i]?=some b→g t.file=some (.pointer (some ⟨b,0,none⟩)))
  {ha:Nat} {ns:List Nd} {aM:Nat} {dv:Value} {ds:List Int} (aiF:cX N w mb ha ns aM dv ds) (hN:∀ b,N b→b<w.heap.size) (hval:∀ n∈ns,n.x.e.val.length≤1000000000000)
  {lss:List (List En)} (ml:lss.length=tbs.length) (hss:∀ (i:Nat) (b:Nat) (l:List En),tbs[i]?=some b→lss[i]?=some l→pX N w b l) (key:ByteArray) {up:Nat} (xN:up<18446744073709551616):
  Calls Tryz.prog 16 #[.pointer (some ⟨db,0,none⟩),.string key,.int .u64 (up:Int)] w (AA w (Dq key up (ns.map (fun n=>n.x.e)::lss))):=by
 have ai:=Grow.alloc w (.cells #[.string ⟨#[]⟩,.int .u64 0,.bool false,.slice none 0 0] 60);have dw:=aw w (.cells #[.string ⟨#[]⟩,.int .u64 0,.bool false,.slice none 0 0] 60);have uK:=azl (hC.grow ai) (hS.grow ai) (ek hown ai) xY (hM.grow ai) iz dp;have hst:KZ w w.heap.size none zEn (.slice none 0 0) (w.alloc (.cells #[.string ⟨#[]⟩,.int .u64 0,.bool false,.slice none 0 0] 60)):=⟨dw,mi _ _ _,.inr rfl,ai⟩
 have Lb:∀ (i:Nat) (l:List En) (u:Value) (W:World),Grow w W→(ns.map (fun n=>n.x.e)::lss)[i]?=some l→(oT mb tbs)[i]?=some u→(u= .iface 89 (.pointer (some ⟨mb,0,none⟩))∧Calls Tryz.prog 272 #[.pointer (some ⟨mb,0,none⟩),.string key,.int .u64 (up:Int)] W (Wm W (eK key up l)))∨(∃ b,u= .iface 143 (.pointer (some ⟨b,0,none⟩))∧Calls Tryz.prog 275 #[.pointer (some ⟨b,0,none⟩),.string key,.int .u64 (up:Int)] W (Wm W (eK key up l))):=by
  intro i l u W hg hl hu;cases i with
  |zero=>
   left;simp only [List.getElem?_cons_zero,Option.some.injEq] at hl;simp only [oT,List.getElem?_cons_zero,Option.some.injEq] at hu;subst hl;exact ⟨hu.symm,aye (aiF.grow hg) (fun b hb=>cj (hN b hb) hg.size) hval key xN⟩
  |succ i=>
   right;simp only [List.getElem?_cons_succ] at hl;simp only [oT,List.getElem?_cons_succ,List.getElem?_map] at hu;cases hb:tbs[i]? with
   |none=>rw [hb] at hu;cases hu
   |some b=>
    rw [hb] at hu;simp only [Option.map_some,Option.some.injEq] at hu;exact ⟨b,hu.symm,azS ((hss i b l hb hl).kp (.bF hg)) key⟩
 have hlen:(oT mb tbs).length=(ns.map (fun n=>n.x.e)::lss).length:=by simp [oT,ml]
 have hl6:(ns.map (fun n=>n.x.e)::lss).length≤200000:=by simp only [List.length_cons];omega
 have aiH:=ae uK;have bI:=ae hst;have Qd:=ae Lb;have oJ:=ae hlen;clear ai dw uK hst Lb hC hS hown hM aiF hN hval hss dp hlen iz ml xY;generalize (ns.map (fun n=>n.x.e)::lss)=ls at*;go_enter Tryz.func16,Tryz.ntmps16
 go_upto_region 2 with fail
 generalize w.alloc (.cells #[.string ⟨#[]⟩,.int .u64 0,.bool false,.slice none 0 0] 60)=w1 at*;obtain ⟨pb,zZ⟩:∃ pb,pb=w.heap.size:=⟨_,rfl⟩
 rw [←zZ] at bI ⊢;have Aa:=ae zZ;clear zZ
 go_wp2_with fail
 (with_reducible refine aiH.out.mono ?_);rintro e w2 ⟨v,rfl,hrow,hg2⟩;rcases id hrow with ⟨_,h0⟩|⟨gs,cap,cur,rfl,hB,ej,hn,hc,hmx,cC⟩
 ·exfalso;cases h0
 have hlen:=oJ.out;have hat:∀ (i:Nat) (u:Value),(oT mb tbs)[i]?=some u→∀ W:World,W.heap[gs]?=some (.cells cur 113 (0,0))→W.cell? ⟨gs,i,none⟩=some u:=fun i u hu W hW=>by
  have h1:=Go.Gl.Row1.cells hrow rfl hu;simp only [World.cell?,ej] at h1;simp only [World.cell?,hW];exact h1
 rw [hlen];have Nt:Hid (La w pb key up ls gs cur (.bool false) (.int .i64 0) w2):=ae ⟨0,none,zEn,.slice none 0 0,rfl,rfl,bk _,rfl,bI.out.step hg2,ej⟩;have Qe:=ae hat;have lgs:=af ej;clear hrow hB ej hn hc hmx cC hat hg2 bI aiH hlen
 go_wp2_with fail
 go_loopw [9,17] (fun fv iv wr=>La w pb key up ls gs cur fv iv wr) (fun _ iv _=>ls.length-(intOf iv).toNat)
 case atStart=>exact Nt.out
 case round=>
  clear Nt;obtain ⟨i,acc,x,sv,rfl,rfl,hi,Lc,hs,ej⟩:=hrel;by_cases hlt:i<ls.length
  ·obtain ⟨l,hl⟩:∃ l,ls[i]?=some l:=⟨ls[i],by simp [hlt]⟩
   obtain ⟨u,hu⟩:∃ u,(oT mb tbs)[i]?=some u:=⟨(oT mb tbs)[i]'(by rw [oJ.out];exact hlt),by simp [oJ.out,hlt]⟩
   have WW:=Qe.out i u hu wr ej;have lg:=af ej;have dJ:(i:Int)<(ls.length:Int):=by omega
   have bK:(0:Int)≤(i:Int):=by omega
   have eE:IntKind.i64.wrap ((i:Int)+1)=(i:Int)+1:=aR _ (by omega);have df:Dq key up (ls.take (i+1))=yb acc (eK key up l):=by rw [take_one hl,aiD,Lc]
   have lQ:=ae df;have Hs:=ae hs;have Kt:=ae ej;clear df hs Lc ej;rcases Qd.out i l u wr Hs.out.grow hl hu with ⟨rfl,fD⟩|⟨b,rfl,fD⟩
   have lH:=Tryz.azT (.pointer (some ⟨mb,0,none⟩)) wr;rotate_left;have lH:=Tryz.azU (.pointer (some ⟨b,0,none⟩)) wr
   all_goals
    have jP:=ae fD;clear fD hl hu
    go_wp2_with fail
    (with_reducible refine jP.out.mono ?_);rintro e w3 hp;clear lH jP WW lg;cases oM:eK key up l with
    |none=>
     rw [oM] at hp;obtain ⟨rfl,hg3⟩:=hp;have ai:=hg3.trans (Grow.alloc w3 (.cells #[.string ⟨#[]⟩,.int .u64 0,.bool false,.slice none 0 0] 60));have hrel:La w pb key up ls gs cur (.bool acc.isSome) (.int .i64 ((i:Int)+1)) (w3.alloc (.cells #[.string ⟨#[]⟩,.int .u64 0,.bool false,.slice none 0 0] 60)):=⟨i+1,acc,x,sv,rfl,by simp,hlt,by rw [lQ.out,oM];rfl,Hs.out.step ai,ai.heap Kt.out⟩
     have bq:=ae hrel;clear hrel ai hg3 oM;go_wp2;go_roundw
     case rel=>exact bq.out
     case measure=>simp [intOf];omega
    |some y=>
     rw [oM] at hp;obtain ⟨⟨ys,rfl,bJ⟩,hg3⟩:=hp;have pS:=ae oM;clear oM;have WX:=Hs.out.is;obtain ⟨yk,yq,yg,yd⟩:=y;obtain ⟨xk,xq,xg,xd⟩:=x;obtain ⟨ya,yc,rfl⟩:=bJ.slice;obtain ⟨xa,xc,rfl⟩:=Hs.out.own.slice;dsimp only at bJ;have ai:=Grow.alloc w3 (.cells #[.string yk,.int .u64 (yq:Int),.bool yg,.slice ya yd.length yc] 60);have dp:(w3.alloc (.cells #[.string yk,.int .u64 (yq:Int),.bool yg,.slice ya yd.length yc] 60)).heap[w3.heap.size]?=some (.cells #[.string yk,.int .u64 (yq:Int),.bool yg,.slice ya yd.length yc] 60 (0,0)):=aw _ _;have gh:=hg3.trans ai;have ot:(w3.alloc (.cells #[.string yk,.int .u64 (yq:Int),.bool yg,.slice ya yd.length yc] 60)).heap[pb]?=some (.cells #[.string xk,.int .u64 (xq:Int),.bool xg,.slice xa xd.length xc] 60 (0,0)):=gh.heap Hs.out.cell;obtain ⟨p0,p1,p2,p3⟩:=bZ ot;obtain ⟨q0,q1,q2,q3⟩:=bZ dp;have lp:=af ot;have lq:=af dp;have fp:∀ j,(w3.alloc (.cells #[.string yk,.int .u64 (yq:Int),.bool yg,.slice ya yd.length yc] 60)).frozen? ⟨pb,j,none⟩=false:=fun j=>by simp [World.frozen?,ot]
     have ji:=Hs.out.step gh;have Ld:=gh.heap Kt.out;have WY:=bJ.grow ai;have cE:=Go.Gl.aI (Go.Gl.aI (Go.Gl.aI (Go.Gl.aI ot 0 (.string yk)) 1 (.int .u64 (yq:Int))) 2 (.bool yg)) 3 (.slice ya yd.length yc);have iw:=fun (c:Nat) (hc:c≠pb)=>Et (w:=w3.alloc (.cells #[.string yk,.int .u64 (yq:Int),.bool yg,.slice ya yd.length yc] 60)) hc (.string yk) (.int .u64 (yq:Int)) (.bool yg) (.slice ya yd.length yc)
     have hgr:=uU ji.grow (Nat.le_of_eq Aa.out.symm) (.string yk) (.int .u64 (yq:Int)) (.bool yg) (.slice ya yd.length yc)
     go_upto_region 7 with fail
     generalize w3.alloc (.cells #[.string yk,.int .u64 (yq:Int),.bool yg,.slice ya yd.length yc] 60)=w4 at*;have gO:yb acc (some ⟨yk,yq,yg,yd⟩)=some ⟨yk,yq,yg,yd⟩→La w pb key up ls gs cur (.bool true) (.int .i64 ((i:Int)+1)) ((((w4.setCell ⟨pb,0,none⟩ (.string yk)).setCell ⟨pb,1,none⟩ (.int .u64 (yq:Int))).setCell ⟨pb,2,none⟩ (.bool yg)).setCell ⟨pb,3,none⟩ (.slice ya yd.length yc)):=fun dV=>by
      refine ⟨i+1,some ⟨yk,yq,yg,yd⟩,⟨yk,yq,yg,yd⟩,.slice ya yd.length yc,rfl,by simp,hlt,by rw [lQ.out,pS.out,dV],⟨cE,?_,.inl rfl,hgr⟩,?_⟩
      ·refine (WY.mono Hs.out.grow.size).keep (fun b hb=>iw b (fun e=> ?_))
       obtain ⟨cur',hc'⟩:=WY.block hb;rw [e,ot] at hc';exact absurd (cA (bB hc')).2.1 (by decide)
      ·refine (iw gs (fun e=> ?_)).trans Ld
       rw [e,ot] at Ld;exact absurd (cA (bB Ld)).2.1 (by decide)
     have jY:=ae gO;have gU:Hid (yb acc (some ⟨yk,yq,yg,yd⟩)=acc→La w pb key up ls gs cur (.bool acc.isSome) (.int .i64 ((i:Int)+1)) w4):=ae (fun dV=>⟨i+1,acc,⟨xk,xq,xg,xd⟩,.slice xa xd.length xc,rfl,by simp,hlt,by rw [lQ.out,pS.out,dV],ji,Ld⟩);clear gO cE iw hgr ji Ld WY bJ hg3 ai gh ot dp Hs Kt lQ;rcases WX with rfl|rfl
     ·by_cases hlq:xq<yq
      ·have azW:(xq:Int)<(yq:Int):=by omega
       have dV:=jY.out (by simp [yb,hlq]);have bq:=ae dV;clear dV jY gU;go_wp2;go_roundw
       case rel=>exact bq.out
       case measure=>simp [intOf];omega
      ·have azW:¬ (xq:Int)<(yq:Int):=by omega
       have aHC:(yq:Int)≤(xq:Int):=by omega
       have dV:=gU.out (by simp [yb,hlq]);have bq:=ae dV;clear dV jY gU;go_wp2;go_roundw
       case rel=>exact bq.out
       case measure=>simp [intOf];omega
     ·have dV:=jY.out (by simp [yb])
      have bq:=ae dV;clear dV jY gU;go_wp2;go_roundw
      case rel=>exact bq.out
      case measure=>simp [intOf];omega
  ·obtain rfl:i=ls.length:=by omega
   rw [List.take_length] at Lc;have WZ:=ae Lc;have Hs:=ae hs;have WX:=hs.is;obtain ⟨xk,xq,xg,xd⟩:=x;obtain ⟨p0,p1,p2,p3⟩:=bZ hs.cell;obtain ⟨xa,xc,rfl⟩:=hs.own.slice;have lp:=af hs.cell;clear hs Lc ej;rcases WX with rfl|rfl
   ·cases xg with
    |true=>
     go_wp2;refine bodyPost_ret (v:= .tuple #[.slice none 0 0,.bool false]) ?_ rfl ?_
     ·simp [results,Tryz.results16,go_sem]
     ·exact ⟨by rw [←WZ.out];rfl,Hs.out.grow⟩
    |false=>
     go_wp2;refine bodyPost_ret (v:= .tuple #[.slice xa xd.length xc,.bool true]) ?_ rfl ?_
     ·simp [results,Tryz.results16,go_sem]
     ·exact ⟨by rw [←WZ.out];exact ⟨_,rfl,Hs.out.own⟩,Hs.out.grow⟩
   ·go_wp2
    refine bodyPost_ret (v:= .tuple #[.slice none 0 0,.bool false]) ?_ rfl ?_
    ·simp [results,Tryz.results16,go_sem]
    ·exact ⟨by rw [←WZ.out],Hs.out.grow⟩
theorem azX {w:World} {db:Nat} {key:ByteArray} {r:Option En} (h:Calls Tryz.prog 16 #[.pointer (some ⟨db,0,none⟩),.string key,.int .u64 18446744073709551615] w (AA w r)):
  Calls Tryz.prog 15 #[.pointer (some ⟨db,0,none⟩),.string key] w (AA w r):=by
 have H:=ae h;clear h;go_enter Tryz.func15,Tryz.ntmps15
 go_wp2_with fail
 (with_reducible refine H.out.mono ?_);rintro e w1 ⟨hp,hg⟩;have Hg:=ae hg;clear hg;cases r with
 |none=>
  obtain rfl:=hp;go_wp2;refine bodyPost_ret (v:= .tuple #[.slice none 0 0,.bool false]) ?_ rfl ?_
  ·simp [results,Tryz.results15,go_sem]
  ·exact ⟨rfl,Hg.out⟩
 |some x=>
  dsimp only at hp;by_cases hx:x.gone=true
  ·rw [if_pos hx] at hp
   subst hp;go_wp2;refine bodyPost_ret (v:= .tuple #[.slice none 0 0,.bool false]) ?_ rfl ?_
   ·simp [results,Tryz.results15,go_sem]
   ·exact ⟨by dsimp only;rw [if_pos hx],Hg.out⟩
  ·rw [if_neg hx] at hp
   obtain ⟨v,rfl,ho⟩:=hp;obtain ⟨va,vc,rfl⟩:=ho.slice;have Ho:=ae ho;clear ho;go_wp2;refine bodyPost_ret (v:= .tuple #[.slice va x.val.length vc,.bool true]) ?_ rfl ?_
   ·simp [results,Tryz.results15,go_sem]
   ·exact ⟨by dsimp only;rw [if_neg hx];exact ⟨_,rfl,Ho.out⟩,Hg.out⟩
def ye (o:Od):Prop:=1≤o.zero∧o.zero≤100∧1≤o.base∧o.base≤1073741824∧1≤o.table∧o.table≤67108864
instance (o:Od):Decidable (ye o):=by unfold ye;infer_instance
theorem azY (o:Od) (w:World):Calls Tryz.prog 21 #[.agg #[.int .i64 o.zero,.int .i64 o.base,.int .i64 o.table]] w fun e w'=>e= .returned (.int .i64 (if ye o then 0 else 1))∧Grow w w':=by
 obtain ⟨c,hc⟩:∃ c:Int,c=if ye o then 0 else 1:=⟨_,rfl⟩
 rw [←hc];have Hc:=ae hc;clear hc;go_enter Tryz.func21,Tryz.ntmps21;go_wp2
 all_goals
  go_ret;refine ⟨?_,((Grow.alloc _ _).trans (Grow.alloc _ _)).trans (Grow.alloc _ _)⟩
  first
   |(rw [Hc.out,if_pos (by unfold ye;omega)];rfl)
   |(rw [Hc.out,if_neg (by unfold ye;omega)];rfl)
def pY (o:Od):Prop:=(1≤o.mem∧o.mem≤67108864∧1≤o.block∧o.block≤67108864)∧ye o
instance (o:Od):Decidable (pY o):=by unfold pY;infer_instance
abbrev sN (o:Od) (drv:Value):Value:= .agg #[.int .i64 o.mem,.int .i64 o.block,.int .i64 o.zero,.int .i64 o.base,.int .i64 o.table,drv]
theorem aiJ (o:Od) (drv:Value) (w:World):Calls Tryz.prog 22 #[sN o drv] w fun e w'=>e= .returned (.int .i64 (if pY o then 0 else 1))∧Grow w w':=by
 obtain ⟨c,hc⟩:∃ c:Int,c=if pY o then 0 else 1:=⟨_,rfl⟩
 rw [←hc];have Hc:=ae hc;have Hs:=ae (fun W=>azY o W);obtain ⟨d,hd⟩:∃ d:Int,d=if ye o then 0 else 1:=⟨_,rfl⟩
 rw [←hd] at Hs;have Hd:=ae hd;clear hc hd;by_cases h4:1≤o.mem∧o.mem≤67108864∧1≤o.block∧o.block≤67108864
 ·have Cq:c=d:=by
   rw [Hc.out,Hd.out];by_cases hs:ye o
   ·rw [if_pos hs,if_pos ⟨h4,hs⟩]
   ·rw [if_neg hs,if_neg (fun h=>hs h.2)]
  have Hcd:=ae Cq;obtain ⟨a1,a2,a3,a4⟩:=h4;have b1:¬ o.mem<1:=by omega
  have b2:¬ 67108864<o.mem:=by omega
  have b3:¬ o.block<1:=by omega
  have b4:¬ 67108864<o.block:=by omega
  clear Cq;go_enter Tryz.func22,Tryz.ntmps22
  go_wp2_with fail
  (with_reducible refine (Hs.out _).mono ?_);rintro e w1 ⟨rfl,hg⟩;go_wp2;go_ret;exact ⟨by rw [Hcd.out];rfl,(Grow.alloc _ _).trans hg⟩
 ·have hc1:c=1:=by rw [Hc.out,if_neg (fun h=>h4 h.1)]
  have pn:=ae hc1;clear hc1;go_enter Tryz.func22,Tryz.ntmps22
  go_wp2_with fail
  all_goals first
   |(exfalso;omega)
   |(go_ret;exact ⟨by rw [pn.out];rfl,Grow.alloc _ _⟩)
end Go.Proofs.YtoolkdapflaeeaaGreatDoor
