/- Helpers. -/
import Derived.Test.YtoolkdapflaeeaaGreatDoorW03
import Derived.Test.YtoolkdapflaeeaaGreatDoorW04
import Derived.Test.YtoolkdapflaeeaaGreatDoorW02
import Derived.Deep.CutBlock
import Derived.Deep.DeepCutAuto
set_option maxRecDepth 100000
set_option maxHeartbeats 16000000
set_option linter.unusedSimpArgs false
open Go
variable {B B' C K T Z a d i k lb n p p' qb r rb s sb : Nat} {F F' : Nat → Prop} {W W' w w' w1 wr : World} {av bv dv pv tv v x0 x1 x2 x3 x4 : Value} {born used : Int} {cs : Array Value} {f fz : Nat × Nat} {m : ByteArray} {nm x : List UInt8} {ns : List Nat}
namespace Go.Proofs.YtoolkdapflaeeaaGreatDoor
open Go.RowKit Go.Gl Go.aF Mn
theorem awW {l:List Tb} (h:Own B w v l):tB w v l:=by
 rcases h.2 with ⟨rfl,h0⟩|⟨g,cap,cur,rfl,h2,h3,h4⟩
 ·have hl:l= []:=iI h0
  subst hl;exact avD w
 ·exact ⟨_,_,rfl,.inr ⟨g,0,rfl,af h3,wC qL h⟩⟩
theorem awX {t:Array Value} (h2:t.getD 2 undef= .pointer (some ⟨rb,0,none⟩)) (hW:w.heap[rb]?=some (.cells #[x0,x1,x2,x3] 85 (0,0))):
  (results Tryz.f31 t).run Tryz.prog w= .ok (.agg #[x0,x1,x2,x3]) w:=by
 obtain ⟨k0,k1,k2,k3⟩:=dy hW;simp only [eQ] at h2;simp [results,Tryz.results31,go_sem,h2,k0,k1,k2,k3]
theorem VN {V:bI} {n:Int} (hS:eh w sb p tv V n) (hown:Own B w tv V.tabs) (hl:V.tabs.length<1000000000):
  Calls Tryz.prog 31 #[.pointer (some ⟨sb,0,none⟩)] w fun e w'=>∃ v',e= .returned (.agg (bP v' V.seq V.next V.wal))∧Own w.heap.size w' v' V.tabs∧Grow w w':=by
 have ah:Grow w (w.alloc (.cells (bP (.slice none 0 0) 0 0 0) 85)):=ar _ _;have hb:=ax w (.cells (bP (.slice none 0 0) 0 0 0) 85);have hS1:=hS.grow ah;obtain ⟨_,c1,c2,c3,c4,_,ls⟩:=hS1.cells;have gh:=ae (adU (eM hown ah) hl V.seq V.next V.wal);obtain ⟨ta,tc,rfl⟩:=jL hown;have Hb:=ae hb;have cQ:=ae ah;have hz:(w.alloc (.cells (bP (.slice none 0 0) 0 0 0) 85)).heap.size=w.heap.size+1:=by simp
 clear hS hS1 hown hb ah;go_enter Tryz.func31,Tryz.ntmps31
 go_upto_region 1 with fail
 generalize w.alloc (.cells (bP (.slice none 0 0) 0 0 0) 85)=w1 at*
 go_wp2_with fail
 (with_reducible refine gh.out.mono ?_);rintro e w2 ⟨v,rfl,ho,hg⟩;have hb2:=hg.heap Hb.out;obtain ⟨q0,q1,q2,q3⟩:=dy hb2;have lq:=af hb2;have fq:=bG hb2;obtain ⟨va,vc,rfl⟩:=jL ho;have cM:=Ap hb2 (.slice va V.tabs.length vc) (.int .u64 V.seq) (.int .i64 V.next) (.int .i64 V.wal);have hown:=CW (qK ho cQ.out.size) hb2 (.slice va V.tabs.length vc) (.int .u64 V.seq) (.int .i64 V.next) (.int .i64 V.wal);have hgr:=wE (cQ.out.trans hg) (aw _) (.slice va V.tabs.length vc) (.int .u64 V.seq) (.int .i64 V.next) (.int .i64 V.wal);have cJ:=ae (ag cM (ag hown hgr));clear ho hg hb2 cM hown hgr c1 c2 c3 c4 ls gh;go_wp2;exact bodyPost_ret (awX rfl cJ.out.1) rfl ⟨_,rfl,cJ.out.2.1,cJ.out.2.2⟩
structure Rl (B r:Nat) (w w':World):Prop where
 hold:iW r w w'
 below:Below B w w'
theorem Rl.refl (B r:Nat) (w:World):Rl B r w w:=⟨iW.refl r w,bS _ _⟩
theorem Rl.trans {a b c:World} (h:Rl B r a b) (k:Rl B r b c):Rl B r a c:=⟨h.hold.trans k.hold,h.below.trans k.below⟩
theorem Rl.grow (h:Grow w w') (hB:B≤w.heap.size):Rl B r w w':=⟨iW.grow h,h.mono hB⟩
theorem Rl.sep {f:Lk} (hd:Dl Z B w p r f T K F) (h:Sep F w w' F'):Rl B r w w':=
 ⟨iW.sep hd h,h.below (fun _ hb=>(hd.foot hb).1) hd.base⟩
theorem Rl.set (hb:w.heap[sb]?=some (.cells cs 154 f)) (hB:B≤sb) (j:Nat) (v:Value):Rl B r w (w.setCell ⟨sb,j,none⟩ v):=
 ⟨iW.set (r:=r) hb j v,(bS _ _).setCell (p:=⟨sb,j,none⟩) hB v⟩
theorem Dl.Gm {f:Lk} (h:Dl Z B w p r f T K F) (hb:w.heap[sb]?=some (.cells cs 154 fz)) (j:Nat) (v:Value):Dl Z B (w.setCell ⟨sb,j,none⟩ v) p r f T K F:=by
 have CG:=h.apart hb (by decide) (by decide) (by decide);obtain ⟨V,⟨hZ,h0,born,fs,hd,h1,h2⟩,h3,h4,h5⟩:=h;subst h2;obtain ⟨c,hm,hc⟩:=hd.map;have ho:∀ b,dt p r fs b→(w.setCell ⟨sb,j,none⟩ v).heap[b]?=w.heap[b]?:=fun b kZ=>aP _ _ _ _ (fun e=>CG (by have e':b=sb:=e;subst e';exact kZ))
 refine ⟨V,⟨hZ,h0,born,fs,⟨(ho p (.inl rfl)).trans hd.self,⟨c,(ho r (.inr (.inl rfl))).trans hm,hc⟩,hd.names,hd.sV,hd.sW,hd.rows,fun f hf=> ?_,hd.base.1,hd.base.2.1,by simpa using hd.base.2.2⟩,h1,rfl⟩,h3,h4,h5⟩;have bq:=hd.files f hf;exact ⟨(ho _ (.inr (.inr ⟨f,hf,.inl rfl⟩))).trans bq.cell,bq.row.keep (fun b hb=>ho b (.inr (.inr ⟨f,hf,.inr hb⟩))),bq.base,bq.sync⟩
theorem afI (h:Bv w v x) (hf:∀ b,v.ownBlock=some b→¬ F b) (hs:Sep F w w' F'):Bv w' v x:=by
 obtain ⟨a,c,rfl,h1,h2,h3,h4⟩:=h;refine ⟨a,c,rfl,h1,h2,h3,?_⟩;rcases h4 with h4|⟨b,o,rfl,hb,hc⟩
 ·exact .inl h4
 ·refine .inr ⟨b,o,rfl,cf hb hs.size,fun j k hk=> ?_⟩
  rw [←hc j k hk];simp only [World.cell?,hs.out b hb (hf b rfl)]
abbrev kH (n:Nat):List UInt8:=Lib.decDigits n
def PA (n:Nat) (x:List UInt8) (f:Lk):Lk:=(f.set (cX n) (x,x.length)).set tr (kH n,(kH n).length)
theorem Lk.afJ {f:Lk} {n:ByteArray} {q:List UInt8×Nat} (h:f m=none) (hne:m≠n):(f.set n q) m=none:=by rw [ik f hne];exact h
theorem awY {f:Lk} (ht:f qG=none):((((f.set (cX n) (x,x.length)).set qG (kH n,(kH n).length)).del qG).set tr (kH n,(kH n).length))=PA n x f:=by
 rw [adw,UC (Lk.afJ ht (Ne.symm (Ox n)))];rfl
theorem awZ {N:Nat} {p:Nat} {f:Lk} {sb:Nat} {tv:Value} {V:bI} {m:Int} (hS:eh w sb p tv V m) (h:Dl Z B w p r f T K F) (hB:B≤sb) (hN:dn N B w) {n:Nat} (hn:n<N) (h6:n<1000000) (hx:Bv w bv x) (ia:x.length≤1000000000000) (pJ:∀ b,bv.ownBlock=some b→¬ F b) (PB:f qG=none) (hroom:T+x.length+6≤Z):
  Calls Tryz.prog 135 #[.pointer (some ⟨sb,0,none⟩),.int .i64 n,bv] w fun e w'=>e= .returned .nilIface∧eh w' sb p tv V n∧(∃ T' F',T'≤T+x.length+6∧Dl Z B w' p r (PA n x f) T' (K+3) F')∧Rl B r w w':=by
 have oU:=FQ h6;have axa:(kH n).length≤6:=oU;obtain ⟨xa,xc,rfl⟩:=hx.slice;have Hm:=ae (JX hN hn h6);have H:=ae h;have HS:=ae hS;have HN:=ae hN;have Hx:=ae hx;have Hf:=ae pJ;clear h hS hN hx pJ;go_enter Tryz.func135,Tryz.ntmps135
 go_wp2_with fail
 (with_reducible refine Hm.out.mono ?_);rintro e w1 ⟨rfl,hg1⟩;have iE:CZ Z (cX n) x f T=(true,f.set (cX n) (x,x.length),T-kE f (cX n)+x.length):=if_pos (by omega);have Hw:=ae (aes (HS.out.grow hg1) (H.out.grow hg1) (adn h6) (Hx.out.grow hg1) ia (fun w' F' hs=>afI (Hx.out.grow hg1) Hf.out hs));rw [iE] at Hw;have eC:=ae hg1;clear hg1 iE Hm
 go_wp2_with fail
 (with_reducible refine Hw.out.mono ?_);rintro e w2 ⟨rfl,F2,cP,hs2⟩;have PC:=(Sep.bT (F:=F) eC.out).trans hs2;have AV:=HN.out.keep (w':=w2) (fun b hb=>PC.out b (by have:=H.out.base;omega) (fun hf=>by have:=(H.out.foot hf).1;omega));have Hi:=ae (AV n hn w2 (fun _ _=>rfl));have jA:=ae (HS.out.sep H.out PC);have td:=ae cP;have qR:=ae (Rl.sep H.out PC);clear hs2 cP PC AV Hw eC Hx Hf H HS HN;have ok0:okC true=0:=rfl;rw [ok0]
 go_wp2_with fail
 (with_reducible refine Hi.out.mono ?_);rintro e w3 ⟨rfl,hg3⟩;obtain ⟨cap,w4,Ax,bC,hg4⟩:=Aj ⟨(Lib.decDigits n).toArray⟩ (by simp [ByteArray.size];omega) w3;have im:=hg3.trans hg4;have jV:=td.out.grow im;have hbl:∀ b,(Value.slice (some ⟨w3.heap.size,0,none⟩) (ByteArray.size ⟨(Lib.decDigits n).toArray⟩) cap).ownBlock=some b→¬ F2 b:=fun b hb hf=>by
  have e:w3.heap.size=b:=by simpa [Value.ownBlock] using hb
  have:=(td.out.foot hf).2;have:=hg3.size;omega
 have VO:Bv w4 (.slice (some ⟨w3.heap.size,0,none⟩) (ByteArray.size ⟨(Lib.decDigits n).toArray⟩) cap) (Lib.decDigits n):=by simpa using bC
 have rC:kE (f.set (cX n) (x,x.length)) qG=0:=by unfold kE;rw [Lk.afJ PB (Ne.symm (Ox n))]
 have tE:CZ Z qG (Lib.decDigits n) (f.set (cX n) (x,x.length)) (T-kE f (cX n)+x.length)=(true,(f.set (cX n) (x,x.length)).set qG (kH n,(kH n).length),T-kE f (cX n)+x.length-kE (f.set (cX n) (x,x.length)) qG+(kH n).length):=if_pos (by rw [rC];omega);have qF:=ae (aes (jA.out.grow im) jV atG VO (by omega) (fun w' F' hs=>afI VO hbl hs));rw [tE] at qF;have VP:=ae jV;have KD:=ae (jA.out.grow im);have AA:=ae (qR.out.trans (Rl.grow (r:=r) im td.out.base));have axb:ByteArray.size ⟨(Lib.decDigits n).toArray⟩=(Lib.decDigits n).length:=by simp [ByteArray.size]
 clear bC VO hbl jV im tE hg3 Hi td jA qR;rw [axb] at qF
 go_wp2_with fail
 (with_reducible refine qF.out.mono ?_);rintro e w5 ⟨rfl,F5,iG,hs5⟩;have uX:=KD.out.sep VP.out hs5;have uY:=ae (AA.out.trans (Rl.sep VP.out hs5));obtain ⟨c0,_,_,_,_,_,ls⟩:=uX.cells;have pU:=ae iG;have rY:=ae uX;clear iG hs5 uX qF VP KD AA;rw [ok0]
 go_wp2_with fail
 (with_reducible refine (auf pU.out (Ne.symm atE) atF (rI _ _ _)).mono ?_);rintro e w6 ⟨rfl,F6,oU,pR⟩;rw [awY PB] at oU;have KE:=rY.out.sep pU.out pR;have Gn:=uY.out.trans (Rl.sep pU.out pR);have wP:w6.heap[sb]?=some (.cells (setCells p tv V m) 154 (0,0)):=KE;have ls6:=af wP;have c5:w6.cell? ⟨sb,5,none⟩=some (.int .i64 m):=by simp [World.cell?,wP]
 have f6:=bG wP;have Gp:eh (w6.setCell ⟨sb,5,none⟩ (.int .i64 (n:Int))) sb p tv V n:=Go.Gl.aK wP 5 _;have uZ:=oU.Gm wP 5 (.int .i64 (n:Int));have AW:=Gn.trans (Rl.set (r:=r) wP hB 5 (.int .i64 (n:Int)));have bw:=ae (ag Gp (ag uZ AW));clear oU pR KE Gn wP Gp uZ AW c0 ls;go_wp2;go_ret;exact ⟨rfl,bw.out.1,⟨_,F6,by have:=axa;omega,bw.out.2.1⟩,bw.out.2.2⟩
structure lU (W W':World):Prop where
 keep:∀ (b:Nat) (arr:Array Value) (t:TypeId) (f:Nat×Nat),W.heap[b]?=some (.cells arr t f)→t≠85→W'.heap[b]?=some (.cells arr t f)
 ver:∀ (b:Nat) (cs:Array Value),W.heap[b]?=some (.cells cs 85 (0,0))→cs.size=4→∃ cs':Array Value,W'.heap[b]?=some (.cells cs' 85 (0,0))∧cs'.size=4
theorem lU.refl (W:World):lU W W:=⟨fun _ _ _ _ h _=>h,fun _ cs h hs=>⟨cs,h,hs⟩⟩
theorem lU.grow (h:Grow W W'):lU W W':=⟨fun _ _ _ _ hb _=>h.heap hb,fun _ cs hb hs=>⟨cs,h.heap hb,hs⟩⟩
theorem lU.own (h:lU W W') {l:List Tb} (ho:Own B W v l):Own B W' v l:=wG ho fun g hg=>by
 obtain ⟨cur,hc,_⟩:=rP ho hg;rw [h.keep _ _ _ _ hc (by decide),hc]
def Dx (B sb:Nat) (tv av dv:Value) (V:bI) (E:cH) (r:Int×bI) (j:Nat) (v:Value) (W:World):Prop:=
 match j with
 |0=>v= .pointer (some ⟨sb,0,none⟩)
 |1=>v= .pointer (some ⟨sb,0,none⟩)
 |2=>v= .pointer (some ⟨sb,1,none⟩)
 |3=>v= .agg (bP tv V.seq V.next V.wal)
 |4=>v= .agg (dN av dv E.seq E.next E.wal)
 |5=>∃ q:Nat,v= .slice (some ⟨q,0,none⟩) 1 1∧W.heap[q]?=some (.cells (dN av dv E.seq E.next E.wal) 148 (0,0))
 |6=>∃ cC,v= .tuple #[.agg (bP cC r.2.seq r.2.next r.2.wal),.int .i64 r.1]∧Own B W cC r.2.tabs
 |7=>∃ cC,v= .tuple #[.agg (bP cC r.2.seq r.2.next r.2.wal),.int .i64 r.1]∧Own B W cC r.2.tabs
 |8=>∃ cC,v= .agg (bP cC r.2.seq r.2.next r.2.wal)∧Own B W cC r.2.tabs
 |9=>v= .int .i64 r.1
 |10=>∃ (vb:Nat) (cs:Array Value),v= .pointer (some ⟨vb,0,none⟩)∧B≤vb∧W.heap[vb]?=some (.cells cs 85 (0,0))∧cs.size=4
 |12=>v= .int .i64 r.1
 |_=>True
theorem Dx.keep {V:bI} {E:cH} {r:Int×bI}:∀ (j:Nat) (v:Value) (W W':World),lU W W'→Dx B sb tv av dv V E r j v W→Dx B sb tv av dv V E r j v W':=by
 intro j v W W' hR h;unfold Dx at h
 split at h<;>first
  |exact h
  |(obtain ⟨q,h1,h2⟩:=h;exact ⟨q,h1,hR.keep _ _ _ _ h2 (by decide)⟩)
  |(obtain ⟨cC,h1,h2⟩:=h;exact ⟨cC,h1,hR.own h2⟩)
  |(obtain ⟨vb,cs,h1,h2,h3,h4⟩:=h;obtain ⟨cs',h5,h6⟩:=hR.ver _ _ h3 h4;exact ⟨vb,cs',h1,h2,h5,h6⟩)
  |(unfold Dx;split<;>first|trivial|(exfalso;simp_all))
def nC (w1:World) (r:Int×bI) (l:Array Bool) (a:Act) (W:World):Prop:=
 Grow w1 W∧(l.getD 11 false=true→∃ (vb:Nat) (cC:Value),a.tmps[5]?=some (.pointer (some ⟨vb,0,none⟩))∧w1.heap.size≤vb∧W.heap[vb]?=some (.cells (bP cC r.2.seq r.2.next r.2.wal) 85 (0,0))∧Own w1.heap.size W cC r.2.tabs)
theorem nC.kU {r:Int×bI} {l:Array Bool} {a':Act} (i:Nat) (hi:i≠11) (dP:l.getD 11 false=false) (h:Grow w1 W'):nC w1 r (l.setIfInBounds i true) a' W':=
 ⟨h,fun h=>by rw [getD_set_ne false hi,dP] at h;cases h⟩
theorem nC.next {r:Int×bI} {l:Array Bool} {a:Act} (h:nC w1 r l a W) (hi:i≠11) (hd:d≠5):nC w1 r (l.setIfInBounds i true) (a.put (some d) v) W:=
 ⟨h.1,fun hl=>by
  obtain ⟨vb,cC,h1,h2⟩:=h.2 (by rw [getD_set_ne false hi] at hl;exact hl);exact ⟨vb,cC,gi hd h1,h2⟩⟩
theorem axd (hs:cs.size=4):∃ x0 x1 x2 x3,cs=#[x0,x1,x2,x3]:=by
 obtain ⟨l⟩:=cs
 match l,hs with
 | [x0,x1,x2,x3],_=>exact ⟨_,_,_,_,rfl⟩
theorem axe {f:Lk} {V:bI} {n:Int} (hS:eh w sb p' tv V n) (h:Dl Z B w p r f T K F) (hB:B≤sb) (cC:Value) (V':bI):
  eh ((((w.setCell ⟨sb,1,none⟩ cC).setCell ⟨sb,2,none⟩ (.int .u64 V'.seq)).setCell ⟨sb,3,none⟩ (.int .i64 V'.next)).setCell ⟨sb,4,none⟩ (.int .i64 V'.wal)) sb p' cC V' n∧
  Dl Z B ((((w.setCell ⟨sb,1,none⟩ cC).setCell ⟨sb,2,none⟩ (.int .u64 V'.seq)).setCell ⟨sb,3,none⟩ (.int .i64 V'.next)).setCell ⟨sb,4,none⟩ (.int .i64 V'.wal)) p r f T K F∧
  Rl B r w ((((w.setCell ⟨sb,1,none⟩ cC).setCell ⟨sb,2,none⟩ (.int .u64 V'.seq)).setCell ⟨sb,3,none⟩ (.int .i64 V'.next)).setCell ⟨sb,4,none⟩ (.int .i64 V'.wal)):=by
 have h1:w.heap[sb]?=some (.cells (setCells p' tv V n) 154 (0,0)):=hS;have h2:=Go.Gl.aK h1 1 cC;have h3:=Go.Gl.aK h2 2 (.int .u64 V'.seq);have h4:=Go.Gl.aK h3 3 (.int .i64 V'.next);have h5:=Go.Gl.aK h4 4 (.int .i64 V'.wal);exact ⟨h5,(((h.Gm h1 1 _).Gm h2 2 _).Gm h3 3 _).Gm h4 4 _,(((Rl.set (r:=r) h1 hB 1 _).trans (Rl.set (r:=r) h2 hB 2 _)).trans (Rl.set (r:=r) h3 hB 3 _)).trans (Rl.set (r:=r) h4 hB 4 _)⟩
abbrev S4 (sb p eb:Nat) (n:Int) (x0 x1 x2 x3 x4:Value) (W:World):Prop:=
 (W.cell? ⟨sb,0,none⟩=some (.pointer (some ⟨p,0,none⟩))∧W.cell? ⟨sb,5,none⟩=some (.int .i64 n)∧sb<W.heap.size)∧
 (W.cell? ⟨eb,0,none⟩=some x0∧W.cell? ⟨eb,0+1,none⟩=some x1∧W.cell? ⟨eb,0+2,none⟩=some x2∧W.cell? ⟨eb,0+3,none⟩=some x3∧W.cell? ⟨eb,0+4,none⟩=some x4∧eb<W.heap.size)
theorem Gq {eb:Nat} {V:bI} {n:Int} (hS:eh W sb p tv V n) (hb:W.heap[eb]?=some (.cells #[x0,x1,x2,x3,x4] 148 (0,0))):S4 sb p eb n x0 x1 x2 x3 x4 W:=by
 obtain ⟨c0,_,_,_,_,c5,ls⟩:=hS.cells;obtain ⟨e0,e1,e2,e3,e4⟩:=dw hb;exact ⟨⟨c0,c5,ls⟩,e0,e1,e2,e3,e4,af hb⟩
end Go.Proofs.YtoolkdapflaeeaaGreatDoor
namespace Go.Proofs.YtoolkdapflaeeaaGreatDoor
open Go.RowKit Go.Gl Go.aF Go.Sort
def lV (name:List UInt8) (n:Nat):List UInt8:=name++45::fF n
def bD (name:List UInt8) (n:Nat):ByteArray:=⟨(lV name n).toArray⟩
theorem yJ {N:Nat} (h:dn N B w) (hn:n<N) (h6:n<1000000) {name:List UInt8} (iA:name.length≤64):
  Calls Tryz.prog 79 #[.string ⟨name.toArray⟩,.int .i64 n] w fun e w'=>e= .returned (.string (bD name n))∧Grow w w':=by
 have hd:=FQ h6;have Hi:=ae (h n hn w (fun _ _=>rfl));clear h;go_enter Tryz.func79,Tryz.ntmps79
 go_wp2_with fail
 (with_reducible refine Hi.out.mono ?_);rintro e w1 ⟨rfl,hg1⟩;have eC:=ae hg1;clear hg1
 go_wp2_with fail
 go_loopw [5] (fun sv wr=>adi w n sv wr) (fun sv _=>6-(match sv with| .string s=>s.size|_=>0))
 case atStart=>exact ⟨0,by simp,.inl rfl,eC.out⟩
 case round=>
  obtain ⟨k,rfl,hk,hg⟩:=hrel;have Hg:=ae hg;clear hg;have hsz:(⟨(List.replicate k 48++Lib.decDigits n).toArray⟩:ByteArray).size=k+(Lib.decDigits n).length:=by simp [ByteArray.size]
  by_cases hlt:k+(Lib.decDigits n).length<6
  ·have e1:(k:Int)+((Lib.decDigits n).length:Int)<6:=by omega
   have e3:¬ 9223372036854775807<1+(k+(Lib.decDigits n).length):=by omega
   go_wp2;go_roundw
   case rel=>
    refine ⟨k+1,?_,.inr (by omega),Hg.out⟩;rw [show (⟨#[48]⟩:ByteArray)=⟨([48]:List UInt8).toArray⟩ from rfl,wA,List.replicate_succ];rfl
   case measure=>
    rw [show (⟨#[48]⟩:ByteArray)=⟨([48]:List UInt8).toArray⟩ from rfl,wA];simp only [ByteArray.size,List.size_toArray,aJ,List.length_replicate,dH,iK];omega
  ·have e1:¬ (k:Int)+((Lib.decDigits n).length:Int)<6:=by omega
   have FJ:decide ((k:Int)+((Lib.decDigits n).length:Int)<6)=false:=by simpa using e1
   have e2:¬ 9223372036854775807<name.length+1:=by omega
   have e3:¬ 9223372036854775807<name.length+1+(k+(Lib.decDigits n).length):=by omega
   have uQ:k=6-(Lib.decDigits n).length:=by omega
   have Ux:=ae uQ;clear uQ;go_wp2;go_ret;refine ⟨?_,Hg.out⟩;rw [show (⟨#[45]⟩:ByteArray)=⟨([45]:List UInt8).toArray⟩ from rfl,wA,wA,bD,lV,fF,←Ux.out];simp
abbrev cr:List UInt8:= [119,97,108]
structure dT (w:World) (lb p:Nat) (nm:List UInt8) (last:Int):Prop where
 self:w.heap[lb]?=some (.cells #[.pointer (some ⟨p,0,none⟩),.string ⟨nm.toArray⟩,.int .i64 last] 167 (0,0))
theorem dT.cells {last:Int} (h:dT w lb p nm last):w.cell? ⟨lb,0,none⟩=some (.pointer (some ⟨p,0,none⟩))∧w.cell? ⟨lb,1,none⟩=some (.string ⟨nm.toArray⟩)∧w.cell? ⟨lb,2,none⟩=some (.int .i64 last)∧lb<w.heap.size:=by
 refine ⟨?_,?_,?_,af h.self⟩<;>simp [World.cell?,h.self]
theorem dT.grow {last:Int} (h:dT w lb p nm last) (hg:Grow w w'):dT w' lb p nm last:=⟨hg.heap h.self⟩
theorem axf (w:World):Calls Tryz.prog 95 #[.string ⟨#[119,97,108]⟩] w fun e w'=>e= .returned (.bool true)∧w'=w:=by
 go_enter Tryz.func95,Tryz.ntmps95
 go_wp2_with fail
 refine wp_loop_rounds 4 ?_;rw [rounds_succ];go_wp2;rw [rounds_succ];go_wp2;rw [rounds_succ];go_wp2;rw [rounds_succ];go_wp2;go_ret;exact ⟨rfl,rfl⟩
theorem dT.sep {last:Int} {V:Vw} (hl:dT w lb p nm last) (h:Dk Z B w p' r V F) (hs:Sep F w w' F'):dT w' lb p nm last:=
 ⟨(hs.out lb (af hl.self) (h.apart hl.self (by decide) (by decide) (by decide))).trans hl.self⟩
theorem dn.dk {N:Nat} {V:Vw} (h:dn N B w) (hd:Dk Z B w p r V F) (hs:Sep F w w' F'):dn N B w':=
 h.keep (fun b hb=>hs.out b (by have:=hd.base;omega) (fun hf=>by have:=(hd.foot hf).1;omega))
structure AX (nm:List UInt8):Prop where
 pos:1≤nm.length
 len:nm.length≤32
 ok:∀ c∈nm,zX c=true
theorem Gr:AX cr:=⟨by decide,by decide,by decide⟩
theorem VQ (hm:AX nm) (h:n<1000000):kC (bD nm n):=by
 have h1:=hm.pos;have h2:=hm.len;have hl:=yn h;refine JW (by simp [lV];omega) (by simp [lV,hl];omega) ?_;intro c hc;rcases cU.1 hc with hc|hc
 ·exact hm.ok c hc
 ·rcases bE.1 hc with rfl|hc
  ·decide
  ·rcases cU.1 hc with hc|hc
   ·rw [(List.mem_replicate.1 hc).2];decide
   ·exact Uv (JV n c hc)
theorem Dy {m:Nat} (h:bD nm m=bD nm n):m=n:=by
 have h1:lV nm m=lV nm n:=by
  have:=congrArg (fun b:ByteArray=>b.data.toList) h;simpa [bD] using this
 have h2:fF m=fF n:=by simpa [lV] using h1
 have h3:=CM m;rw [h2,CM n] at h3;cases h3;rfl
theorem axg (nm:List UInt8) (n:Nat) (w:World):Calls Tryz.prog 91 #[.string (bD nm n),.string ((⟨nm.toArray⟩:ByteArray)++⟨#[45]⟩)] w fun e w'=>e= .returned (.string ⟨(fF n).toArray⟩)∧w'=w:=by
 have h2:((⟨nm.toArray⟩:ByteArray)++⟨#[45]⟩).data.toList=nm++ [45]:=by rw [wA nm [45]]
 have h3:(bD nm n).data.toList=nm++45::fF n:=rfl;generalize bD nm n=s at*;generalize (⟨nm.toArray⟩:ByteArray)++⟨#[45]⟩=p at*;refine (adm s p w).mono ?_;rintro e w' ⟨he,hw⟩;refine ⟨?_,hw⟩;have h4:nm++45::fF n=(nm++ [45])++fF n:=by simp
 have h5:Lib.trimPrefix ((nm++ [45])++fF n) (nm++ [45])=fF n:=by
  unfold Lib.trimPrefix Lib.hasPrefix;rw [if_pos (List.isPrefixOf_iff_prefix.2 (List.prefix_append _ _))];exact List.drop_left ..
 rw [he,h2,h3,h4,h5]
theorem axh {V:Vw} (h:Dk Z B w p r V F) (mC:V.length<1000000000) (pf:ByteArray) (hq:w.heap[qb]?=some (.cells #[.string pf] 9 (0,0))):
  Calls Tryz.prog 33 #[.pointer (some ⟨p,0,none⟩),.slice (some ⟨qb,0,none⟩) 1 1] w (Ui w (((V.map (·.1)).filter fun s=>Lib.hasPrefix s.data.toList pf.data.toList).map fun s=>s.data.toList)):=by
 obtain ⟨hZ,h0,born,fs,h1,rfl,rfl⟩:=h;have:=acW h1 (by simpa [vw] using mC) pf hq;have he:pick (fun s=>Lib.hasPrefix s.data.toList pf.data.toList) (fs.map Fe.ay)=(((vw fs).map (·.1)).filter fun s=>Lib.hasPrefix s.data.toList pf.data.toList).map fun s=>s.data.toList:=by
  unfold pick;rw [UB,List.filter_map,List.filter_map,eX,eX];rfl
 rw [he] at this;exact this
def nD (B:Nat) (w:World) (v:Value) (ns:List Nat):Prop:=Go.Gl.Row1 3 B w v (ns.map fun n:Nat=>Value.int .i64 n)
theorem afL (B:Nat) (w:World):nD B w (.slice none 0 0) []:=nO _ _ _
theorem nD.slice (h:nD B w v ns):∃ a c,v= .slice a ns.length c:=by
 obtain ⟨a,c,rfl⟩:=Row1.slice h;exact ⟨a,c,by simp⟩
theorem nD.grow (h:nD B w v ns) (hg:Grow w w'):nD B w' v ns:=Row1.grow h hg
theorem axi (n:Nat) (h:nD B w v ns) (hB:B≤w.heap.size) (hlen:ns.length+1≤1000000000000):
  ∃ v' w',(Builtin.append_ #[24,24] 24 #[v,.slice (some ⟨w.heap.size,0,none⟩) 1 1]).run Tryz.prog (w.alloc (.cells #[.int .i64 n] 3))= .ok v' w'∧nD B w' v' (ns++ [n])∧Below B w w':=by
 have ah:Grow w (w.alloc (.cells #[.int .i64 n] 3)):=ar _ _;have lH:Src Tryz.prog 1 24 (.slice (some ⟨w.heap.size,0,none⟩) 1 1) 1 [.int .i64 n] (w.alloc (.cells #[.int .i64 n] 3)):=
  Src.ofSlice _ Tryz.underlying24 _ _ _ _ rfl (cell_one_new w _ _) (fun x hx=>by rw [cY.1 hx];rfl)
 obtain ⟨v',w',r1,r2,r3,r4⟩:=yb (ty:=24) Tryz.underlying24 Tryz.Oe rfl (Row1.grow h ah) lH (by simp;omega) (by rw [bF];unfold maxLen;omega) (by rw [bF];omega);refine ⟨v',w',r1,?_,Go.Gl.below_grown (ah.mono hB) (by simp;omega) (Row1.grow h ah) r3⟩;unfold nD;rw [dD];exact r2
def KF (nm:List UInt8) (V:Vw):List (List UInt8):=((((V.map (·.1)).filter fun s=>Lib.hasPrefix s.data.toList ((⟨nm.toArray⟩:ByteArray)++⟨#[45]⟩).data.toList).map fun s=>s.data.toList)).mergeSort (fun x y=>decide (x≤y))
def afM (w1:World) (ns:List Nat) (ov iv:Value) (wr:World):Prop:=
 ∃ i:Nat,iv= .int .i64 i∧i≤ns.length∧nD w1.heap.size wr ov (ns.take i)∧Below w1.heap.size w1 wr
theorem axj {N:Nat} (hm:AX nm) {last:Int} {V:Vw} (hl:dT w lb p nm last) (h:Dk Z B w p r V F) (hN:dn N B w) (mC:V.length<1000000000) {ns:List Nat} (jJ:∀ n∈ns,n<N∧n<1000000) (Du:KF nm V=ns.map (lV nm)):
  Calls Tryz.prog 99 #[.pointer (some ⟨lb,0,none⟩)] w fun e w'=>∃ v,e= .returned v∧nD w.heap.size w' v ns∧Grow w w':=by
 obtain ⟨l0,l1,l2,ll⟩:=hl.cells;have hlen:¬ 9223372036854775807<nm.length+1:=by have:=hm.len;omega
 have H:=ae h;have HN:=ae hN;have Hl:=ae hl;clear hl h hN;go_enter Tryz.func99,Tryz.ntmps99
 go_wp2_with fail
 have aQ:=Grow.cells (w:=w);refine ou (fun W=>Below w.heap.size w W) [(0,false),(1,false),(2,false),(3,false),(4,false),(5,false),(6,false),(7,false),(8,false),(12,false),(9,true),(10,true),(11,false)] (by kernel_rfl) (by kernel_rfl) (bK fun _ _ _ _ _ h=>h) (az _) ?_;simp only [cm,nth]
 repeat ((first|(refine aA (v:= ?_) (by rfl) ?_ ?_;rotate_left;rintro W hW;go_simp;with_reducible rfl)|refine aB (by rfl) ?_);simp only [ai,List.set])
 refine fO (by rfl) (fun K hK=> ?_);go_simp;refine hK _ _ ⟨(az w).trans (ar _ _),?_⟩;clear hK K
 try simp only [ai,List.set,aC]
 have oN:=(az w).trans (ar w.drew (.cells #[.string ((⟨nm.toArray⟩:ByteArray)++⟨#[45]⟩)] 9));refine bp (by rfl) (by go_simp) (axh (H.out.grow oN) mC _ (ax _ _)) ?_;rintro e w1 ⟨nv,rfl,hrow,hg1⟩;have rZ:=oN.trans hg1;refine ⟨_,rfl,rZ,?_⟩;have mG:ns.length=(((V.map (·.1)).filter fun s=>Lib.hasPrefix s.data.toList ((⟨nm.toArray⟩:ByteArray)++⟨#[45]⟩).data.toList).map fun s=>s.data.toList).length:=by
  have:=congrArg List.length Du;rw [bF,KF,List.length_mergeSort] at this;exact this.symm
 have aJj:ns.length<1000000000:=by
  rw [mG,bF];have h9:=List.length_filter_le (fun s:ByteArray=>Lib.hasPrefix s.data.toList ((⟨nm.toArray⟩:ByteArray)++⟨#[45]⟩).data.toList) (V.map (·.1));rw [bF] at h9;omega
 rw [←mG] at hrow;unfold KF at Du;rw [Du] at hrow;clear mG Du;rcases hrow.2 with ⟨rfl,iy⟩|⟨gN,cap,cur,rfl,iM,Af,oG,hcm,hcs,eG⟩
 ·have axk:ns= []:=iI iy
  subst axk;have Hg:=ae rZ;clear oN hg1 hrow rZ
  try simp only [ai,List.set,aC]
  repeat ((first|(refine aA (v:= ?_) (by rfl) ?_ ?_;rotate_left;rintro W hW;go_simp;with_reducible rfl)|refine aB (by rfl) ?_);simp only [ai,List.set])
  refine bj ?_
  go_wp2_with fail
  refine wp_loop_rounds 1 ?_;rw [rounds_succ];go_wp2;go_ret;exact ⟨_,rfl,afL _ _,Hg.out⟩
 ·have iA:∀ (i n:Nat),ns[i]?=some n→∀ W:World,W.heap[gN]?=some (.cells cur 9 (0,0))→W.cell? ⟨gN,i,none⟩=some (.string (bD nm n)):=fun i n hi W hW=>by
   have h2:((ns.map (lV nm)).map encStr)[i]?=some (.string (bD nm n)):=by simp [hi,encStr,bD]
   rw [←eG,Nat.mul_one,List.getElem?_take] at h2
   split at h2
   ·have h3:cur[i]?=some (.string (bD nm n)):=by simpa using h2
    simp [World.cell?,hW,h3]
   ·cases h2
  have Ur:=ae iA;have Hg:=ae rZ;have HgN:=ae Af;have FO:=ae jJ;have Dz:=HN.out.grow rZ H.out.base;have HN1:=ae Dz;have Hl1:=ae (Hl.out.grow rZ);have AR:B≤w1.heap.size:=aM H.out.base rZ.size;clear oN hg1 hrow rZ Af oG hcm hcs eG iM iA jJ Dz l0 l1 l2 ll
  try simp only [ai,List.set,aC]
  repeat ((first|(refine aA (v:= ?_) (by rfl) ?_ ?_;rotate_left;rintro W hW;go_simp;with_reducible rfl)|refine aB (by rfl) ?_);simp only [ai,List.set])
  refine bj ?_
  go_wp2_with fail
  go_loopw [3,20] (fun ov iv wr=>afM w1 ns ov iv wr) (fun _ iv _=>ns.length-(intOf iv).toNat)
  case atStart=>exact ⟨0,rfl,aY _,afL _ _,bS _ _⟩
  case round=>
   obtain ⟨i,rfl,hi,hown,hb⟩:=hrel;by_cases hlt:i<ns.length
   ·obtain ⟨n,hn⟩:∃ n,ns[i]?=some n:=⟨ns[i],by simp [hlt]⟩
    have hrow:wr.heap[gN]?=some (.cells cur 9 (0,0)):=(hb.block gN (af HgN.out)).trans HgN.out;have Ag:=Ur.out i n hn wr hrow;have lgN:=af hrow;obtain ⟨hnN,oV⟩:=FO.out n (dB hn);have wQ:dT wr lb p nm last:=⟨(hb.block lb (af Hl1.out.self)).trans Hl1.out.self⟩
    obtain ⟨k0,k1,k2,kl⟩:=wQ.cells;have yK:=HN1.out.keep (w':=wr) (fun b hb'=>hb.block b (by omega));have VR:=ae yK;have fX:=ae hown;have Hb:=ae hb;have Hn:=ae hn;have eB:(i:Int)<(ns.length:Int):=by omega
    have bO:(0:Int)≤(i:Int):=by omega
    have fE:IntKind.i64.wrap ((i:Int)+1)=(i:Int)+1:=aS _ (by omega);obtain ⟨oa,oc,tG⟩:=hown.slice;rw [List.length_take,Nat.min_eq_left hi] at tG;subst tG;clear yK hown hb hn hrow;have Ht:=ae (axg nm n);have Ha:=ae (adl oV)
    go_wp2_with fail
    (with_reducible refine (Ht.out wr).mono ?_);rintro e w2 ⟨rfl,hw2⟩;have Ow:=hw2.symm;subst Ow;clear hw2
    go_wp2_with fail
    (with_reducible refine (Ha.out wr).mono ?_);rintro e w2 ⟨rfl,hg2⟩;have KG:=wQ.grow hg2;obtain ⟨j0,j1,j2,jl⟩:=KG.cells;have hs:=yJ (VR.out.grow hg2 (aM AR Hb.out.size)) hnN oV (name:=nm) (by have:=hm.len;omega);have Hs:=ae hs;clear hs k0 k1 k2 kl wQ KG
    go_wp2_with fail
    (with_reducible refine Hs.out.mono ?_);rintro e w3 ⟨rfl,hg3⟩;have lh:=hg2.trans hg3;obtain ⟨v',w',r1,r2,r3⟩:=axi n (fX.out.grow lh) (aM Hb.out.size lh.size) (by have:=List.length_take_le i ns;omega);have hrel:afM w1 ns v' (.int .i64 ((i:Int)+1)) w':=by
     refine ⟨i+1,by simp,hlt,?_,(Hb.out.trans (lh.mono Hb.out.size)).trans r3⟩;rw [List.take_add_one,Hn.out];exact r2
    have aX:=ae hrel;have cW:=ae r1;clear hrel r1 r2 r3 lh hg3 hg2 j0 j1 j2 jl
    go_wp2_with (at_builtin;refine fI rfl rfl rfl rfl cW.out ?_)
    go_roundw
    case rel=>exact aX.out
    case measure=>simp [intOf];omega
   ·have eB:ns.length≤i:=by omega
    have PD:i=ns.length:=by omega
    rw [PD,ij] at hown;have fX:=ae hown;have Hb:=ae hb;obtain ⟨oa,oc,rfl⟩:=hown.slice;clear hown hb PD;go_wp2;go_ret;exact ⟨_,rfl,fX.out.mono Hg.out.size,Below.trans Hg.out (Hb.out.mono Hg.out.size)⟩
theorem VS:∀ (x:List UInt8) (acc v:Nat),Lib.decFrom acc x=some v→acc*10^x.length≤v∧v<(acc+1)*10^x.length
 | [],acc,v,h=>by
  simp only [Lib.decFrom,Option.some.injEq] at h;subst h;simp
 |c::x,acc,v,h=>by
  simp only [Lib.decFrom] at h;cases hd:Lib.digitVal c with
  |none=>rw [hd] at h;cases h
  |some d=>
   rw [hd] at h;have gJ:d<10:=by
    unfold Lib.digitVal at hd
    split at hd
    ·cases hd;omega
    ·cases hd
   obtain ⟨h1,h2⟩:=VS x _ _ h;rw [dH,Nat.pow_succ];have h3:acc*(10^x.length*10)≤(acc*10+d)*10^x.length:=by
    rw [Nat.add_mul,Nat.mul_assoc,Nat.mul_comm (10^x.length) 10];omega
   have h4:(acc*10+d+1)*10^x.length≤(acc+1)*(10^x.length*10):=by
    rw [Nat.mul_comm (10^x.length) 10,←Nat.mul_assoc];exact Nat.mul_le_mul_right _ (by omega)
   omega
theorem dec_lt:∀ (x y:List UInt8) (acc u v:Nat),x.length=y.length→Lib.decFrom acc x=some u→Lib.decFrom acc y=some v→x<y→u<v
 | [],[],_,_,_,_,_,_,h=>absurd h (List.lt_irrefl _)
 | [],_::_,_,_,_,hl,_,_,_=>by cases hl
 |_::_,[],_,_,_,hl,_,_,_=>by cases hl
 |c::x,d::y,acc,u,v,hl,hu,hv,h=>by
  simp only [Lib.decFrom] at hu hv;cases hc:Lib.digitVal c with
  |none=>rw [hc] at hu;cases hu
  |some c'=>
   cases hd:Lib.digitVal d with
   |none=>rw [hd] at hv;cases hv
   |some d'=>
    rw [hc] at hu;rw [hd] at hv;have hl':x.length=y.length:=by simpa using hl
    rcases List.cons_lt_cons_iff.1 h with h1|⟨rfl,h1⟩
    ·have DA:c'<d':=by
      have h2:c.toNat<d.toNat:=UInt8.lt_iff_toNat_lt.1 h1;unfold Lib.digitVal at hc hd
      split at hc
      ·split at hd
       ·cases hc;cases hd;omega
       ·cases hd
      ·cases hc
     obtain ⟨_,h2⟩:=VS _ _ _ hu;obtain ⟨h3,_⟩:=VS _ _ _ hv;rw [←hl'] at h3;have h4:(acc*10+c'+1)*10^x.length≤(acc*10+d')*10^x.length:=Nat.mul_le_mul_right _ (by omega);dsimp only at hu hv;omega
    ·rw [hc] at hd;cases hd
     exact dec_lt x y _ u v hl' hu hv h1
theorem axn {m:Nat} (gq:m<n) (hn:n<1000000):lV nm m≤lV nm n:=by
 intro h;have h1:fF n<fF m:=by
  unfold lV at h
  induction nm with
  |nil=>
   rcases List.cons_lt_cons_iff.1 h with h|⟨_,h⟩
   ·exact absurd h (by decide)
   ·exact h
  |cons c nm ih=>
   rcases List.cons_lt_cons_iff.1 h with h|⟨_,h⟩
   ·exact absurd h (by rw [UInt8.lt_iff_toNat_lt];omega)
   ·exact ih h
 have:=dec_lt _ _ 0 n m (by rw [yn hn,yn (by omega)]) (CM n) (CM m) h1;omega
theorem axo (h:a+k≤1000000):((List.range' a k).map (lV nm)).mergeSort (fun x y=>decide (x≤y))=(List.range' a k).map (lV nm):=by
 apply List.mergeSort_of_pairwise;rw [List.pairwise_map];refine List.Pairwise.imp_of_mem ?_ (List.pairwise_lt_range' (s:=a) (n:=k) 1);intro x y hx hy ir;have:=(List.mem_range'_1.1 hy).2;exact decide_eq_true (axn ir (by omega))
theorem VT (nm:List UInt8) (n:Nat):(bD nm n).data.toList=lV nm n:=by simp [bD]
def jM (B:Nat) (F:Nat→Prop) (w:World) (v:Value) (ps:List (List UInt8)):Prop:=
 ∃ vals,Go.Gl.Row1 49 B w v vals∧vals.length=ps.length∧∀ (i:Nat) (u:Value) (p:List UInt8),vals[i]?=some u→ps[i]?=some p→aI B w u p∧∀ b,u.ownBlock=some b→¬ F b
theorem axp (B:Nat) (F:Nat→Prop) (w:World):jM B F w (.slice none 0 0) []:=⟨[],nO _ _ _,rfl,fun i u p h=>by simp at h⟩
theorem jM.own {ps:List (List UInt8)} (h:jM B F w v ps):lG B w v ps:=by
 obtain ⟨vals,h1,h2,h3⟩:=h;exact ⟨vals,h1,h2,fun i u p hu hp=>(h3 i u p hu hp).1⟩
theorem lG.apart {ps:List (List UInt8)} (h:lG B w v ps) (hF:∀ b,F b→b<B):jM B F w v ps:=by
 obtain ⟨vals,h1,h2,h3⟩:=h;exact ⟨vals,h1,h2,fun i u p hu hp=>⟨h3 i u p hu hp,fun b hb hf=>by have:=((h3 i u p hu hp).lt hb).1;have:=hF b hf;omega⟩⟩
theorem jM.grow {ps:List (List UInt8)} (h:jM B F w v ps) (hg:Grow w w'):jM B F w' v ps:=by
 obtain ⟨vals,h1,h2,h3⟩:=h;exact ⟨vals,h1.grow hg,h2,fun i u p hu hp=>⟨(h3 i u p hu hp).1.grow hg,(h3 i u p hu hp).2⟩⟩
theorem jM.sep {ps:List (List UInt8)} {V:Vw} (h:jM B F w v ps) (hd:Dk Z B' w p r V F) (hs:Sep F w w' F'):jM B F' w' v ps:=by
 obtain ⟨vals,h1,h2,h3⟩:=h;refine ⟨vals,h1.keep (fun g hg=> ?_),h2,fun i u q hu hq=> ?_⟩
 ·obtain ⟨cur,hb⟩:=h1.block hg
  exact hs.out g (af hb) (hd.apart hb (by decide) (by decide) (by decide))
 ·obtain ⟨h4,h5⟩:=h3 i u q hu hq
  exact ⟨h4.keep (fun b hb=>hs.out b (h4.lt hb).2 (h5 b hb)),fun b hb=>(hs.free (h4.lt hb).2 (h5 b hb)).2.2⟩
theorem jM.slice {ps:List (List UInt8)} (h:jM B F w v ps):∃ a c,v= .slice a ps.length c:=h.own.slice
theorem Row1.src {xs:List Value} (h:Go.Gl.Row1 49 B w v xs) (oK:∀ u∈xs,u.oneCell'=true):Src Tryz.prog 1 131 v xs.length xs w:=by
 rcases id h with ⟨rfl,rfl⟩|⟨g,cap,cur,rfl,hB,hg,hn,hc,hm,ht⟩
 ·exact Src.ofNil w Tryz.underlying131 0
 ·refine Src.ofSlice w Tryz.underlying131 ⟨g,0,none⟩ xs.length cap xs (by simp) (fun j u hu=> ?_) oK
  rw [Addr.add_lit,Nat.zero_add];exact h.cells rfl hu
theorem axq {x:Value} {ps qs:List (List UInt8)} (h:jM B F w v ps) (hx:jM B' F w x qs) (hB:B≤w.heap.size) (Gj:B≤B') (hlen:ps.length+qs.length≤1000000000000):
  ∃ v' w',(Builtin.append_ #[131,131] 131 #[v,x]).run Tryz.prog w= .ok v' w'∧jM B F w' v' (ps++qs)∧w.grownBy w' v.ownBlock∧(∀ g,v.ownBlock=some g→B≤g∧∃ cur,w.heap[g]?=some (.cells cur 49 (0,0))):=by
 obtain ⟨vals,h1,h2,h3⟩:=h;obtain ⟨news,k1,k2,k3⟩:=hx;have oK:∀ u∈news,u.oneCell'=true:=fun u hu=>by
  obtain ⟨i,hi,rfl⟩:=List.getElem_of_mem hu;exact (k3 i news[i] (qs[i]'(by omega)) (by simp [hi]) (by simp [show i<qs.length by omega])).1.acy
 obtain ⟨v',w',r1,r2,r3,r4⟩:=yb (ty:=131) Tryz.underlying131 Tryz.ye rfl h1 (Row1.src k1 oK) hB (by rw [h2,k2];unfold maxLen;omega) (by rw [h2,k2];omega);have hne:∀ b u q C,aI C w u q→u.ownBlock=some b→w'.heap[b]?=w.heap[b]?:=fun b u q C hu hb=>by
  obtain ⟨cur,hc⟩:=hu.block hb;exact r3.block b (af hc) (fun he=>h1.apart hc (by decide) he.symm)
 refine ⟨v',w',r1,⟨vals++news,r2,by simp [h2,k2],fun i u q hu hq=> ?_⟩,r3,fun g hg=>⟨(h1.lt hg).1,h1.block hg⟩⟩;by_cases hi:i<vals.length
 ·rw [sO hi] at hu
  rw [sO (by omega)] at hq;obtain ⟨h4,h5⟩:=h3 i u q hu hq;exact ⟨h4.keep (fun b hb=>hne b u q _ h4 hb),h5⟩
 ·rw [ur (by omega)] at hu
  rw [ur (by omega)] at hq;rw [h2] at hu;obtain ⟨h4,h5⟩:=k3 _ u q hu hq;exact ⟨(h4.keep (fun b hb=>hne b u q _ h4 hb)).mono Gj,h5⟩
theorem bU.keep {size:Int} {fs:List Fe} (h:bU B w p r size used born fs) (hs:w.heap.size≤w'.heap.size) (hk:∀ b,dt p r fs b→w'.heap[b]?=w.heap[b]?):bU B w' p r size used born fs:=by
 obtain ⟨c,hm,hc⟩:=h.map;refine ⟨(hk p (.inl rfl)).trans h.self,⟨c,(hk r (.inr (.inl rfl))).trans hm,hc⟩,h.names,h.sV,h.sW,h.rows,fun f hf=>⟨(hk f.fb (.inr (.inr ⟨f,hf,.inl rfl⟩))).trans (h.files f hf).cell,(h.files f hf).row.keep (fun b hb=>hk b (.inr (.inr ⟨f,hf,.inr hb⟩))),(h.files f hf).base,(h.files f hf).sync⟩,h.base.1,h.base.2.1,aM h.base.2.2 hs⟩
theorem Dk.keep {V:Vw} (h:Dk Z B w p r V F) (hs:w.heap.size≤w'.heap.size) (hk:∀ b,F b→w'.heap[b]?=w.heap[b]?):Dk Z B w' p r V F:=by
 obtain ⟨hZ,h0,born,fs,h1,h2,rfl⟩:=h;exact ⟨hZ,h0,born,fs,h1.keep hs hk,h2,rfl⟩
theorem Dk.row {V:Vw} (h:Dk Z B w p r V F) {o:Option Nat} (hg:w.grownBy w' o) (ho:∀ g,o=some g→∃ t cur,w.heap[g]?=some (.cells cur t (0,0))∧t≠125∧t≠165∧t≠5):Dk Z B w' p r V F:=
 h.keep hg.size (fun b hb=>hg.block b (h.foot hb).2 (fun he=>by
  obtain ⟨t,cur,h1,h2,h3,h4⟩:=ho b he.symm;exact h.apart h1 h2 h3 h4 hb))
theorem Sep.row (h:Sep F w wr F') {o:Option Nat} (hg:wr.grownBy w' o) (ho:∀ g,o=some g→w.heap.size≤g):Sep F w w' F':=
 ⟨hg.os.trans h.os,hg.tape.trans h.tape,hg.output.trans h.output,aM h.size hg.size,fun b hb hn=>by
  rw [hg.block b (cf hb h.size) (fun he=>by have:=ho b he.symm;omega)];exact h.out b hb hn,h.foot⟩
theorem dT.row {last:Int} (h:dT w lb p nm last) {o:Option Nat} (hg:w.grownBy w' o) (ho:∀ g,o=some g→∃ t cur,w.heap[g]?=some (.cells cur t (0,0))∧t≠167):dT w' lb p nm last:=
 ⟨(hg.block lb (af h.self) (fun he=>by
  obtain ⟨t,cur,h1,h2⟩:=ho lb he.symm;rw [h.self] at h1;cases h1;exact h2 rfl)).trans h.self⟩
theorem dT.set {last:Int} (h:dT w lb p nm last) (n:Int):dT (w.setCell ⟨lb,2,none⟩ (.int .i64 n)) lb p nm n:=⟨aK h.self 2 _⟩
theorem Sep.axr (h:Sep F w wr F') (hb:w.heap.size≤lb) (j:Nat) (v:Value):Sep F w (wr.setCell ⟨lb,j,none⟩ v) F':=
 ⟨h.os,h.tape,h.output,by simpa using h.size,fun b hb' hn=>(aP _ _ _ _ (by show b≠lb;omega)).trans (h.out b hb' hn),fun b hb'=>by simpa using h.foot b hb'⟩
theorem Dk.AY {V:Vw} (h:Dk Z B w p r V F) {last:Int} (hl:dT w lb p' nm last) (v:Value):Dk Z B (w.setCell ⟨lb,2,none⟩ v) p r V F:=
 h.keep (by simp) (fun b hb=>aP _ _ _ _ (fun e=>by
  have e':b=lb:=e;subst e';exact h.apart hl.self (by decide) (by decide) (by decide) hb))
theorem jM.AY {ps:List (List UInt8)} (h:jM B F w v ps) {last:Int} (hl:dT w lb p' nm last) (u:Value):jM B F (w.setCell ⟨lb,2,none⟩ u) v ps:=by
 obtain ⟨vals,h1,h2,h3⟩:=h;refine ⟨vals,h1.keep (fun g hg=>aP _ _ _ _ (fun e=> ?_)),h2,fun i u' q hu hq=> ?_⟩
 ·obtain ⟨cur,hb⟩:=h1.block hg
  rw [e,hl.self] at hb;cases hb
 ·obtain ⟨h4,h5⟩:=h3 i u' q hu hq
  refine ⟨h4.keep (fun b hb=>aP _ _ _ _ (fun e=> ?_)),h5⟩;obtain ⟨cur,hc⟩:=h4.block hb;rw [e,hl.self] at hc;cases hc
theorem dn.AY {N:Nat} (h:dn N B w) (hb:B≤lb) (v:Value):dn N B (w.setCell ⟨lb,2,none⟩ v):=
 h.keep (fun b hb'=>aP _ _ _ _ (by show b≠lb;omega))
section
structure gK (f:Lk) (a:Nat) (L:List (List UInt8)):Prop where
 there:∀ (i:Nat) (q:List UInt8),L[i]?=some q→f (bD cr (a+i))=some (q,q.length)
 only:∀ n,Lib.hasPrefix n.data.toList ((⟨cr.toArray⟩:ByteArray)++⟨#[45]⟩).data.toList=true→(f n).isSome=true→∃ i,i<L.length∧n=bD cr (a+i)
theorem PE (n:Nat):Lib.hasPrefix (bD cr n).data.toList ((⟨cr.toArray⟩:ByteArray)++⟨#[45]⟩).data.toList=true:=by
 rw [VT,show (⟨#[45]⟩:ByteArray)=⟨([45]:List UInt8).toArray⟩ from rfl,wA];unfold Lib.hasPrefix lV;rw [List.isPrefixOf_iff_prefix];exact ⟨fF n,by simp⟩
theorem gK.some {f:Lk} {L:List (List UInt8)} (h:gK f a L) (hi:i<L.length):f (bD cr (a+i))=some (L[i],L[i].length):=h.there i _ (dZ hi)
theorem gK.none {f:Lk} {L:List (List UInt8)} (h:gK f a L) (hn:n<a∨a+L.length≤n):f (bD cr n)=none:=by
 cases hf:f (bD cr n) with
 |none=>rfl
 |some q=>
  exfalso;obtain ⟨i,hi,he⟩:=h.only _ (PE n) (by rw [hf];rfl);have:=Dy he;omega
theorem axs {m:Nat} (h:lV nm m=lV nm n):m=n:=Dy (nm:=nm) (by unfold bD;rw [h])
theorem VU (n:ByteArray):∀ V:Vw,(cZ n V).isSome=true↔n∈V.map (·.1)
 | []=>by simp [cZ]
 |e::V=>by
  rw [fJ,cg,bE];by_cases h:n=e.1
  ·simp [h]
  ·rw [if_neg h,VU n V];simp [h]
theorem data_inj {x y:ByteArray} (h:x.data.toList=y.data.toList):x=y:=by
 apply ByteArray.ext;exact Array.toList_inj.1 h
theorem gK.names {V:Vw} (hV:nj V) {L:List (List UInt8)} (h:gK (gR V) a L) (h6:a+L.length≤1000000):KF cr V=(List.range' a L.length).map (lV cr):=by
 rw [←axo h6];unfold KF;have hp:(((V.map (·.1)).filter fun s=>Lib.hasPrefix s.data.toList ((⟨cr.toArray⟩:ByteArray)++⟨#[45]⟩).data.toList).map fun s=>s.data.toList).Perm ((List.range' a L.length).map (lV cr)):=by
  refine (List.perm_ext_iff_of_nodup ?_ ?_).2 (fun x=> ?_)
  ·exact List.Pairwise.map _ (fun x y ir he=>ir (data_inj he)) (List.Pairwise.filter _ hV)
  ·exact List.Pairwise.map _ (fun x y ir he=>ir (axs he)) (List.nodup_range' (s:=a) (n:=L.length))
  ·rw [aZ,aZ]
   constructor
   ·rintro ⟨s,hs,rfl⟩
    rw [List.mem_filter] at hs;obtain ⟨i,hi,rfl⟩:=h.only s hs.2 ((VU s V).2 hs.1);exact ⟨a+i,List.mem_range'_1.2 ⟨by omega,by omega⟩,(VT cr _).symm⟩
   ·rintro ⟨n,hn,rfl⟩
    have hn:=List.mem_range'_1.1 hn;refine ⟨bD cr n,List.mem_filter.2 ⟨(VU _ V).1 ?_,PE n⟩,VT cr n⟩;have:=h.some (i:=n-a) (by omega);rw [show a+(n-a)=n by omega] at this;show (gR V (bD cr n)).isSome=true;rw [this];rfl
 refine List.Perm.eq_of_pairwise (le:=fun x y=>x≤y) ?_ ?_ ?_ ((List.mergeSort_perm _ _).trans (hp.trans (List.mergeSort_perm _ _).symm))
 ·intro x y _ _ ir Aa;exact List.le_antisymm ir Aa
 ·refine (List.pairwise_mergeSort (le:=fun x y:List UInt8=>decide (x≤y)) (fun x y z ir KH=>by simp at ir KH ⊢;exact List.le_trans ir KH) (fun x y=>by simp;exact List.le_total x y) _).imp (by intro x y ir;simpa using ir)
 ·refine (List.pairwise_mergeSort (le:=fun x y:List UInt8=>decide (x≤y)) (fun x y z ir KH=>by simp at ir KH ⊢;exact List.le_trans ir KH) (fun x y=>by simp;exact List.le_total x y) _).imp (by intro x y ir;simpa using ir)
variable {N Z B:Nat} {w w':World} {p r:Nat} {f:Lk} {T K:Nat} {F F':Nat→Prop}
theorem dT.dl {last:Int} (hl:dT w lb p' nm last) (h:Dl Z B w p r f T K F) (hs:Sep F w w' F'):dT w' lb p' nm last:=by
 obtain ⟨V,h1,_⟩:=h;exact hl.sep h1 hs
theorem dn.dl (h:dn N B w) (hd:Dl Z B w p r f T K F) (hs:Sep F w w' F'):dn N B w':=by
 obtain ⟨V,h1,_⟩:=hd;exact h.dk h1 hs
theorem jM.dl {ps:List (List UInt8)} (h:jM C F w v ps) (hd:Dl Z B w p r f T K F) (hs:Sep F w w' F'):jM C F' w' v ps:=by
 obtain ⟨V,h1,_⟩:=hd;exact h.sep h1 hs
theorem Dl.row (h:Dl Z B w p r f T K F) {o:Option Nat} (hg:w.grownBy w' o) (ho:∀ g,o=some g→∃ t cur,w.heap[g]?=some (.cells cur t (0,0))∧t≠125∧t≠165∧t≠5):Dl Z B w' p r f T K F:=by
 obtain ⟨V,h1,h2⟩:=h;exact ⟨V,h1.row hg ho,h2⟩
theorem Dl.AY (h:Dl Z B w p r f T K F) {last:Int} (hl:dT w lb p' nm last) (v:Value):Dl Z B (w.setCell ⟨lb,2,none⟩ v) p r f T K F:=by
 obtain ⟨V,h1,h2⟩:=h;exact ⟨V,h1.AY hl v,h2⟩
theorem afP {last:Int} (hl:dT w lb p cr last) (h:Dl Z B w p r f T K F) (hN:dn N B w) (hK:K<1000000000) {L:List (List UInt8)} (hf:gK f a L) (VV:a+L.length≤N) (h6:a+L.length≤1000000):
  Calls Tryz.prog 99 #[.pointer (some ⟨lb,0,none⟩)] w fun e w'=>∃ v,e= .returned v∧nD w.heap.size w' v (List.range' a L.length)∧Grow w w':=by
 obtain ⟨V,h1,rfl,h3,h4⟩:=h;exact axj Gr hl h1 hN (by omega) (fun n hn=>by have:=List.mem_range'_1.1 hn;omega) (hf.names h1.names h6)
theorem VW (h:Dl Z B w p r f T K F) {n:ByteArray} (hn:kC n) (hq:w.heap[qb]?=some (.cells #[pv] 49 (0,0))) (hx:Bv w pv x) (ia:x.length≤1000000000000):
  Calls Tryz.prog 78 #[.pointer (some ⟨p,0,none⟩),.string n,.slice (some ⟨qb,0,none⟩) 1 1] w fun e w'=>∃ (c:Nat) (f':Lk) (T':Nat),e= .returned (.int .i64 c)∧(c=0∧T+x.length≤Z∧f'=f.add n x∧T'=T+x.length∨c=5∧Z<T+x.length∧f'=f∧T'=T)∧oH Z B w p r F w' f' T' (K+1):=by
 by_cases hr:T+x.length≤Z
 ·refine (adA h hn hq hx hr).mono ?_
  rintro e w2 ⟨he,hd⟩;exact ⟨0,_,_,he,.inl ⟨rfl,hr,rfl,rfl⟩,hd⟩
 ·refine (adB h hn hq hx ia (by omega)).mono ?_
  rintro e w2 ⟨he,hg⟩;exact ⟨5,_,_,he,.inr ⟨rfl,by omega,rfl,rfl⟩,F,(h.grow hg).more (by omega),Sep.bT hg⟩
end
section
theorem axt {N B:Nat} {w:World} {lb p r:Nat} {nm:List UInt8} {last size:Int} {fs:List Fe} (hl:dT w lb p nm last) (iA:nm.length≤32) (h:bU B w p r size used born fs) (hN:dn N B w) (hb:∀ f∈fs,f.b.length≤140737488355328) (hn:n<N) (h6:n<1000000):
  Calls Tryz.prog 96 #[.pointer (some ⟨lb,0,none⟩),.int .i64 n] w fun e w'=>e= .returned (.bool (fileOf (bD nm n) fs).isSome)∧Grow w w':=by
 obtain ⟨l0,l1,l2,ll⟩:=hl.cells;have Hs:=ae (fun (w1:World) (hg:Grow w w1)=>yJ (hN.grow hg h.base.2.2) hn h6 (name:=nm) (by omega));have Hr:=ae (fun (w1:World) (hg:Grow w w1)=>acE (h.grow hg) (bD nm n) hb);clear hl h hN hb;have aQ:=Grow.cells (w:=w);go_enter Tryz.func96,Tryz.ntmps96
 go_wp2_with fail
 refine dz (fun W=>Below w.heap.size w W) [9,0] (by kernel_rfl) (bK fun _ _ _ _ _ h=>h) (az _) ?_;simp only [cF]
 repeat ((first|(refine aA (v:= ?_) (by rfl) ?_ ?_;rotate_left;rintro W hW;go_simp;with_reducible rfl)|refine aB (by rfl) ?_);simp only [ai,List.set])
 refine bp (by rfl) (by go_simp) (Hs.out w.drew (az _)) ?_;rintro e w1 ⟨rfl,hg1⟩;have rZ:=(az w).trans hg1;refine ⟨_,rfl,rZ,?_⟩
 try simp only [ai,List.set,aC]
 refine bp (by rfl) (by go_simp) (Hr.out w1 rZ) ?_;rintro e w2 ⟨hm,hg2⟩;have KI:=rZ.trans hg2;have fA:=ae KI;clear rZ hg2 hg1;cases hf:fileOf (bD nm n) fs with
 |none=>
  rw [hf] at hm;obtain rfl:=hm;refine ⟨_,rfl,KI,?_⟩;clear KI
  try simp only [ai,List.set,aC]
  repeat ((first|(refine aA (v:= ?_) (by rfl) ?_ ?_;rotate_left;rintro W hW;go_simp;with_reducible rfl)|refine aB (by rfl) ?_);simp only [ai,List.set])
  refine bj ?_;go_wp2;go_ret;exact ⟨by rw [hf];rfl,fA.out⟩
 |some f=>
  rw [hf] at hm;obtain ⟨v,rfl,hv⟩:=hm;refine ⟨_,rfl,KI,?_⟩;clear KI hv
  try simp only [ai,List.set,aC]
  repeat ((first|(refine aA (v:= ?_) (by rfl) ?_ ?_;rotate_left;rintro W hW;go_simp;with_reducible rfl)|refine aB (by rfl) ?_);simp only [ai,List.set])
  refine bj ?_;go_wp2;go_ret;exact ⟨by rw [hf];rfl,fA.out⟩
theorem afQ {N Z B:Nat} {w:World} {lb p r:Nat} {nm:List UInt8} {last:Int} {f:Lk} {T K:Nat} {F:Nat→Prop} (hl:dT w lb p nm last) (iA:nm.length≤32) (h:Dl Z B w p r f T K F) (hN:dn N B w) (hn:n<N) (h6:n<1000000):
  Calls Tryz.prog 96 #[.pointer (some ⟨lb,0,none⟩),.int .i64 n] w fun e w'=>e= .returned (.bool (f (bD nm n)).isSome)∧Grow w w':=by
 obtain ⟨V,⟨hZ,h0,born,fs,h1,rfl,rfl⟩,rfl,h3,h4⟩:=h;refine (axt hl iA h1 hN (fun f hf=>by have:=FU hf h0;omega) hn h6).mono ?_;rintro e w2 ⟨rfl,hg⟩;refine ⟨?_,hg⟩;unfold gR;rw [wk];cases fileOf (bD nm n) fs<;>rfl
theorem afR {Z B:Nat} {w:World} {p r:Nat} {f:Lk} {T K:Nat} {F:Nat→Prop} (h:Dl Z B w p r f T K F) {n:ByteArray} (hn:kC n) (hl:f n=none):
  Calls Tryz.prog 78 #[.pointer (some ⟨p,0,none⟩),.string n,.slice none 0 0] w fun e w'=>e= .returned (.int .i64 0)∧oH Z B w p r F w' (f.set n ([],0)) T (K+1):=by
 obtain ⟨V,h1,rfl,rfl,h4⟩:=h;refine (atL h1 hn hl).mono ?_;rintro e w2 ⟨he,F',hd,hs⟩;refine ⟨he,F',⟨_,hd,?_,by simp [cR],by simp;omega⟩,hs⟩
 funext m
 unfold gR Lk.set;by_cases h1:m=n
 ·subst h1;rw [if_pos rfl,Uz hl]
 ·rw [if_neg h1,UA h1]
def KJ (Z B:Nat) (w:World) (p r:Nat) (nm:List UInt8) (lb m:Nat) (F:Nat→Prop) (w':World) (f':Lk) (T' K':Nat):Prop:=∃ F',Dl Z B w' p r f' T' K' F'∧dT w' lb p nm (m:Int)∧Sep F w w' F'
variable {N Z B:Nat} {w:World} {p r lb m:Nat} {nm:List UInt8} {f:Lk} {T K:Nat} {F:Nat→Prop}
theorem axu (hm:AX nm) (hN:dn N B w) (hd:Dl Z B w p r f T K F) (hl:dT w lb p nm (m:Int)) (KL:m<N) (h6:m<1000000) {ps:List (List UInt8)} (hr:Rv w v ps) (fw:∀ p∈ps,p.length≤67108864) (nd:(bZ aq ps).length≤1000000000000) (hpl:ps.length≤1000000000000):
  Calls Tryz.prog 40 #[.pointer (some ⟨lb,0,none⟩),v] w fun e w'=>∃ (c:Nat) (f':Lk) (T':Nat),e= .returned (.int .i64 c)∧(c=0∧T+(bZ aq ps).length≤Z∧f'=f.add (bD nm m) (bZ aq ps)∧T'=T+(bZ aq ps).length∨c=5∧Z<T+(bZ aq ps).length∧f'=f∧T'=T)∧KJ Z B w p r nm lb m F w' f' T' (K+1):=by
 have eY:=fun (W:World) (hg:Grow w W)=>arD (hr.grow hg) fw nd hpl
 obtain ⟨va,vc,rfl,hr⟩:=hr;have H:=ae hr;have Hd:=ae hd;have Hl:=ae hl;have HN:=ae hN;have oz:=ae eY;have yM:=ae fw;clear hr hd hl hN eY fw;go_enter Tryz.func40,Tryz.ntmps40
 go_wp2_with fail
 go_loopw [9] (fun iv wr=>∃ i:Nat,iv= .int .i64 i∧i≤ps.length∧wr=w) (fun iv _=>ps.length-(intOf iv).toNat)
 case atStart=>exact ⟨0,rfl,aY _,rfl⟩
 case round=>
  obtain ⟨i,rfl,hi,hw⟩:=hrel;subst hw;by_cases hlt:i<ps.length
  ·obtain ⟨p',hp⟩:∃ p,ps[i]?=some p:=⟨ps[i],by simp [hlt]⟩
   obtain ⟨b,o,rfl,lb',hc⟩:∃ b o,va=some ⟨b,o,none⟩∧b<wr.heap.size∧∀ (j:Nat) (p:List UInt8),ps[j]?=some p→∃ pv,wr.cell? ⟨b,o+j,none⟩=some pv∧Bv wr pv p:=by
    rcases H.out with h1|h1
    ·rw [h1] at hlt;simp at hlt
    ·exact h1
   obtain ⟨pv,c1,bC⟩:=hc i p' hp;have rD:=yM.out p' (dB hp);have aJk:(p'.length:Int)≤67108864:=by omega
   have eB:(i:Int)<(ps.length:Int):=by omega
   have bO:(0:Int)≤(i:Int):=by omega
   have fE:IntKind.i64.wrap ((i:Int)+1)=(i:Int)+1:=aS _ (by omega);obtain ⟨pa,pc,rfl⟩:=bC.slice;clear hc hp bC
   go_wp2_with fail
   go_roundw
   case rel=>exact ⟨i+1,by simp,hlt,(by trivial)⟩
   case measure=>simp [intOf];omega
  ·obtain rfl:i=ps.length:=by omega
   go_wp2_with fail
   refine ou (fun W=>W.cell? ⟨lb,0,none⟩=some (.pointer (some ⟨p,0,none⟩))∧W.cell? ⟨lb,1,none⟩=some (.string ⟨nm.toArray⟩)∧W.cell? ⟨lb,2,none⟩=some (.int .i64 (m:Int))∧lb<W.heap.size) [(0,false),(1,false),(2,false),(3,false),(4,false),(5,false),(6,false),(7,false),(8,false),(9,false),(10,false),(11,false),(13,false),(12,true),(14,true),(15,true),(16,true),(17,false)] (by kernel_rfl) (by kernel_rfl) (bK fun _ _ _ _ _ h=>h) (Hl.out.grow (az wr)).cells ?_;simp only [cm,nth]
   repeat ((first|(refine aA (v:= ?_) (by rfl) ?_ ?_;rotate_left;rintro W ⟨hW0,hW1,hW2,hW3⟩;go_simp;with_reducible rfl)|refine aB (by rfl) ?_);simp only [ai,List.set])
   have iY:=az wr;refine bp (by rfl) (by go_simp) (yJ (HN.out.grow iY Hd.out.base) (n:=m) KL h6 (name:=nm) (by have:=hm.len;omega)) ?_;rintro e w7 ⟨rfl,cG⟩;have jB:=iY.trans cG;refine ⟨_,rfl,(Hl.out.grow jB).cells,?_⟩
   try simp only [ai,List.set,aC]
   refine bp (by rfl) (by go_simp) (oz.out w7 jB) ?_;rintro e w8 ⟨fv,rfl,hfv,di⟩;have VX:=jB.trans di;refine ⟨_,rfl,(Hl.out.grow VX).cells,?_⟩;have rH:=cI hfv;obtain ⟨fa,fc,rfl⟩:=rH.slice
   try simp only [ai,List.set,aC]
   have oN:=ar w8 (.cells #[.slice fa (bZ aq ps).length fc] 49);have se:=VX.trans oN;refine fO (by rfl) (fun K hK=> ?_);go_simp;refine hK _ _ ⟨(Hl.out.grow se).cells,?_⟩;clear hK K
   try simp only [ai,List.set,aC]
   refine bp (by rfl) (by go_simp) (VW (Hd.out.grow se) (VQ hm h6) (ax _ _) (rH.grow oN) nd) ?_;rintro e w9 ⟨c9,f9,T9,rfl,hc9,F9,gJ,jN⟩;have pV:=(Hl.out.grow se).dl (Hd.out.grow se) jN;have bw:Hid (KJ Z B wr p r nm lb m F w9 f9 T9 (K+1)):=ae ⟨F9,gJ,pV,(Sep.bT se).trans jN⟩;have Hc9:=ae hc9;refine ⟨_,rfl,pV.cells,?_⟩;clear hc9 gJ jN pV se oN rH hfv VX di jB cG iY
   try simp only [ai,List.set,aC]
   repeat ((first|(refine aA (v:= ?_) (by rfl) ?_ ?_;rotate_left;rintro W ⟨hW0,hW1,hW2,hW3⟩;go_simp;with_reducible rfl)|refine aB (by rfl) ?_);simp only [ai,List.set])
   refine bj ?_;go_wp2;go_ret;exact ⟨c9,f9,T9,rfl,Hc9.out,bw.out⟩
theorem afU (hm:AX nm) (hN:dn N B w) (hd:Dl Z B w p r f T K F) (hl:dT w lb p nm (m:Int)) (KL:m<N) (h6:m<1000000) {b:List UInt8} (hlk:f (bD nm m)=some (b,s)):
  Calls Tryz.prog 42 #[.pointer (some ⟨lb,0,none⟩)] w fun e w'=>e= .returned (.int .i64 0)∧KJ Z B w p r nm lb m F w' (f.set (bD nm m) (b,b.length)) T K:=by
 have Hd:=ae hd;have Hl:=ae hl;have HN:=ae hN;have Hk:=ae hlk;clear hd hl hN hlk;go_enter Tryz.func42,Tryz.ntmps42
 go_wp2_with fail
 refine dz (fun W=>W.cell? ⟨lb,0,none⟩=some (.pointer (some ⟨p,0,none⟩))∧W.cell? ⟨lb,1,none⟩=some (.string ⟨nm.toArray⟩)∧W.cell? ⟨lb,2,none⟩=some (.int .i64 (m:Int))∧lb<W.heap.size) [12,0,0] (by kernel_rfl) (bK fun _ _ _ _ _ h=>h) (Hl.out.grow (az w)).cells ?_;simp only [cF]
 repeat ((first|(refine aA (v:= ?_) (by rfl) ?_ ?_;rotate_left;rintro W ⟨hW0,hW1,hW2,hW3⟩;go_simp;with_reducible rfl)|refine aB (by rfl) ?_);simp only [ai,List.set])
 have iY:=az w;refine bp (by rfl) (by go_simp) (yJ (HN.out.grow iY Hd.out.base) (n:=m) KL h6 (name:=nm) (by have:=hm.len;omega)) ?_;rintro e w7 ⟨rfl,cG⟩;have jB:=iY.trans cG;refine ⟨_,rfl,(Hl.out.grow jB).cells,?_⟩
 try simp only [ai,List.set,aC]
 have se:=jB.trans (ar w7 (.cells #[.string (bD nm m)] 9));refine fO (by rfl) (fun K hK=> ?_);go_simp;refine hK _ _ ⟨(Hl.out.grow se).cells,?_⟩;clear hK K
 try simp only [ai,List.set,aC]
 refine bp (by rfl) (by go_simp) (Ka (Hd.out.grow se) Hk.out (ax _ _)) ?_;rintro e w9 ⟨rfl,F9,gJ,jN⟩;have pV:=(Hl.out.grow se).dl (Hd.out.grow se) jN;have bw:Hid (KJ Z B w p r nm lb m F w9 (f.set (bD nm m) (b,b.length)) T K):=ae ⟨F9,gJ,pV,(Sep.bT se).trans jN⟩;refine ⟨_,rfl,pV.cells,?_⟩;clear gJ jN pV se jB cG iY
 try simp only [ai,List.set,aC]
 repeat ((first|(refine aA (v:= ?_) (by rfl) ?_ ?_;rotate_left;rintro W ⟨hW0,hW1,hW2,hW3⟩;go_simp;with_reducible rfl)|refine aB (by rfl) ?_);simp only [ai,List.set])
 refine bj ?_;go_wp2;go_ret;exact ⟨rfl,bw.out⟩
theorem VY {last:Int} (hl:dT w lb p nm last):Calls Tryz.prog 77 #[.pointer (some ⟨lb,0,none⟩)] w fun e w'=>e= .returned (.int .i64 last)∧w'=w:=by
 obtain ⟨l0,l1,l2,ll⟩:=hl.cells;clear hl;go_enter Tryz.func77,Tryz.ntmps77;go_wp2;go_ret;exact ⟨rfl,rfl⟩
end
section
def mN (P:List (List UInt8)):List (List UInt8):=(P.map fun q=>(lF aq q).1).flatten
theorem afV (P:List (List UInt8)) (q:List UInt8):mN (P++ [q])=mN P++(lF aq q).1:=by simp [mN]
structure lj (Z B:Nat) (w:World) (p r:Nat) (nm:List UInt8) (F:Nat→Prop) (lb:Nat) (f:Lk) (T K:Nat) (last:Int) (ps:List (List UInt8)) (F':Nat→Prop) (ov:Value) (wr:World):Prop where
 bg:Dl Z B wr p r f T K F'
 sep:Sep F w wr F'
 log:dT wr lb p nm last
 rows:jM w.heap.size F' wr ov ps
variable {N Z B:Nat} {w wr w':World} {p r a lb:Nat} {nm:List UInt8} {f f':Lk} {T K T' K':Nat} {F F' vY:Nat→Prop} {last:Int} {ps qs:List (List UInt8)} {ov:Value} {L:List (List UInt8)}
theorem lj.grow (h:lj Z B w p r nm F lb f T K last ps F' ov wr) (hg:Grow wr w'):lj Z B w p r nm F lb f T K last ps F' ov w':=
 ⟨h.bg.grow hg,h.sep.trans (Sep.bT hg),h.log.grow hg,h.rows.grow hg⟩
theorem lj.dl (h:lj Z B w p r nm F lb f T K last ps F' ov wr) (hd:Dl Z B w' p r f' T' K' vY) (hs:Sep F' wr w' vY):lj Z B w p r nm F lb f' T' K' last ps vY ov w':=
 ⟨hd,h.sep.trans hs,h.log.dl h.bg hs,h.rows.dl h.bg hs⟩
theorem lj.set (h:lj Z B w p r nm F lb f T K last ps F' ov wr) (hb:w.heap.size≤lb) (n:Int):lj Z B w p r nm F lb f T K n ps F' ov (wr.setCell ⟨lb,2,none⟩ (.int .i64 n)):=
 ⟨h.bg.AY h.log _,h.sep.axr hb _ _,h.log.set n,h.rows.AY h.log _⟩
theorem lj.append {x:Value} (h:lj Z B w p r nm F lb f T K last ps F' ov wr) (hx:lG B' wr x qs) (hB:wr.heap.size≤B'∨(w.heap.size≤B'∧∀ b,F' b→b<B')) (hlen:ps.length+qs.length≤1000000000000):
  ∃ v' w',(Builtin.append_ #[131,131] 131 #[ov,x]).run Tryz.prog wr= .ok v' w'∧lj Z B w p r nm F lb f T K last (ps++qs) F' v' w':=by
 have hsz:=h.sep.size;have hap:jM B' F' wr x qs:=hx.apart (fun b hb=>by
  rcases hB with hB|hB
  ·have:=(h.bg.foot hb).2;omega
  ·exact hB.2 b hb)
 have Gj:w.heap.size≤B':=by rcases hB with hB|hB<;>omega
 obtain ⟨v',w',h1,h2,h3,h4⟩:=axq h.rows hap hsz Gj hlen;refine ⟨v',w',h1,⟨h.bg.row h3 (fun g hg=> ?_),h.sep.row h3 (fun g hg=>(h4 g hg).1),h.log.row h3 (fun g hg=> ?_),h2⟩⟩
 ·obtain ⟨_,cur,hc⟩:=h4 g hg;exact ⟨_,cur,hc,by decide,by decide,by decide⟩
 ·obtain ⟨_,cur,hc⟩:=h4 g hg;exact ⟨_,cur,hc,by decide⟩
theorem lj.jn (h:lj Z B w p r nm F lb f T K last ps F' ov wr) (hN:dn N B w) {f0:Lk} {T0 K0:Nat} (h0:Dl Z B w p r f0 T0 K0 F):dn N B wr:=hN.dl h0 h.sep
theorem lj.cells (h:lj Z B w p r nm F lb f T K last ps F' ov wr):wr.cell? ⟨lb,0,none⟩=some (.pointer (some ⟨p,0,none⟩))∧lb<wr.heap.size:=⟨h.log.cells.1,h.log.cells.2.2.2⟩
def O1 (Z B:Nat) (w:World) (p r a:Nat) (nm:List UInt8) (F:Nat→Prop) (lb:Nat) (f:Lk) (T K:Nat) (L:List (List UInt8)) (ov nv:Value) (wr:World):Prop:=
 ∃ (n:Nat) (P R:List (List UInt8)) (F':Nat→Prop),nv= .int .i64 (n:Int)∧n=a+P.length∧L=P++R∧lj Z B w p r nm F lb f T K ((a+(P.length-1):Nat):Int) (mN P) F' ov wr
def O2 (Z B:Nat) (w:World) (p r a:Nat) (nm:List UInt8) (F:Nat→Prop) (lb:Nat) (f:Lk) (T K:Nat) (L:List (List UInt8)) (ov:Value) (wr:World):Prop:=
 ∃ F':Nat→Prop,lj Z B w p r nm F lb f T K ((a+(L.length-1):Nat):Int) (mN L) F' ov wr
def pW (nm:List UInt8) (a:Nat) (f:Lk) (L:List (List UInt8)):Lk:=if L= [] then f.set (bD nm a) ([],0) else f
def nY (L:List (List UInt8)):List (List UInt8):=if L= [] then [[]] else L
theorem VZ {f:Lk} {a:Nat} {L:List (List UInt8)} (h:gK f a L):gK (pW cr a f L) a (nY L):=by
 unfold pW nY;by_cases hL:L= []
 ·subst hL
  rw [if_pos rfl,if_pos rfl];refine ⟨fun i q hq=> ?_,fun n hn hs=> ?_⟩
  ·cases i with
   |zero=>simp at hq;subst hq;rw [Nat.add_zero,rI];rfl
   |succ i=>simp at hq
  ·by_cases he:n=bD cr a
   ·exact ⟨0,by simp,by rw [he,Nat.add_zero]⟩
   ·rw [ik _ he] at hs
    obtain ⟨i,hi,_⟩:=h.only n hn hs;simp at hi
 ·rw [if_neg hL,if_neg hL];exact h
def axw (Z B:Nat) (w:World) (p r a:Nat) (nm:List UInt8) (F:Nat→Prop) (f:Lk) (T K:Nat) (L:List (List UInt8)) (e:Ending) (w':World):Prop:=
 ∃ (lb:Nat) (v:Value) (F':Nat→Prop),e= .returned (.tuple #[.pointer (some ⟨lb,0,none⟩),v,.int .i64 0])∧w.heap.size≤lb∧Dl Z B w' p r (pW nm a f L) T (K+1) F'∧Sep F w w' F'∧dT w' lb p nm ((a+((nY L).length-1):Nat):Int)∧jM w.heap.size F' w' v (mN L)
theorem axx (iA:nm=cr) (iy:∀ w,Calls Tryz.prog 95 #[.string ⟨nm.toArray⟩] w fun e w'=>e= .returned (.bool true)∧w'=w) (hf:gK f a L) (hw:∀ q∈L,(lF aq q).2.2=0) (h:Dl Z B w p r f T K F) (hN:dn N B w) (hK:K+1<1000000000) (VV:a+L.length+1<N) (ha6:a+L.length+1<1000000) (CA:(mN L).length≤1000000000000):
  Calls Tryz.prog 52 #[.pointer (some ⟨p,0,none⟩),.string ⟨nm.toArray⟩,.int .i64 a] w (axw Z B w p r a nm F f T K L):=by
 have hm:AX nm:=iA ▸ Gr;have tH:∀ (i:Nat) (q:List UInt8),L[i]?=some q→f (bD nm (a+i))=some (q,q.length):=by subst iA;exact hf.there
 have hen:f (bD nm (a+L.length))=none:=by subst iA;exact hf.none (.inr (aw _))
 have KM:∀ (W:World) (F2:Nat→Prop) (last:Int),dT W w.heap.size p nm last→Dl Z B W p r (pW nm a f L) T (K+1) F2→dn N B W→Calls Tryz.prog 99 #[.pointer (some ⟨w.heap.size,0,none⟩)] W fun e w'=>∃ v,e= .returned v∧nD W.heap.size w' v (List.range' a (nY L).length)∧Grow W w':=by
  subst iA;intro W F2 last hl hd hn;have hlen:(nY L).length≤L.length+1:=by unfold nY;split<;>simp
  exact afP hl hd hn hK (VZ hf) (by omega) (by omega)
 have ha0:(0:Int)≤(a:Int):=by omega
 have ha:(a:Int)≤999999:=by omega
 have Hn:=ae (iy w);have H:=ae h;have HN:=ae hN;have PF:=ae tH;have Vu:=ae hen;have Wb:=ae KM;have Hw:=ae hw;clear iy h hN tH hen KM hw hf iA;go_enter Tryz.func52,Tryz.ntmps52
 go_wp2_with fail
 (with_reducible refine Hn.out.mono ?_);rintro e w1 ⟨rfl,hw⟩;have hw':=hw.symm;subst hw';clear hw
 go_upto_block 0 with fail
 go_cut [10] from 36 to 84 (fun ov wx=>O2 Z B w p r a nm F w.heap.size f T K L ov wx)
 case first=>
  have oN:=ar w (.cells #[.pointer (some ⟨p,0,none⟩),.string ⟨nm.toArray⟩,.int .i64 a] 167);have bJ:Hid (lj Z B w p r nm F w.heap.size f T K (a:Int) [] F (.slice none 0 0) (w.alloc (.cells #[.pointer (some ⟨p,0,none⟩),.string ⟨nm.toArray⟩,.int .i64 a] 167))):=ae ⟨H.out.grow oN,Sep.bT oN,⟨ax _ _⟩,axp _ _ _⟩;clear oN
  go_wp2_with fail
  go_loopw [10,11] (fun ov nv wr=>O1 Z B w p r a nm F w.heap.size f T K L ov nv wr) (fun _ nv _=>a+L.length+1-(intOf nv).toNat)
  case atStart=>exact ⟨a,[],L,F,rfl,rfl,rfl,bJ.out⟩
  case round=>
   obtain ⟨n,P,R,F',rfl,hn,wR,h1⟩:=hrel;have hlen:P.length+R.length=L.length:=by rw [wR,aJ]
   have yK:=h1.jn HN.out H.out;obtain ⟨l0,l1,l2,ll⟩:=h1.log.cells;have ht:=afQ h1.log hm.len h1.bg yK (n:=n) (by omega) (by omega);obtain ⟨oa,oc,tG⟩:=h1.rows.slice;subst tG;have H1:=ae h1;have VR:=ae yK;clear h1 yK l2;cases R with
   |nil=>
    rw [List.append_nil] at wR;have hqn:f (bD nm n)=none:=by rw [hn,←wR];exact Vu.out
    rw [hqn] at ht;have Ht:=ae ht;have yN:=ae hn;have Wc:=ae wR;clear ht hn wR hqn
    go_wp2_with fail
    (with_reducible refine Ht.out.mono ?_);rintro e w1 ⟨rfl,hg1⟩;have Hex:=ae (H1.out.grow hg1);clear hg1;go_wp2;go_meet;exact ⟨F',by rw [Wc.out];exact Hex.out⟩
   |cons q R=>
    have hq:f (bD nm n)=some (q,q.length):=by rw [hn];exact PF.out P.length q (by rw [wR,ur (aw _),Nat.sub_self];rfl)
    rw [hq] at ht;have her:(lF aq q).2.2=0:=Hw.out q (by rw [wR];simp);have pO:(mN P).length+(lF aq q).1.length≤1000000000000:=by
     have:(mN (P++ [q])).length≤(mN L).length:=by
      rw [wR,show P++q::R=(P++ [q])++R by simp];simp [mN]
     rw [afV,aJ] at this;omega
    have PG:q.length≤1073741824:=by have:=H.out.len hq;have:=H.out.total;have:=H.out.size;dsimp only at*;omega
    have Ht:=ae ht;have yN:=ae hn;have Hq:=ae hq;have Wc:=ae wR;clear ht hn hq wR
    go_wp2_with fail
    (with_reducible refine Ht.out.mono ?_);rintro e w1 ⟨rfl,hg1⟩;have h2:=H1.out.grow hg1;obtain ⟨k0,k1,k2,kl⟩:=h2.log.cells;have ff:=bG h2.log.self;obtain ⟨w2,hw2⟩:∃ x,x=w1.setCell ⟨w.heap.size,2,none⟩ (.int .i64 n):=⟨_,rfl⟩
    have gH:=h2.set (aw _) n;rw [←hw2] at gH;have qF:=ae hw2;have M2:=ae gH;clear hg1 h2 H1 VR l0 l1 ll gH hw2
    go_upto_region 9 with fail
    rw [←qF.out];clear ff qF k0 k1 k2 kl;refine dz (fun W=>W.cell? ⟨w.heap.size,0,none⟩=some (.pointer (some ⟨p,0,none⟩))∧w.heap.size<W.heap.size) [6,0] (by kernel_rfl) (bK fun _ _ _ _ _ h=>h) (M2.out.grow (az w2)).cells ?_;simp only [cF]
    repeat ((first|(refine aA (v:= ?_) (by rfl) ?_ ?_;rotate_left;rintro W ⟨hW0,hW1⟩;go_simp;with_reducible rfl)|refine aB (by rfl) ?_);simp only [ai,List.set])
    have iY:=az w2;refine bp (by rfl) (by go_simp) (yJ ((M2.out.jn HN.out H.out).grow iY M2.out.bg.base) (n:=n) (by have:=yN.out;omega) (by have:=yN.out;omega) (name:=nm) (by have:=hm.len;omega)) ?_;rintro e w3 ⟨rfl,hg3⟩;have lh:=iY.trans hg3;refine ⟨_,rfl,(M2.out.grow lh).cells,?_⟩
    try simp only [ai,List.set,aC]
    have bm:=JZ (M2.out.bg.grow lh) (bD nm n);rw [Hq.out] at bm;refine bp (by rfl) (by go_simp) bm ?_;rintro e w4 ⟨⟨bv,rfl,bC⟩,hg4⟩;have im:=lh.trans hg4;have qW:=M2.out.grow im;refine ⟨_,rfl,qW.cells,?_⟩;have qU:=cI bC;obtain ⟨ba,bc,rfl⟩:=qU.slice;have pL:=acA qU (by omega);have dS:=afV P q;generalize lF aq q=RF at*;obtain ⟨sm,sz,er⟩:=RF;dsimp only at pL her pO dS;subst her;have mD:=ae pL;have nA:=ae dS;have M4:=ae qW;clear pL dS qU bC qW im lh hg4 hg3 iY bm M2
    try simp only [ai,List.set,aC]
    repeat ((first|(refine aA (v:= ?_) (by rfl) ?_ ?_;rotate_left;rintro W ⟨hW0,hW1⟩;go_simp;with_reducible rfl)|refine aB (by rfl) ?_);simp only [ai,List.set])
    refine bj ?_
    go_wp2_with fail
    (with_reducible refine mD.out.mono ?_);rintro e w5 ⟨rv,rfl,yO,br⟩;have AZ:=M4.out.grow br;obtain ⟨v',w6,r1,DB⟩:=AZ.append yO (.inr ⟨M4.out.sep.size,fun b hb=>(M4.out.bg.foot hb).2⟩) (by omega);obtain ⟨ra,rc,rfl⟩:=yO.slice;obtain ⟨va,vc,rfl⟩:=DB.rows.slice;have hN6:=DB.jn HN.out H.out;have cW:=ae r1;have M6:=ae DB;have HN6:=ae hN6;clear r1 DB AZ yO br M4 mD hN6
    go_wp2_with (at_builtin;refine fI rfl rfl rfl rfl cW.out ?_)
    refine dz (fun W=>W.cell? ⟨w.heap.size,0,none⟩=some (.pointer (some ⟨p,0,none⟩))∧w.heap.size<W.heap.size) [6,0,0] (by kernel_rfl) (bK fun _ _ _ _ _ h=>h) (M6.out.grow (az w6)).cells ?_;simp only [cF]
    repeat ((first|(refine aA (v:= ?_) (by rfl) ?_ ?_;rotate_left;rintro W ⟨hW0,hW1⟩;go_simp;with_reducible rfl)|refine aB (by rfl) ?_);simp only [ai,List.set])
    have iY:=az w6;refine bp (by rfl) (by go_simp) (yJ (HN6.out.grow iY M6.out.bg.base) (n:=n) (by have:=yN.out;omega) (by have:=yN.out;omega) (name:=nm) (by have:=hm.len;omega)) ?_;rintro e w7 ⟨rfl,cG⟩;have qX:=iY.trans cG;refine ⟨_,rfl,(M6.out.grow qX).cells,?_⟩
    try simp only [ai,List.set,aC]
    have di:=qX.trans (ar w7 (.cells #[.string (bD nm n)] 9));have tI:=M6.out.grow di;refine fO (by rfl) (fun K hK=> ?_);go_simp;refine hK _ _ ⟨tI.cells,?_⟩;clear hK K
    try simp only [ai,List.set,aC]
    have rF:=Ka tI.bg (n:=bD nm n) Hq.out (ax _ _);rw [adx Hq.out] at rF;refine bp (by rfl) (by go_simp) rF ?_;rintro e w9 ⟨rfl,F9,gJ,jN⟩;have Ba:=tI.dl gJ jN;have M9:=ae Ba;refine ⟨_,rfl,Ba.cells,?_⟩;clear Ba gJ jN rF tI di qX cG iY
    try simp only [ai,List.set,aC]
    refine bj ?_;have cp:IntKind.i64.wrap ((n:Int)+1)=(n:Int)+1:=aS _ (by have:=yN.out;omega);go_wp2;go_roundw
    case rel=>
     refine ⟨n+1,P++ [q],R,F9,by simp,by have:=yN.out;rw [aJ,List.length_singleton];omega,by rw [Wc.out];simp,?_⟩;have hM:=M9.out;rw [show (a+((P++ [q]).length-1):Nat)=n by have:=yN.out;simp;omega,nA.out];rw [aJ] at hM;exact hM
    case measure=>simp [intOf];have:=yN.out;omega
 case rest=>
  obtain ⟨F2,h2⟩:=hcut;obtain ⟨oa,oc,tG⟩:=h2.rows.slice;subst tG;have ht:=afQ h2.log hm.len h2.bg (h2.jn HN.out H.out) (n:=a) (by omega) (by omega);have vd:(f (bD nm a)).isSome=true∧pW nm a f L=f∧(nY L)=L∧L.length≠0∨(f (bD nm a)).isSome=false∧f (bD nm a)=none∧pW nm a f L=f.set (bD nm a) ([],0)∧(nY L).length=1∧L.length=0:=by
   unfold pW nY;by_cases PH:L= []
   ·right
    subst PH;have:=Vu.out;rw [iK,Nat.add_zero] at this;exact ⟨by rw [this];rfl,this,rfl,rfl,rfl⟩
   ·left
    have hp:0<L.length:=List.length_pos_iff.2 PH;have:=PF.out 0 L[0] (dZ hp);rw [Nat.add_zero] at this;rw [if_neg PH,if_neg PH,this];exact ⟨rfl,rfl,rfl,by omega⟩
  generalize dX:(f (bD nm a)).isSome=bb at ht vd;have Ht:=ae ht;have H2:=ae h2;have Wd:=ae vd;clear ht h2 vd dX
  go_wp2_with fail
  (with_reducible refine Ht.out.mono ?_);rintro e w1 ⟨rfl,hg1⟩;have eC:=ae hg1;clear hg1
  go_upto_if 88 with fail
  go_cut [] from 89 to 96 (fun wx=>∃ F',lj Z B w p r nm F w.heap.size (pW nm a f L) T (K+1) ((a+((nY L).length-1):Nat):Int) (mN L) F' (.slice oa (mN L).length oc) wx)
  case first=>
   have gC:=H2.out.grow eC.out;rcases Wd.out with ⟨rfl,c2,c3,c4⟩|⟨rfl,c1,c2,c3,c4⟩
   ·have kA:lj Z B w p r nm F w.heap.size (pW nm a f L) T (K+1) ((a+((nY L).length-1):Nat):Int) (mN L) F2 (.slice oa (mN L).length oc) w1:=by
     rw [c2,c3];exact ⟨gC.bg.more (by omega),gC.sep,gC.log,gC.rows⟩
    have M1:=ae kA;clear gC c2 c3 c4 kA;go_wp2;go_meet;exact ⟨F2,M1.out⟩
   ·have M1:=ae gC
    have C1:=ae c1;have C2:=ae c2;have C3:=ae (ag c3 c4);clear gC c1 c2 c3 c4
    go_wp2_with fail
    refine dz (fun W=>W.cell? ⟨w.heap.size,0,none⟩=some (.pointer (some ⟨p,0,none⟩))∧w.heap.size<W.heap.size) [6,0] (by kernel_rfl) (bK fun _ _ _ _ _ h=>h) (M1.out.grow (az w1)).cells ?_;simp only [cF]
    repeat ((first|(refine aA (v:= ?_) (by rfl) ?_ ?_;rotate_left;rintro W ⟨hW0,hW1⟩;go_simp;with_reducible rfl)|refine aB (by rfl) ?_);simp only [ai,List.set])
    have iY:=az w1;refine bp (by rfl) (by go_simp) (yJ ((M1.out.jn HN.out H.out).grow iY M1.out.bg.base) (n:=a) (by omega) (by omega) (name:=nm) (by have:=hm.len;omega)) ?_;rintro e w7 ⟨rfl,cG⟩;have jB:=iY.trans cG;have PI:=M1.out.grow jB;refine ⟨_,rfl,PI.cells,?_⟩
    try simp only [ai,List.set,aC]
    refine bp (by rfl) (by go_simp) (afR PI.bg (n:=bD nm a) (VQ hm (by omega)) C1.out) ?_;rintro e w9 ⟨rfl,F9,gJ,jN⟩;have Ba:=PI.dl gJ jN;rw [←C2.out] at Ba;have M9:=ae Ba;refine ⟨_,rfl,Ba.cells,?_⟩;clear Ba gJ jN PI jB cG iY
    try simp only [ai,List.set,aC]
    refine bj ?_;go_wp2;go_meet;exact ⟨F9,by have:=M9.out;rw [C3.out.2] at this;rw [C3.out.1];exact this⟩
  case rest=>
   obtain ⟨F3,h3⟩:=hcut;have hS:(nY L).length≤L.length+1∧0<(nY L).length:=by
    rcases Wd.out with ⟨_,_,c3,c4⟩|⟨_,_,_,c3,c4⟩
    ·rw [c3];omega
    ·rw [c3];omega
   clear eC Wd H2 Ht;generalize wc=w2 at*;obtain ⟨ps,fw⟩:∃ ps,ps=mN L:=⟨_,rfl⟩
   obtain ⟨m,kA⟩:∃ m,m=a+((nY L).length-1):=⟨_,rfl⟩
   rw [←fw,←kA] at h3;rw [←fw];have We:=Wb.out w2 F3 m h3.log h3.bg (h3.jn HN.out H.out);obtain ⟨k,hk⟩:∃ k,k=(nY L).length:=⟨_,rfl⟩
   rw [←hk] at We hS kA;have Hsg:=ae We;have H3:=ae h3;have yM:=ae fw;have Hk:=ae hk;have Hmm:=ae kA;clear We h3 fw hk
   go_wp2_with fail
   (with_reducible refine Hsg.out.mono ?_);rintro e w3 ⟨nv,rfl,hown,hg3⟩;have Wf:=H3.out.grow hg3;rcases id hown with ⟨rfl,iy⟩|⟨gN,cap,cur,rfl,kR⟩
   ·exfalso
    have h01:=congrArg List.length iy;rw [bF,List.length_range',iK] at h01;omega
   clear kR;have fR:((List.range' a k).map fun n:Nat=>Value.int .i64 n).length=k:=by rw [bF,List.length_range']
   rw [fR];rw [fR] at hown;have M3:=ae Wf;have fX:=ae hown;have aJm:gN<w3.heap.size:=(hown.lt rfl).2;obtain ⟨j0,j1,j2,jl⟩:=Wf.log.cells;clear Wf hown fR kA hg3 j0 j1
   go_wp2_with fail
   go_loopw [100] (fun iv wr=>∃ i:Nat,iv= .int .i64 (i:Int)∧i≤k∧wr=w3) (fun iv _=>k-(intOf iv).toNat)
   case atStart=>exact ⟨0,rfl,aY _,rfl⟩
   case round=>
    obtain ⟨i,rfl,hi,hwr⟩:=hrel;subst hwr;have bO:(0:Int)≤(i:Int):=by omega
    have cp:IntKind.i64.wrap ((i:Int)+1)=(i:Int)+1:=aS _ (by omega);by_cases hlt:i<k
    ·obtain ⟨n,hn⟩:∃ n,n=a+i:=⟨_,rfl⟩
     have hc:wr.cell? ⟨gN,i,none⟩=some (.int .i64 n):=Row1.cells fX.out rfl (by rw [hn,gZ,List.getElem?_range' hlt];simp);have eB:(i:Int)<(k:Int):=by omega
     have eI:(n:Int)≤(m:Int):=by have:=Hmm.out;omega
     clear hn;go_wp2;go_roundw
     case rel=>exact ⟨i+1,by simp,hlt,(by trivial)⟩
     case measure=>simp [intOf];omega
    ·have eB:(k:Int)≤(i:Int):=by omega
     go_wp2;refine bodyPost_ret (v:= .tuple #[.pointer (some ⟨w.heap.size,0,none⟩),.slice oa ps.length oc,.int .i64 0]) ?_ rfl ?_
     ·simp [results,Tryz.results52,go_sem]
     ·have h5:=M3.out
      refine ⟨w.heap.size,_,F3,rfl,aw _,h5.bg,h5.sep,?_,?_⟩
      ·rw [←Hk.out,←Hmm.out];exact h5.log
      ·rw [←yM.out];exact h5.rows
end
section
def FL (F:Nat→Prop) (lb:Nat):Nat→Prop:=fun b=>F b∨b=lb
theorem Sep.wide {F F':Nat→Prop} {w w':World} (h:Sep F w w' F') (lb:Nat):Sep (FL F lb) w w' (FL F' lb):=
 ⟨h.os,h.tape,h.output,h.size,fun b hb hn=>h.out b hb (fun hf=>hn (.inl hf)),fun b hb=>by
  rcases hb with hb|rfl
  ·rcases h.foot b hb with h1|h1
   ·exact .inl (.inl h1)
   ·exact .inr h1
  ·exact .inl (.inr rfl)⟩
theorem Sep.ve (F:Nat→Prop) (w:World) (lb j:Nat) (v:Value):Sep (FL F lb) w (w.setCell ⟨lb,j,none⟩ v) (FL F lb):=
 ⟨rfl,rfl,rfl,by simp,fun b _ hn=>aP _ _ _ _ (fun e=>hn (.inr e)),fun b hb=> .inl hb⟩
def oW (nm:List UInt8) (a:Nat) (f:Lk):Nat→Lk
 |0=>f
 |j+1=>(oW nm a f j).del (bD nm (a+j))
def wT (L:List (List UInt8)):Nat:=(L.map (·.length)).sum
theorem Gs (nm:List UInt8) (a:Nat) (f:Lk) {n:ByteArray}:∀ j,(∀ i,i<j→n≠bD nm (a+i))→oW nm a f j n=f n
 |0,_=>rfl
 |j+1,h=>by rw [oW,adv _ (h j (by omega)),Gs nm a f j (fun i hi=>h i (by omega))]
theorem afZ (nm:List UInt8) (a:Nat) (f:Lk):∀ (j i:Nat),i<j→oW nm a f j (bD nm (a+i))=none
 |j+1,i,h=>by
  rw [oW];by_cases he:i=j
  ·rw [he,adu]
  ·rw [adv _ (fun e=>he (by have:=Dy e;omega)),afZ nm a f j i (by omega)]
theorem gK.drop {f:Lk} {a:Nat} {L:List (List UInt8)} (h:gK f a L) (j:Nat):gK (oW cr a f j) (a+j) (L.drop j):=by
 refine ⟨fun i q hq=> ?_,fun n hn hs=> ?_⟩
 ·rw [Gs _ _ _ _ (fun i' hi' e=>by have:=Dy e;omega),Nat.add_assoc]
  exact h.there (j+i) q (by rw [List.getElem?_drop] at hq;exact hq)
 ·by_cases hc:∃ i,i<j∧n=bD cr (a+i)
  ·obtain ⟨i,hi,rfl⟩:=hc
   rw [afZ _ _ _ _ _ hi] at hs;cases hs
  ·rw [Gs _ _ _ _ (fun i hi e=>hc ⟨i,hi,e⟩)] at hs
   obtain ⟨i,hi,rfl⟩:=h.only n hn hs;have pG:j≤i:=Nat.le_of_not_lt (fun hlt=>hc ⟨i,hlt,rfl⟩);exact ⟨i-j,by rw [List.length_drop];omega,by rw [show a+j+(i-j)=a+i by omega]⟩
theorem nD.dl {Z B C:Nat} {w w':World} {p r:Nat} {f:Lk} {T K:Nat} {F F':Nat→Prop} (h:nD C w v ns) (hd:Dl Z B w p r f T K F) (hs:Sep F w w' F'):nD C w' v ns:=
 Row1.keep h (fun g hg=>by
  obtain ⟨cur,hb⟩:=Row1.block h hg;exact hs.out g (af hb) (hd.apart hb (by decide) (by decide) (by decide)))
structure Bb (Z B:Nat) (w:World) (p r:Nat) (nm:List UInt8) (lb a m:Nat) (f:Lk) (T K:Nat) (L:List (List UInt8)) (F:Nat→Prop) (C:Nat) (nv:Value) (k:Nat) (F':Nat→Prop) (wr:World):Prop where
 bg:Dl Z B wr p r (oW nm a f k) (T-wT (L.take k)) K F'
 log:dT wr lb p nm (m:Int)
 sep:Sep F w wr F'
 row:nD C wr nv (List.range' a L.length)
variable {N Z B C:Nat} {w wr w':World} {p r lb a m k b:Nat} {nm:List UInt8} {f:Lk} {T K:Nat} {F F' vY:Nat→Prop} {nv:Value} {L:List (List UInt8)}
theorem Bb.grow (h:Bb Z B w p r nm lb a m f T K L F C nv k F' wr) (hg:Grow wr w'):Bb Z B w p r nm lb a m f T K L F C nv k F' w':=
 ⟨h.bg.grow hg,h.log.grow hg,h.sep.trans (Sep.bT hg),h.row.grow hg⟩
theorem Bb.step (h:Bb Z B w p r nm lb a m f T K L F C nv k F' wr) {q:List UInt8} (hq:L[k]?=some q) (hd:Dl Z B w' p r ((oW nm a f k).del (bD nm (a+k))) (T-wT (L.take k)-q.length) K vY) (hs:Sep F' wr w' vY):Bb Z B w p r nm lb a m f T K L F C nv (k+1) vY w':=by
 refine ⟨?_,h.log.dl h.bg hs,h.sep.trans hs,h.row.dl h.bg hs⟩;have:wT (L.take (k+1))=wT (L.take k)+q.length:=by
  unfold wT;rw [List.take_add_one,hq];simp
 rw [this,←Nat.sub_sub];exact hd
def axC (Z B:Nat) (w:World) (p r:Nat) (nm:List UInt8) (lb a m:Nat) (f:Lk) (T K:Nat) (L:List (List UInt8)) (F:Nat→Prop) (C b:Nat) (nv iv:Value) (wr:World):Prop:=
 ∃ (i:Nat) (F':Nat→Prop),iv= .int .i64 (i:Int)∧i≤L.length∧Bb Z B w p r nm lb a m f T K L F C nv (min i b) F' wr
theorem aga (iA:nm=cr) (hf:gK f a L) (h:Dl Z B w p r f T K F) (hl:dT w lb p nm (m:Int)) (hN:dn N B w) (hK:K<1000000000) (VV:a+L.length≤N) (h6:a+L.length≤1000000) (hmL:m+1=a+L.length) (hL:0<L.length) (hb:b<L.length):
  Calls Tryz.prog 53 #[.pointer (some ⟨lb,0,none⟩),.int .i64 ((a+b:Nat):Int)] w fun e w'=>e= .returned (.int .i64 0)∧KJ Z B w p r nm lb m F w' (oW nm a f b) (T-wT (L.take b)) K:=by
 have hm:AX nm:=iA ▸ Gr;have tH:∀ (i:Nat) (q:List UInt8),L[i]?=some q→f (bD nm (a+i))=some (q,q.length):=by subst iA;exact hf.there
 have KM:Calls Tryz.prog 99 #[.pointer (some ⟨lb,0,none⟩)] w fun e w'=>∃ v,e= .returned v∧nD w.heap.size w' v (List.range' a L.length)∧Grow w w':=by
  subst iA;exact afP hl h hN hK hf VV h6
 obtain ⟨bl,hbl⟩:∃ bl,bl=a+b:=⟨_,rfl⟩
 rw [←hbl];obtain ⟨l0,l1,l2,ll⟩:=hl.cells;have Gt:(bl:Int)≤(m:Int):=by omega
 have Wb:=ae KM;have PF:=ae tH;have H:=ae h;have HN:=ae hN;have Hl:=ae hl;have Bc:=ae hbl;clear KM h hl tH iA hN hf hbl;go_enter Tryz.func53,Tryz.ntmps53
 go_wp2_with fail
 (with_reducible refine Wb.out.mono ?_);rintro e w1 ⟨nv,rfl,ho,hg1⟩;rcases id ho with ⟨rfl,iy⟩|⟨gN,cap,cur,rfl,kR⟩
 ·exfalso
  have:=congrArg List.length iy;rw [bF,List.length_range',iK] at this;omega
 have fR:((List.range' a L.length).map fun n:Nat=>Value.int .i64 n).length=L.length:=by rw [bF,List.length_range']
 rw [fR];rw [fR] at ho;have T1:Hid (Bb Z B w p r nm lb a m f T K L F w.heap.size (.slice (some ⟨gN,0,none⟩) L.length cap) 0 F w1):=ae ⟨by have:=H.out.grow hg1;simpa [oW,wT] using this,Hl.out.grow hg1,Sep.bT hg1,ho⟩;clear ho kR hg1 fR l0 l1 l2 ll
 go_wp2_with fail
 go_loopw [16] (fun iv wr=>axC Z B w p r nm lb a m f T K L F w.heap.size b (.slice (some ⟨gN,0,none⟩) L.length cap) iv wr) (fun iv _=>L.length-(intOf iv).toNat)
 case atStart=>exact ⟨0,F,rfl,aY _,by rw [Nat.zero_min];exact T1.out⟩
 case round=>
  obtain ⟨i,F2,rfl,hi,h2⟩:=hrel;have bO:(0:Int)≤(i:Int):=by omega
  have cp:IntKind.i64.wrap ((i:Int)+1)=(i:Int)+1:=aS _ (by omega);by_cases hlt:i<L.length
  ·have eB:(i:Int)<(L.length:Int):=by omega
   obtain ⟨n,hn⟩:∃ n,n=a+i:=⟨_,rfl⟩
   have hc:wr.cell? ⟨gN,i,none⟩=some (.int .i64 (n:Int)):=Row1.cells h2.row rfl (by rw [hn,gZ,List.getElem?_range' hlt];simp);have lgN:=(Row1.lt h2.row rfl).2;have Hn:=ae hn;by_cases hib:i<b
   ·have axD:(n:Int)<(bl:Int):=by have:=Bc.out;omega
    rw [Nat.min_eq_left (by omega)] at h2;obtain ⟨k0,k1,k2,kl⟩:=h2.log.cells;have H2:=ae h2;clear h2 k2 hn
    go_wp2_with fail
    refine dz (fun W=>(W.cell? ⟨lb,0,none⟩=some (.pointer (some ⟨p,0,none⟩))∧W.cell? ⟨lb,1,none⟩=some (.string ⟨nm.toArray⟩))∧lb<W.heap.size) [9,0,0] (by kernel_rfl) (bK fun _ _ _ _ _ h=>h) (by obtain ⟨q0,q1,_,q3⟩:=(H2.out.grow (az wr)).log.cells;exact ⟨⟨q0,q1⟩,q3⟩) ?_;clear k0 k1 kl hc;simp only [cF]
    repeat ((first|(refine aA (v:= ?_) (by rfl) ?_ ?_;rotate_left;rintro W ⟨⟨hW0,hW1⟩,hW2⟩;go_simp;with_reducible rfl)|refine aB (by rfl) ?_);simp only [ai,List.set])
    have iY:=az wr;have yK:=HN.out.dl H.out H2.out.sep;refine bp (by rfl) (by go_simp) (yJ (yK.grow iY H2.out.bg.base) (n:=n) (by have:=Hn.out;omega) (by have:=Hn.out;omega) (name:=nm) (by have:=hm.len;omega)) ?_;rintro e w7 ⟨rfl,cG⟩;have qX:=iY.trans cG;refine ⟨_,rfl,(by obtain ⟨q0,q1,_,q3⟩:=(H2.out.grow qX).log.cells;exact ⟨⟨q0,q1⟩,q3⟩),?_⟩
    try simp only [ai,List.set,aC]
    have di:=qX.trans (ar w7 (.cells #[.string (bD nm n)] 9));have h8:=H2.out.grow di;refine fO (by rfl) (fun K hK=> ?_);go_simp;refine hK _ _ ⟨(by obtain ⟨q0,q1,_,q3⟩:=h8.log.cells;exact ⟨⟨q0,q1⟩,q3⟩),?_⟩;clear hK K
    try simp only [ai,List.set,aC]
    have PG:L[i]?=some L[i]:=dZ hlt;have Wh:=UF h8.bg (n:=bD nm n) (q:=(L[i],L[i].length)) (by rw [Hn.out,Gs _ _ _ _ (fun i' hi' e=>by have:=Dy e;omega)];exact PF.out i _ PG) (ax _ _);refine bp (by rfl) (by go_simp) Wh ?_;rintro e w9 ⟨rfl,F9,gJ,jN⟩;have h9:=h8.step PG (by rw [←Hn.out];exact gJ) jN;have H9:=ae h9;refine ⟨_,rfl,(by obtain ⟨q0,q1,_,q3⟩:=h9.log.cells;exact ⟨⟨q0,q1⟩,q3⟩),?_⟩;clear h9 gJ jN Wh h8 di qX cG iY yK PG
    try simp only [ai,List.set,aC]
    refine bj ?_;go_wp2;go_roundw
    case rel=>exact ⟨i+1,F9,by simp,hlt,by rw [Nat.min_eq_left (by omega)];exact H9.out⟩
    case measure=>simp [intOf];omega
   ·have axD:(bl:Int)≤(n:Int):=by have:=Bc.out;omega
    rw [Nat.min_eq_right (by omega)] at h2;have H2:=ae h2;clear h2 hn;go_wp2;go_roundw
    case rel=>exact ⟨i+1,F2,by simp,hlt,by rw [Nat.min_eq_right (by omega)];exact H2.out⟩
    case measure=>simp [intOf];omega
  ·have eB:(L.length:Int)≤(i:Int):=by omega
   rw [Nat.min_eq_right (by omega)] at h2;have H2:=ae h2;clear h2;go_wp2;go_ret;exact ⟨rfl,F2,H2.out.bg,H2.out.log,H2.out.sep⟩
theorem axE (hm:AX nm) (hd:Dl Z B w p r f T K F) (hl:dT w lb p nm (m:Int)) (hN:dn N B w) (nZ:B≤lb) {q:List UInt8} (hq:f (bD nm m)=some (q,q.length)) (jX:f (bD nm (m+1))=none) (KL:m+1<N) (h6:m+1<999999):
  Calls Tryz.prog 76 #[.pointer (some ⟨lb,0,none⟩)] w fun e w'=>e= .returned (.int .i64 0)∧∃ F',Dl Z B w' p r (f.set (bD nm (m+1)) ([],0)) T (K+1) F'∧dT w' lb p nm ((m+1:Nat):Int)∧Sep (FL F lb) w w' (FL F' lb):=by
 obtain ⟨m1,gC⟩:∃ m1,m1=m+1:=⟨_,rfl⟩
 rw [←gC] at jX KL h6 ⊢;obtain ⟨l0,l1,l2,ll⟩:=hl.cells;have hne:¬ (m:Int)=999999:=by omega
 have PK:((m:Int)==999999)=false:=by simp;omega
 have rF:=afU hm hN hd hl (by omega) (by omega) hq;rw [adx hq] at rF;have Hsy:=ae rF;have HN:=ae hN;have Hd:=ae hd;have zZ:=ae jX;clear rF hl hd hN hq jX;go_enter Tryz.func76,Tryz.ntmps76
 go_wp2_with fail
 (with_reducible refine Hsy.out.mono ?_);rintro e w1 ⟨rfl,F1,jR,KN,hs1⟩;obtain ⟨k0,k1,k2,kl⟩:=KN.cells;have ff:=bG KN.self;have cp:IntKind.i64.wrap ((m:Int)+1)=(m1:Int):=(aS _ (by omega)).trans (by omega);obtain ⟨w2,hw2⟩:∃ x,x=w1.setCell ⟨lb,2,none⟩ (.int .i64 (m1:Int)):=⟨_,rfl⟩
 have KG:dT w2 lb p nm (m1:Int):=by rw [hw2];exact KN.set _
 have cP:Dl Z B w2 p r f T K F1:=by rw [hw2];exact jR.AY KN _
 have hs2:Sep (FL F lb) w w2 (FL F1 lb):=by rw [hw2];exact (hs1.wide lb).trans (Sep.ve F1 w1 lb 2 _)
 have AV:dn N B w2:=by rw [hw2];exact (HN.out.dl Hd.out hs1).AY nZ _
 have qF:=ae hw2;have L2:=ae KG;have D2:=ae cP;have S2:=ae hs2;have N2:=ae AV;have Wi:=ae gC;clear hs1 jR KN KG cP hs2 AV hw2 gC l0 l1 l2 ll hne PK
 go_upto_region 5 with fail
 rw [←qF.out];clear ff qF k0 k1 k2 kl cp;refine dz (fun W=>W.cell? ⟨lb,0,none⟩=some (.pointer (some ⟨p,0,none⟩))∧W.cell? ⟨lb,1,none⟩=some (.string ⟨nm.toArray⟩)∧W.cell? ⟨lb,2,none⟩=some (.int .i64 (m1:Int))∧lb<W.heap.size) [12,0] (by kernel_rfl) (bK fun _ _ _ _ _ h=>h) (L2.out.grow (az w2)).cells ?_;simp only [cF]
 repeat ((first|(refine aA (v:= ?_) (by rfl) ?_ ?_;rotate_left;rintro W ⟨hW0,hW1,hW2,hW3⟩;go_simp;with_reducible rfl)|refine aB (by rfl) ?_);simp only [ai,List.set])
 have iY:=az w2;refine bp (by rfl) (by go_simp) (yJ (N2.out.grow iY D2.out.base) (n:=m1) (by have:=Wi.out;omega) (by have:=Wi.out;omega) (name:=nm) (by have:=hm.len;omega)) ?_;rintro e w7 ⟨rfl,cG⟩;have jB:=iY.trans cG;refine ⟨_,rfl,(L2.out.grow jB).cells,?_⟩
 try simp only [ai,List.set,aC]
 refine bp (by rfl) (by go_simp) (afR (D2.out.grow jB) (n:=bD nm m1) (VQ hm (by have:=Wi.out;omega)) (zZ.out)) ?_;rintro e w9 ⟨rfl,F9,gJ,jN⟩;have Wj:=(Sep.bT jB).trans jN;have pV:=L2.out.dl D2.out Wj;have bw:=ae (ag gJ (ag pV (S2.out.trans (Wj.wide lb))));refine ⟨_,rfl,pV.cells,?_⟩;clear gJ jN pV Wj jB cG iY
 try simp only [ai,List.set,aC]
 repeat ((first|(refine aA (v:= ?_) (by rfl) ?_ ?_;rotate_left;rintro W ⟨hW0,hW1,hW2,hW3⟩;go_simp;with_reducible rfl)|refine aB (by rfl) ?_);simp only [ai,List.set])
 refine bj ?_;go_wp2;go_ret;exact ⟨rfl,F9,bw.out⟩
end
end Go.Proofs.YtoolkdapflaeeaaGreatDoor
namespace Go.Proofs.YtoolkdapflaeeaaGreatDoor
open Go.RowKit Go.Gl Go.aF Mn
def agb (Z:Nat) (f:Lk) (T:Nat) (V:bI) (n:Nat) (q:List UInt8×Nat) (E:cH) (c:Int) (f':Lk) (T':Nat) (V':bI):Prop:=
 ((bz V E).1=0∧T+(bB aq (dA E)).length≤Z∧c=0∧f'=f.set (cX n) (q.1++bB aq (dA E),(q.1++bB aq (dA E)).length)∧T'=T+(bB aq (dA E)).length∧V'=(bz V E).2)∨
 ((bz V E).1=0∧Z<T+(bB aq (dA E)).length∧c=5∧f'=f∧T'=T∧V'=V)∨
 ((bz V E).1≠0∧c=(bz V E).1∧f'=f∧T'=T∧V'=V)
def axG (Z B:Nat) (w:World) (p r:Nat) (f:Lk) (T K:Nat) (F:Nat→Prop) (sb:Nat) (V:bI) (n:Nat) (q:List UInt8×Nat) (E:cH) (e:Ending) (w':World):Prop:=
 ∃ (c:Int) (f':Lk) (T':Nat) (V':bI) (cC:Value) (F':Nat→Prop),e= .returned (.int .i64 c)∧agb Z f T V n q E c f' T' V'∧
 eh w' sb p cC V' n∧Own 0 w' cC V'.tabs∧Dl Z B w' p r f' T' (K+1) F'∧Sep (FL F sb) w w' (FL F' sb)
theorem axH {N:Nat} {f:Lk} {V:bI} (hS:eh w sb p tv V n) (hown:Own B' w tv V.tabs) (hl:V.tabs.length≤5000) {E:cH} (hA:tB w av E.add) (hD:Ints w dv E.drop) (oM:E.add.length≤5000) (ic:E.drop.length≤10000) (hk:jz E.add≤60000000) (uG:(bz V E).1=0→Au E)
  (h:Dl Z B w p r f T K F) (hB:B≤sb) (hN:dn N B w) (hn:n<N) (h6:n<1000000) {q:List UInt8×Nat} (hq:f (cX n)=some q):
  Calls Tryz.prog 63 #[.pointer (some ⟨sb,0,none⟩),.agg (dN av dv E.seq E.next E.wal)] w (axG Z B w p r f T K F sb V n q E):=by
 have ah:Grow w (w.alloc (.cells (dN av dv E.seq E.next E.wal) 148)):=ar _ _;have hb:=ax w (.cells (dN av dv E.seq E.next E.wal) 148);have hS1:=hS.grow ah;have hown1:=eM hown ah;have Wk:=hA.grow ah;have iE:=hD.grow ah;have h1:=h.grow ah;have Dz:=hN.grow ah h.base;have hr1:=Rl.grow (r:=r) ah h.base;have Kj:=ae hr1;have CS:=ae ah;obtain ⟨aa,ac,rfl,rU⟩:=hA;obtain ⟨da,dc,rfl,AE,hdr⟩:=hD;obtain ⟨ta,tc,rfl⟩:=jL hown;have axI:=ae uG;have Hq:=ae hq;clear ah hS hown h hN hr1 rU hdr uG hq;obtain ⟨AP,Bd⟩:∃ x,x=bz V E:=⟨_,rfl⟩
 have agc:gu V [E]=AP:=by
  rw [Vh];by_cases h0:(bz V E).1=0
  ·rw [if_pos h0,Bd];exact Prod.ext h0.symm rfl
  ·rw [if_neg h0,Bd];exact Prod.ext rfl (avr V E h0).symm
 have Gu:=ae Bd;have axJ:=ae agc;clear Bd agc;go_enter Tryz.func63,Tryz.ntmps63
 go_upto_region 1 with fail
 generalize w.alloc (.cells (dN (.slice aa E.add.length ac) (.slice da E.drop.length dc) E.seq E.next E.wal) 148)=w1 at*;generalize w.heap.size=eb at*
 go_cut [5,6] from 7 to 16 (fun pv cv wx=>∃ (vb:Nat) (cC:Value),pv= .pointer (some ⟨vb,0,none⟩)∧cv= .int .i64 AP.1∧wx.heap[vb]?=some (.cells (bP cC AP.2.seq AP.2.next AP.2.wal) 85 (0,0))∧Own w1.heap.size wx cC AP.2.tabs∧Grow w1 wx)
 case first=>
  rename_i J K hJ hK
  refine uB (fun a0 ha0=> ?_);have F0:a0.tmps[0]?=some (.pointer (some ⟨sb,0,none⟩)):=by rw [ha0];rfl
  have F3:a0.tmps[3]?=some (.pointer (some ⟨eb,0,none⟩)):=by rw [ha0];rfl
  have hsz:a0.tmps.size=52:=by rw [ha0];rfl
  have uH:Hid (∀ a1 wx (vb:Nat) (cC:Value),rA [8,9,10,11,12,13,14,7,15,16,5,6] a0 a1→a1.tmps[5]?=some (.pointer (some ⟨vb,0,none⟩))→a1.tmps[6]?=some (.int .i64 AP.1)→wx.heap[vb]?=some (.cells (bP cC AP.2.seq AP.2.next AP.2.wal) 85 (0,0))→Own w1.heap.size wx cC AP.2.tabs→Grow w1 wx→K a1 wx):=ae (fun a1 wx vb cC ha h1 h2 h3 h4 h5=>by
   refine hK _ _ (hJ _ _ ?_);refine ⟨a1.tmps.getD 5 undef,a1.tmps.getD 6 undef,a1.tmps.getD 7 undef,a1.tmps.getD 8 undef,a1.tmps.getD 9 undef,a1.tmps.getD 10 undef,a1.tmps.getD 11 undef,a1.tmps.getD 12 undef,a1.tmps.getD 13 undef,a1.tmps.getD 14 undef,a1.tmps.getD 15 undef,a1.tmps.getD 16 undef,⟨vb,cC,by rw [eQ,h1];rfl,by rw [eQ,h2];rfl,h3,h4,h5⟩,ha.fill.trans ?_⟩;subst ha0;kernel_rfl)
  clear ha0 hK hJ;refine uD (Dx w1.heap.size sb (.slice ta V.tabs.length tc) (.slice aa E.add.length ac) (.slice da E.drop.length dc) V E AP) (nC w1 AP) lU [8,9,10,11,12,13,14,7,15,16,5,6] (by kernel_rfl) (by kernel_rfl) (by rw [hsz];rfl) Dx.keep ⟨az w1,fun h=>by cases h⟩ ?_ (fun a1 W1 hf=> ?_);rotate_left
  ·obtain ⟨vb,cC,h1,h2,h3,h4⟩:=hf.world.2 (by rfl)
   obtain ⟨v,hv,PM⟩:=hf.slot 12 6 (by rfl) (by rfl);exact uH.out a1 W1 vb cC hf.alike h1 (by rw [hv];exact congrArg some PM) h3 h4 hf.world.1
  clear uH;refine ⟨?_,?_,?_,?_,?_,?_,?_,?_,?_,?_,?_,?_,?_,True.intro⟩
  ·intro listed a W hf ak aj
   have hs1:=hf.sz hsz;have hT:=hf.world;have hG:Grow w1 W:=hT.1;have dP:=dI hf.closed (n:=8) (e:=11) (i:=0) (by kernel_rfl) ak;have G0:=hf.got (by decide) F0 (by rw [hs1];decide);refine aR rfl (by rfl) (fun K' hK'=> ?_);go_simp;exact hK' _ _ ⟨_,rfl,(fun _ _=>rfl),lU.refl _,nC.kU 0 (by decide) dP hG⟩
  ·intro listed a W hf ak aj
   have hs1:=hf.sz hsz;have hT:=hf.world;have hG:Grow w1 W:=hT.1;have dP:=dI hf.closed (n:=8) (e:=11) (i:=1) (by kernel_rfl) ak;have G8:=aO (hf.sv 0 8 rfl (aH aj 0 (by kernel_rfl)) fun _ _ h=>h) (by rw [hs1];decide);obtain ⟨_,_,_,_,_,_,ls⟩:=(hS1.grow hG).cells;refine aR rfl (by rfl) (fun K' hK'=> ?_);go_simp;exact hK' _ _ ⟨_,rfl,(fun _ _=>rfl),lU.refl _,nC.kU 1 (by decide) dP hG⟩
  ·intro listed a W hf ak aj
   have hs1:=hf.sz hsz;have hT:=hf.world;have hG:Grow w1 W:=hT.1;have dP:=dI hf.closed (n:=8) (e:=11) (i:=2) (by kernel_rfl) ak;have G9:=aO (hf.sv 1 9 rfl (aH aj 1 (by kernel_rfl)) fun _ _ h=>h) (by rw [hs1];decide);obtain ⟨_,_,_,_,_,_,ls⟩:=(hS1.grow hG).cells;refine aR rfl (by rfl) (fun K' hK'=> ?_);go_simp;exact hK' _ _ ⟨_,rfl,(fun _ _=>rfl),lU.refl _,nC.kU 2 (by decide) dP hG⟩
  ·intro listed a W hf ak aj
   have hs1:=hf.sz hsz;have hT:=hf.world;have hG:Grow w1 W:=hT.1;have dP:=dI hf.closed (n:=8) (e:=11) (i:=3) (by kernel_rfl) ak;have G10:=aO (hf.sv 2 10 rfl (aH aj 2 (by kernel_rfl)) fun _ _ h=>h) (by rw [hs1];decide);obtain ⟨_,c1,c2,c3,c4,_,ls⟩:=(hS1.grow hG).cells;refine aR rfl (by rfl) (fun K' hK'=> ?_);go_simp;exact hK' _ _ ⟨_,rfl,(fun _ _=>rfl),lU.refl _,nC.kU 3 (by decide) dP hG⟩
  ·intro listed a W hf ak aj
   have hs1:=hf.sz hsz;have hT:=hf.world;have hG:Grow w1 W:=hT.1;have dP:=dI hf.closed (n:=8) (e:=11) (i:=4) (by kernel_rfl) ak;have G3:=hf.got (by decide) F3 (by rw [hs1];decide);have hbW:=hG.heap hb;obtain ⟨e0,e1,e2,e3,e4⟩:=dw hbW;have lb:=af hbW;refine aR rfl (by rfl) (fun K' hK'=> ?_);go_simp;exact hK' _ _ ⟨_,rfl,(fun _ _=>rfl),lU.refl _,nC.kU 4 (by decide) dP hG⟩
  ·intro listed a W hf ak aj
   have hs1:=hf.sz hsz;have hT:=hf.world;have hG:Grow w1 W:=hT.1;have dP:=dI hf.closed (n:=8) (e:=11) (i:=5) (by kernel_rfl) ak;have G12:=aO (hf.sv 4 12 rfl (aH aj 4 (by kernel_rfl)) fun _ _ h=>h) (by rw [hs1];decide);have hrun:=aeC W aa E.add.length ac da E.drop.length dc E.seq E.next E.wal;refine aR rfl (by rfl) (fun K' hK'=> ?_);go_simp;exact hK' _ _ ⟨_,rfl,(fun _ _=>⟨W.heap.size,rfl,ax _ _⟩),lU.grow (ar _ _),nC.kU 5 (by decide) dP (hG.trans (ar _ _))⟩
  ·intro listed a W hf ak aj
   have hs1:=hf.sz hsz;have hT:=hf.world;have hG:Grow w1 W:=hT.1;have dP:=dI hf.closed (n:=8) (e:=11) (i:=6) (by kernel_rfl) ak;have G11:=aO (hf.sv 3 11 rfl (aH aj 3 (by kernel_rfl)) fun _ _ h=>h) (by rw [hs1];decide);obtain ⟨v5,s5,qq,q5,PN⟩:=hf.slot 5 13 rfl (aH aj 5 (by kernel_rfl));subst q5;have G13:=aO s5 (by rw [hs1];decide);have hap:=aec afu (eM hown1 hG) hl (aeD PN (Wk.grow hG) (iE.grow hG)) (by simp) (by intro e he;rw [cY.1 he];exact ⟨oM,ic⟩);rw [axJ.out] at hap;refine jE rfl (by rfl) (by go_simp) hap ?_;rintro e W2 ⟨cC,rfl,ho,hg2⟩;exact ⟨_,rfl,_,rfl,(fun _ _=>⟨cC,rfl,qK ho hG.size⟩),lU.grow hg2,nC.kU 6 (by decide) dP (hG.trans hg2)⟩
  ·intro listed a W hf ak aj
   have hs1:=hf.sz hsz;have hT:=hf.world;have hG:Grow w1 W:=hT.1;have dP:=dI hf.closed (n:=8) (e:=11) (i:=7) (by kernel_rfl) ak;obtain ⟨v6,s6,cC,q6,ho⟩:=hf.slot 6 14 rfl (aH aj 6 (by kernel_rfl));subst q6;have G14:=aO s6 (by rw [hs1];decide);refine aR rfl (by rfl) (fun K' hK'=> ?_);go_simp;exact hK' _ _ ⟨_,rfl,(fun _ _=>⟨cC,rfl,ho⟩),lU.refl _,nC.kU 7 (by decide) dP hG⟩
  ·intro listed a W hf ak aj
   have hs1:=hf.sz hsz;have hT:=hf.world;have hG:Grow w1 W:=hT.1;have dP:=dI hf.closed (n:=8) (e:=11) (i:=8) (by kernel_rfl) ak;obtain ⟨v7,s7,cC,q7,ho⟩:=hf.slot 7 7 rfl (aH aj 7 (by kernel_rfl));subst q7;have G7:=aO s7 (by rw [hs1];decide);refine aR rfl (by rfl) (fun K' hK'=> ?_);go_simp;exact hK' _ _ ⟨_,rfl,(fun _ _=>⟨cC,rfl,ho⟩),lU.refl _,nC.kU 8 (by decide) dP hG⟩
  ·intro listed a W hf ak aj
   have hs1:=hf.sz hsz;have hT:=hf.world;have hG:Grow w1 W:=hT.1;obtain ⟨v7,s7,cC,q7,ho⟩:=hf.slot 7 7 rfl (aH aj 7 (by kernel_rfl));subst q7;have G7:=aO s7 (by rw [hs1];decide);refine aR rfl (by rfl) (fun K' hK'=> ?_);go_simp;exact hK' _ _ ⟨_,rfl,(fun _ _=>rfl),lU.refl _,nC.next hT (by decide) (by decide)⟩
  ·intro listed a W hf ak aj
   have hs1:=hf.sz hsz;have hT:=hf.world;have hG:Grow w1 W:=hT.1;have dP:=dI hf.closed (n:=8) (e:=11) (i:=10) (by kernel_rfl) ak;refine aR rfl (by rfl) (fun K' hK'=> ?_);go_simp;exact hK' _ (W.alloc (.cells (bP (.slice none 0 0) 0 0 0) 85)) ⟨_,rfl,(fun _ _=>⟨W.heap.size,_,rfl,hG.size,ax _ _,rfl⟩),lU.grow (ar _ _),nC.kU 10 (by decide) dP (hG.trans (ar _ _))⟩
  ·intro listed a W hf ak aj
   have hs1:=hf.sz hsz;have hT:=hf.world;have hG:Grow w1 W:=hT.1;obtain ⟨v8,s8,cC,q8,ho⟩:=hf.slot 8 15 rfl (aH aj 8 (by kernel_rfl));obtain ⟨xa,xc,rfl⟩:=jL ho;subst q8;have G15:=aO s8 (by rw [hs1];decide);obtain ⟨v10,yE,vb,cs,yF,Pz,h10,z10⟩:=hf.slot 10 5 rfl (aH aj 10 (by kernel_rfl));subst yF;have G5:=aO yE (by rw [hs1];decide);obtain ⟨x0,x1,x2,x3,rfl⟩:=axd z10;obtain ⟨t0,t1,t2,t3⟩:=dy h10;have age:=af h10;have aJr:=bG h10;have cM:=Ap h10 (.slice xa AP.2.tabs.length xc) (.int .u64 AP.2.seq) (.int .i64 AP.2.next) (.int .i64 AP.2.wal);have jx:=fun (c:Nat) (hc:c≠vb)=>FZ (w:=W) hc (.slice xa AP.2.tabs.length xc) (.int .u64 AP.2.seq) (.int .i64 AP.2.next) (.int .i64 AP.2.wal)
   have hown':=CW ho h10 (.slice xa AP.2.tabs.length xc) (.int .u64 AP.2.seq) (.int .i64 AP.2.next) (.int .i64 AP.2.wal);have hgr:=wE hG Pz (.slice xa AP.2.tabs.length xc) (.int .u64 AP.2.seq) (.int .i64 AP.2.next) (.int .i64 AP.2.wal);refine aR rfl (by rfl) (fun K' hK'=> ?_);go_simp;refine hK' _ _ ⟨undef,rfl,(fun _ h=>by cases h),⟨fun b arr t fz hb' ht=> ?_,fun b cs hb' hs=> ?_⟩,⟨hgr,fun _=>⟨vb,_,yE,Pz,cM,hown'⟩⟩⟩
   ·rw [jx b (oP hb' h10 ht)];exact hb'
   ·by_cases e:b=vb
    ·subst e;exact ⟨_,cM,rfl⟩
    ·exact ⟨cs,(jx b e).trans hb',hs⟩
  ·intro listed a W hf ak aj
   have hs1:=hf.sz hsz;have hT:=hf.world;have hG:Grow w1 W:=hT.1;have G16:=aO (hf.sv 9 16 rfl (aH aj 9 (by kernel_rfl)) fun _ _ h=>h) (by rw [hs1];decide);refine aR rfl (by rfl) (fun K' hK'=> ?_);go_simp;exact hK' _ _ ⟨_,rfl,(fun _ _=>rfl),lU.refl _,nC.next hT (by decide) (by decide)⟩
 case rest=>
 obtain ⟨vb,cC,rfl,rfl,jG,tG,hg2⟩:=hcut;have hb2:=hg2.heap hb;have oO:=hS1.grow hg2;have h2:=h1.grow hg2;have AV:=Dz.grow hg2 h1.base;have hr2:=Kj.out.trans (Rl.grow (r:=r) hg2 h1.base);have jA:=ae oO;have H2:=ae h2;have yP:=ae AV;have qR:=ae hr2;have qO:=ae hb2;have OL:=ae jG;have Hov:=ae tG;have HA2:=ae (Wk.grow hg2);have Wl:=ae (qK (eM hown1 hg2) (aY _));have Be:=ae (CS.out.trans hg2);clear CS;have De:=ae (iE.grow hg2);clear hb2 oO h2 AV hr2 jG tG hg2 hb hS1 hown1 Wk iE h1 Dz Kj;by_cases h0:AP.1=0
 ·have e1:(AP.1 != 0)=false:=by simpa using h0
  have HE:=ae (axI.out (by rw [←Gu.out];exact h0));have H0:=ae h0;clear h0
  go_upto_region 4 with fail
  refine ou (S4 sb p eb n (.slice aa E.add.length ac) (.slice da E.drop.length dc) (.int .u64 E.seq) (.int .i64 E.next) (.int .i64 E.wal)) [(0,false),(1,false),(2,false),(3,false),(4,false),(5,false),(6,false),(7,false),(9,false),(8,true),(10,true),(11,true),(12,true),(13,true),(14,false)] (by kernel_rfl) (by kernel_rfl) (bK fun _ _ _ _ _ h=>h) (Gq (jA.out.grow (az _)) ((az _).heap qO.out)) ?_;simp only [cm,nth]
  repeat ((first|(refine aA (v:= ?_) (by rfl) ?_ ?_;rotate_left;rintro W ⟨⟨hW0,hW1,hW2⟩,hW3,pX,wU,tJ,yQ,yR⟩;go_simp;with_reducible rfl)|refine aB (by rfl) ?_);simp only [ai,List.set])
  have hgd:=az wc;refine bp (by rfl) (by go_simp) (JX (yP.out.grow hgd H2.out.base) hn h6) ?_;rintro e w3 ⟨rfl,hg3⟩;have lh:=hgd.trans hg3;refine ⟨_,rfl,Gq (jA.out.grow lh) (lh.heap qO.out),?_⟩
  try simp only [ai,List.set,aC]
  refine bp (by rfl) (by go_simp) (awg HE.out (HA2.out.grow lh) (De.out.grow lh) (by omega)) ?_;rintro e w4 ⟨v4,rfl,ki,hg4⟩;have im:=lh.trans hg4;refine ⟨_,rfl,Gq (jA.out.grow im) (im.heap qO.out),?_⟩
  try simp only [ai,List.set,aC]
  have wF:(dA E).length≤67108864:=by have:=aeg E;omega
  refine bp (by rfl) (by go_simp) (Cz (cI ki) wF) ?_;rintro e w5 ⟨v5,rfl,gI,br⟩;have PO:=im.trans br;refine ⟨_,rfl,Gq (jA.out.grow PO) (PO.heap qO.out),?_⟩
  try simp only [ai,List.set,aC]
  obtain ⟨X,hX⟩:∃ x,x=bB aq (dA E):=⟨_,rfl⟩
  rw [←hX] at gI;have ia:X.length≤1000000000000:=by have mG:=cB (dA E).length;rw [hX,my];omega
  have agi:=cI gI;obtain ⟨va,vc,rfl⟩:=gI.slice;have ah:=ar w5 (.cells #[.slice va X.length vc] 49);have wV:=PO.trans ah;refine sR (by rfl) (sQ (v:= .slice va X.length vc) rfl Tryz.underlying131 Tryz.ye rfl rfl rfl) (Gq (jA.out.grow wV) (wV.heap qO.out)) ?_
  try simp only [ai,List.set,aC]
  have oU:=H2.out.grow wV;refine bp (by rfl) (by go_simp) (VW oU (adn h6) (ax _ _) (agi.grow ah) ia) ?_;rintro e w7 ⟨c7,f7,T7,rfl,Gv,F7,uZ,oT⟩;have Gp:=(jA.out.grow wV).sep oU oT;have AW:=(qR.out.trans (Rl.grow (r:=r) wV H2.out.base)).trans (Rl.sep oU oT);have PQ:=((Rl.grow (r:=r) wV H2.out.base).trans (Rl.sep oU oT)).hold;have vg:=PQ.keep _ _ _ _ qO.out (by unfold CY;decide);have hv7:=PQ.keep _ _ _ _ OL.out (by unfold CY;decide);have jT:=OT Hov.out PQ;refine ⟨_,rfl,Gq Gp vg,?_⟩
  try simp only [ai,List.set,aC]
  repeat ((first|(refine aA (v:= ?_) (by rfl) ?_ ?_;rotate_left;rintro W ⟨⟨hW0,hW1,hW2⟩,hW3,pX,wU,tJ,yQ,yR⟩;go_simp;with_reducible rfl)|refine aB (by rfl) ?_);simp only [ai,List.set])
  refine bj ?_;have mM:f.add (cX n) X=f.set (cX n) (q.1++X,q.2):=by unfold Lk.add;rw [Hq.out]
  have DC:=ae ((Sep.bT (F:=F) (Be.out.trans wV)).trans oT);have DD:=ae (OT Wl.out (((Rl.grow (r:=r) wV H2.out.base).trans (Rl.sep oU oT)).hold));rw [mM] at Gv;have Gw:=ae Gp;have wW:=ae uZ;have Hr7:=ae AW;have Hv7:=ae hv7;have Ho7:=ae jT;have HX:=ae hX;have hN7:dn N B w7:=yP.out.keep (fun b hb=>((Rl.grow (r:=r) wV H2.out.base).trans (Rl.sep oU oT)).below.block b hb);have HN7:=ae hN7;clear hgd hg3 lh hg4 im br PO ah wV oU oT Gp AW PQ vg hv7 jT mM uZ ki gI agi hX hN7 wF ia jA H2 yP qR qO OL Hov HA2 De e1 Wl Be;rcases Gv with ⟨rfl,hroom,rfl,rfl⟩|⟨rfl,qH,rfl,rfl⟩
  rotate_left
  ·have Hfu:=ae qH
   clear qH;go_wp2;go_ret;refine ⟨5,f7,T7,V,.slice ta V.tabs.length tc,F7,rfl,.inr (.inl ⟨by rw [←Gu.out];exact H0.out,by rw [←HX.out];exact Hfu.out,rfl,rfl,rfl,rfl⟩),Gw.out,DD.out,wW.out,DC.out.wide sb⟩
  have KO:=ae hroom;clear hroom
  go_upto_region 7 with fail
  obtain ⟨c0,_,_,_,_,c5,ls⟩:=Gw.out.cells;refine dz (fun W=>W.cell? ⟨sb,0,none⟩=some (.pointer (some ⟨p,0,none⟩))∧W.cell? ⟨sb,5,none⟩=some (.int .i64 (n:Int))∧sb<W.heap.size) [8,0,0] (by kernel_rfl) (bK fun _ _ _ _ _ h=>h) ⟨by simpa using c0,by simpa using c5,by simpa using ls⟩ ?_;simp only [cF];clear c0 c5 ls
  repeat ((first|(refine aA (v:= ?_) (by rfl) ?_ ?_;rotate_left;rintro W ⟨hW0,hW1,hW2⟩;go_simp;with_reducible rfl)|refine aB (by rfl) ?_);simp only [ai,List.set])
  have hgd:=az w7;refine bp (by rfl) (by go_simp) (JX (HN7.out.grow hgd wW.out.base) hn h6) ?_;rintro e w8 ⟨rfl,di⟩;have Bf:=hgd.trans di;obtain ⟨c0,_,_,_,_,c5,ls⟩:=(Gw.out.grow Bf).cells;refine ⟨_,rfl,⟨c0,c5,ls⟩,?_⟩
  try simp only [ai,List.set,aC]
  have ah:=ar w8 (.cells #[.string (cX n)] 9);have wX:=Bf.trans ah;obtain ⟨Ou,_,_,_,_,c5',ls'⟩:=(Gw.out.grow wX).cells;refine sR (by rfl) (sQ (v:= .string (cX n)) rfl Tryz.underlying95 Tryz.Og rfl rfl rfl) ⟨Ou,c5',ls'⟩ ?_
  try simp only [ai,List.set,aC]
  have gJ:=wW.out.grow wX;refine bp (by rfl) (by go_simp) (Ka gJ (rI _ _ _) (ax _ _)) ?_;rintro e wa ⟨rfl,Fa,Gx,oX⟩;rw [Oz] at Gx;have wY:=(Gw.out.grow wX).sep gJ oX;have PR:=(Rl.grow (r:=r) wX wW.out.base).trans (Rl.sep gJ oX);have Bg:=PR.hold.keep _ _ _ _ Hv7.out (by unfold CY;decide);have Wm:=OT Ho7.out PR.hold;obtain ⟨g0,_,_,_,_,g5,lg⟩:=wY.cells;refine ⟨_,rfl,⟨g0,g5,lg⟩,?_⟩
  try simp only [ai,List.set,aC]
  refine bj ?_;obtain ⟨xa,xc,rfl⟩:=jL Wm;obtain ⟨y0,y1,y2,y3⟩:=dy Bg;have lva:=af Bg;have agr:wa.heap[sb]?=some (.cells (setCells p (.slice ta V.tabs.length tc) V n) 154 (0,0)):=wY;have fa:=bG agr;obtain ⟨_,z1,z2,z3,z4,_,lsa⟩:=wY.cells;obtain ⟨k1,k2,k3⟩:=axe wY Gx hB (.slice xa AP.2.tabs.length xc) AP.2;have Hsa:=ae (((((((DC.out.trans (Sep.bT wX)).trans oX).wide sb).trans (Sep.ve Fa _ sb 1 (.slice xa AP.2.tabs.length xc))).trans (Sep.ve Fa _ sb 2 (.int .u64 AP.2.seq))).trans (Sep.ve Fa _ sb 3 (.int .i64 AP.2.next))).trans (Sep.ve Fa _ sb 4 (.int .i64 AP.2.wal)));have bw:=ae (ag k1 (ag k2 (ag ((Hr7.out.trans PR).trans k3) (OT (qK Wm (aY _)) k3.hold))));clear hgd di Bf ah wX gJ Gx oX wY PR Bg Wm c0 c5 ls Ou c5' ls' g0 g5 lg agr k1 k2 k3 Gw wW Hr7 Hv7 Ho7 HN7;go_wp2;go_ret;refine ⟨0,_,_,_,.slice xa AP.2.tabs.length xc,Fa,rfl,.inl ⟨by rw [←Gu.out];exact H0.out,by rw [←HX.out];exact KO.out,rfl,rfl,rfl,rfl⟩,?_⟩;rw [←Gu.out,←HX.out];exact ⟨bw.out.1,bw.out.2.2.2,bw.out.2.1,Hsa.out⟩
 ·have e1:(AP.1 != 0)=true:=by simpa using h0
  have H0:=ae h0;clear h0;go_wp2;go_ret;exact ⟨AP.1,f,T,V,.slice ta V.tabs.length tc,F,rfl,.inr (.inr ⟨by rw [←Gu.out];exact H0.out,by rw [←Gu.out],rfl,rfl,rfl⟩),jA.out,Wl.out,H2.out.more (by omega),(Sep.bT Be.out).wide sb⟩
end Go.Proofs.YtoolkdapflaeeaaGreatDoor
namespace Go.Proofs.YtoolkdapflaeeaaGreatDoor
open Go.RowKit Go.Gl Mn
structure En where
 key:ByteArray
 seq:Nat
 gone:Bool
 val:List UInt8
instance:Inhabited En:=⟨⟨ByteArray.empty,0,false,[]⟩⟩
def dU (a b:En):Int:=df (ke a.key b.key) (jk b.seq a.seq)
def fM (a b:En):Prop:=a.key.data.toList<b.key.data.toList∨(a.key=b.key∧b.seq<a.seq)
def oY (a b:En):Prop:=a.key=b.key∧a.seq=b.seq
theorem Bh {a b:ByteArray} (h:a.data.toList=b.data.toList):a=b:=by
 apply ByteArray.ext;exact Array.toList_inj.1 h
theorem yS (a b:En):dU a b<0↔fM a b:=by
 unfold dU df fM;by_cases h:ke a.key b.key=0
 ·rw [if_pos h,UM]
  have e:=(FW _ _).1 h;rw [jd,jd] at e;have e':=Bh e;constructor
  ·intro h2;exact .inr ⟨e',by omega⟩
  ·rintro (h2|⟨_,h2⟩)
   ·rw [e] at h2;exact absurd h2 (List.lt_irrefl _)
   ·omega
 ·rw [if_neg h,OA,jd,jd]
  constructor
  ·intro h2;exact .inl h2
  ·rintro (h2|⟨h2,_⟩)
   ·exact h2
   ·exact absurd ((FW _ _).2 (by rw [h2])) h
theorem Bi (a b:En):dU a b=0↔oY a b:=by
 unfold dU df oY;by_cases h:ke a.key b.key=0
 ·rw [if_pos h,UN]
  have e:=(FW _ _).1 h;rw [jd,jd] at e;have e':=Bh e;constructor
  ·intro h2;exact ⟨e',by omega⟩
  ·intro h2;omega
 ·rw [if_neg h]
  constructor
  ·intro h2;exact absurd h2 h
  ·intro h2;exact absurd ((FW _ _).2 (by rw [h2.1])) h
theorem Gy {a b c:En} (h:fM a b) (k:fM b c):fM a c:=by
 rcases h with h|⟨h,h'⟩
 ·rcases k with k|⟨k,_⟩
  ·exact .inl (List.lt_trans h k)
  ·exact .inl (k ▸ h)
 ·rcases k with k|⟨k,k'⟩
  ·exact .inl (h ▸ k)
  ·exact .inr ⟨h.trans k,by omega⟩
theorem yT (a:En):¬ fM a a:=by
 rintro (h|⟨_,h⟩)
 ·exact List.lt_irrefl _ h
 ·omega
theorem Wn {a b:En} (h1:¬ fM a b) (h2:¬ fM b a):oY a b:=by
 have k1:¬ a.key.data.toList<b.key.data.toList:=fun h=>h1 (.inl h)
 have k2:¬ b.key.data.toList<a.key.data.toList:=fun h=>h2 (.inl h)
 have e:=Bh (List.le_antisymm (List.not_lt.1 k2) (List.not_lt.1 k1));refine ⟨e,?_⟩;have a1:¬ b.seq<a.seq:=fun h=>h1 (.inr ⟨e,h⟩)
 have a2:¬ a.seq<b.seq:=fun h=>h2 (.inr ⟨e.symm,h⟩)
 omega
theorem wZ {a b c:En} (h:oY a b):fM a c↔fM b c:=by
 unfold fM;rw [h.1,h.2]
theorem ags {a b c:En} (h:oY a b):fM c a↔fM c b:=by
 unfold fM;rw [h.1,h.2]
def cn (l:List En):Prop:=l.Pairwise fM
theorem cn.nil:cn []:=List.Pairwise.nil
theorem tK {a:En} {l:List En}:cn (a::l)↔(∀ b∈l,fM a b)∧cn l:=List.pairwise_cons
def gD (x:En) (l:List En):List En:=l.takeWhile (fun e=>decide (dU e x<0))
def ej (x:En) (l:List En):List En:=l.dropWhile (fun e=>decide (dU e x<0))
theorem tL (x:En) (l:List En):gD x l++ej x l=l:=List.takeWhile_append_dropWhile ..
theorem KP {x:En} {l:List En}:∀ e∈gD x l,fM e x:=fun e he=>by
 have:=List.all_takeWhile (p:=fun e=>decide (dU e x<0)) (l:=l);have h2:=List.all_eq_true.1 this e he;rw [decide_eq_true_eq,yS] at h2;exact h2
theorem DF {x:En}:∀ {l:List En},cn l→∀ e∈ej x l,¬ fM e x
 | [],_,e,he=>by cases he
 |a::l,h,e,he=>by
  unfold ej at he;rw [List.dropWhile_cons] at he;have h':=tK.1 h;by_cases hc:dU a x<0
  ·rw [if_pos (by simpa using hc)] at he
   exact DF h'.2 e he
  ·rw [if_neg (by simpa using hc)] at he
   rw [yS] at hc;rcases bE.1 he with rfl|he
   ·exact hc
   ·exact fun h3=>hc (Gy (h'.1 e he) h3)
theorem PS {x:En} {l:List En} (h:cn l):cn (gD x l)∧cn (ej x l)∧∀ a∈gD x l,∀ b∈ej x l,fM a b:=by
 have h2:cn (gD x l++ej x l):=by rw [tL];exact h
 exact List.pairwise_append.1 h2
def kn (x:En) (l:List En):List En:=
 gD x l++x::(match ej x l with| []=> []|e::r=>if dU e x=0 then r else e::r)
theorem Wo {x e:En} {l:List En} (h:cn l):e∈kn x l↔e=x∨(e∈l∧¬ oY e x):=by
 unfold kn;have DG:=tL x l;have kO:=KP (x:=x) (l:=l);have yU:=DF (x:=x) h;have mG:∀ e∈gD x l,¬ oY e x:=fun e he hs=>by
  have:=kO e he;rw [wZ hs] at this;exact yT _ this
 have ho:cn (ej x l):=(PS h).2.1;have nG:e∈l↔e∈gD x l∨e∈ej x l:=by have h9:=cU (a:=e) (s:=gD x l) (t:=ej x l);rwa [DG] at h9
 rw [cU,bE,nG];generalize ej x l=hi at*;cases hi with
 |nil=>
  constructor
  ·rintro (h|h|h)
   ·exact .inr ⟨.inl h,mG e h⟩
   ·exact .inl h
   ·cases h
  ·rintro (h|⟨h|h,_⟩)
   ·exact .inr (.inl h)
   ·exact .inl h
   ·cases h
 |cons a r=>
  have eA:=tK.1 ho;simp only;by_cases hc:dU a x=0
  ·rw [if_pos hc]
   rw [Bi] at hc;have hr:∀ e∈r,¬ oY e x:=fun e he hs=>by
    have:=eA.1 e he;rw [wZ hc,←wZ hs] at this;exact yT _ this
   constructor
   ·rintro (h|h|h)
    ·exact .inr ⟨.inl h,mG e h⟩
    ·exact .inl h
    ·exact .inr ⟨.inr (fk _ h),hr e h⟩
   ·rintro (h|⟨h|h,hs⟩)
    ·exact .inr (.inl h)
    ·exact .inl h
    ·rcases bE.1 h with rfl|h
     ·exact absurd hc hs
     ·exact .inr (.inr h)
  ·rw [if_neg hc]
   rw [Bi] at hc;have PT:fM x a:=by
    by_cases h1:fM x a
    ·exact h1
    ·exact absurd (Wn (yU a (dR ..)) h1) hc
   have hr:∀ e∈a::r,¬ oY e x:=fun e he hs=>by
    rcases bE.1 he with rfl|he
    ·exact hc hs
    ·have:=Gy PT (eA.1 e he)
     rw [←wZ hs] at this;exact yT _ this
   constructor
   ·rintro (h|h|h)
    ·exact .inr ⟨.inl h,mG e h⟩
    ·exact .inl h
    ·exact .inr ⟨.inr h,hr e h⟩
   ·rintro (h|⟨h|h,_⟩)
    ·exact .inr (.inl h)
    ·exact .inl h
    ·exact .inr (.inr h)
theorem Wp {x:En} {l:List En} (h:cn l):cn (kn x l):=by
 unfold kn;have DG:=tL x l;have kO:=KP (x:=x) (l:=l);have yU:=DF (x:=x) h;obtain ⟨hl,ho,hx⟩:=PS (x:=x) h;generalize ej x l=hi at*;have vh:∀ r:List En,cn r→(∀ b∈r,fM x b)→cn (gD x l++x::r):=fun r hr hb=>by
  refine List.pairwise_append.2 ⟨hl,tK.2 ⟨hb,hr⟩,fun a ha b hb'=> ?_⟩;rcases bE.1 hb' with rfl|hb'
  ·exact kO a ha
  ·exact Gy (kO a ha) (hb b hb')
 cases hi with
 |nil=>exact vh [] .nil (fun _ h=>by cases h)
 |cons a r=>
  have eA:=tK.1 ho;simp only;by_cases hc:dU a x=0
  ·rw [if_pos hc]
   rw [Bi] at hc;exact vh r eA.2 (fun b hb=>(wZ hc).1 (eA.1 b hb))
  ·rw [if_neg hc]
   rw [Bi] at hc;have PT:fM x a:=by
    by_cases h1:fM x a
    ·exact h1
    ·exact absurd (Wn (yU a (dR ..)) h1) hc
   refine vh (a::r) ho (fun b hb=> ?_);rcases bE.1 hb with rfl|hb
   ·exact PT
   ·exact Gy PT (eA.1 b hb)
end Go.Proofs.YtoolkdapflaeeaaGreatDoor
namespace Go.Proofs.YtoolkdapflaeeaaGreatDoor
open Go.RowKit Go.Gl Go.aF Mn
def oZ (e:En):List UInt8:=aW e.key.data.toList++(aD e.seq++((if e.gone then 1 else 0)::aW e.val))
def bh (l:List En):List UInt8:=l.flatMap oZ
theorem sf (a b:List En):bh (a++b)=bh a++bh b:=by simp [bh]
theorem axO (e:En):bh [e]=oZ e:=by simp [bh]
theorem agt (e:En):0<(oZ e).length:=by simp [oZ];omega
theorem axP {l:List En} (h:bh l= []):l= []:=by
 cases l with
 |nil=>rfl
 |cons e l=>
  have h1:=congrArg List.length h;have h2:=agt e;rw [bh,List.flatMap_cons,aJ,iK] at h1;omega
def eN (size:Nat):List En→List En→List (List En)
 |_,[]=> []
 |cur,e::r=>if size≤(bh (cur++ [e])).length∨r= [] then (cur++ [e])::eN size [] r else eN size (cur++ [e]) r
theorem KQ (size:Nat):∀ (l cur:List En),l≠ []→(eN size cur l).flatten=cur++l
 | [],_,h=>absurd rfl h
 |e::r,cur,_=>by
  unfold eN;by_cases hr:r= []
  ·subst hr
   rw [if_pos (.inr rfl)];simp [eN]
  ·split
   ·rw [List.flatten_cons,KQ size r [] hr];simp
   ·rw [KQ size r _ hr];simp
theorem KR (size:Nat):∀ (l cur:List En),∀ g∈eN size cur l,g≠ []
 | [],_,g,h=>by simp [eN] at h
 |e::r,cur,g,h=>by
  unfold eN at h
  split at h
  ·rcases bE.1 h with rfl|h
   ·simp
   ·exact KR size r [] g h
  ·exact KR size r _ g h
def lu (g:List En):ByteArray:=match g with| []=>ByteArray.empty|e::_=>e.key
abbrev gy (g:List En):List UInt8:=bB aq (bh g)
def bV (gs:List (List En)):List UInt8:=gs.flatMap gy
def jI:Nat→List (List En)→List UInt8
 |_,[]=> []
 |at',g::gs=>aW (lu g).data.toList++(aD at'++(aD (gy g).length++jI (at'+(gy g).length) gs))
theorem KS (a b:List (List En)):bV (a++b)=bV a++bV b:=by simp [bV]
def jo (at' th n:Nat):List UInt8:=cD 8 at'++(cD 8 th++cD 8 n)
theorem PU (a b c:Nat):(jo a b c).length=24:=by simp [jo,mq]
def ek (gs:List (List En)):List UInt8:=bV gs++bB aq (jI 0 gs)
def gS (gs:List (List En)) (n:Nat) (fl:List UInt8):List UInt8:=
 ek gs++(bB aq fl++(jo (bV gs).length (ek gs).length n++cD 4 (eF aq (jo (bV gs).length (ek gs).length n))))
def numOf (l:List UInt8):Nat:=l.foldr (fun b v=>v*256+b.toNat) 0
theorem PV:∀ (k v:Nat),v<256^k→numOf (cD k v)=v
 |0,v,h=>by simp at h;subst h;rfl
 |k+1,v,h=>by
  have h2:v / 256<256^k:=by
   rw [Nat.pow_succ] at h;exact Nat.div_lt_of_lt_mul (by rw [Nat.mul_comm];exact h)
  have ih:=PV k (v / 256) h2;unfold numOf at ih ⊢;rw [cD,List.foldr_cons,ih,UInt8.toNat_ofNat_of_lt' (by simp [UInt8.size];omega)];omega
theorem agu:∀ (l:List UInt8),numOf l<256^l.length
 | []=>by simp [numOf]
 |b::l=>by
  have ih:=agu l;unfold numOf at ih ⊢;rw [List.foldr_cons,dH,Nat.pow_succ];have:=b.toNat_lt;omega
end Go.Proofs.YtoolkdapflaeeaaGreatDoor
