/- Helpers. -/
import Derived.Test.YtoolkdapflaeeaaGreatDoorW0N
import Derived.LaidEql
import Derived.Stop.Asserts
import Derived.Lib.IfaceEq
import Derived.RowKitTokens
import Derived.Test.YtoolkdapflaeeaaGreatDoorW0A
set_option maxRecDepth 100000
set_option maxHeartbeats 16000000
namespace Go.Proofs.YtoolkdapflaeeaaGreatDoor
open Go.RowKit Go.Gl Go.aH Mn
theorem aAa (o:Od) (da:Option Addr) (dl dc:Nat) (w:World):Calls Tryz.prog 12 #[sN o (.slice da dl dc)] w fun e w'=>e= .returned (.bool (decide (pY o∧dl≤1000)))∧Grow w w':=by
 have ai:=Grow.alloc w (.cells #[.int .i64 o.mem,.int .i64 o.block,.int .i64 o.zero,.int .i64 o.base,.int .i64 o.table,.slice da dl dc] 26);have dw:=aw w (.cells #[.int .i64 o.mem,.int .i64 o.block,.int .i64 o.zero,.int .i64 o.base,.int .i64 o.table,.slice da dl dc] 26);have gH:=fun W=>aiJ o (.slice da dl dc) W
 have bT:=ae ai;have gS:=ae dw;clear ai dw;by_cases h:pY o
 ·rw [if_pos h] at gH
  have Hc:=ae gH;have hbl:decide (pY o∧dl≤1000)=decide ((dl:Int)≤1000):=by
   by_cases hd:dl≤1000
   ·have fR:(dl:Int)≤1000:=by omega
    simp [h,hd,fR]
   ·have fR:¬ (dl:Int)≤1000:=by omega
    simp [hd,fR]
  rw [hbl];clear h hbl gH;go_enter Tryz.func12,Tryz.ntmps12
  go_wp2_with fail
  (with_reducible refine (Hc.out _).mono ?_);rintro e w1 ⟨rfl,hg⟩;have hb:=hg.heap gS.out;have c5:w1.cell? ⟨w.heap.size,5,none⟩=some (.slice da dl dc):=by simp [World.cell?,hb]
  have lt:=af hb;have Hg:=ae (bT.out.trans hg);clear hg hb gS bT Hc;go_wp2;go_ret;exact ⟨rfl,Hg.out⟩
 ·rw [if_neg h] at gH
  have Hc:=ae gH;have hbl:decide (pY o∧dl≤1000)=false:=by simp [h]
  rw [hbl];clear h hbl gH;go_enter Tryz.func12,Tryz.ntmps12
  go_wp2_with fail
  (with_reducible refine (Hc.out _).mono ?_);rintro e w1 ⟨rfl,hg⟩;have Hg:=ae (bT.out.trans hg);clear hg gS bT Hc;go_wp2;go_ret;exact ⟨rfl,Hg.out⟩
end Go.Proofs.YtoolkdapflaeeaaGreatDoor
namespace Go.Proofs.YtoolkdapflaeeaaGreatDoor
open Go.RowKit Go.Gl Go.aH Mn
structure Tr where
 db:Nat
 sb:Nat
 p:Nat
 r:Nat
 lb:Nat
 mb:Nat
 tm:Nat
 hm:Nat
 ha:Nat
 o:Od
 drv:Value
 ds:List Int
 tv:Value
 dv:Value
 V:bu
 seq:Nat
 m:Nat
 N:Nat→Prop
 F:Nat→Prop
 ns:List Nd
 g:Int→Option Value
 gm:Nat
 ld:Int→Option (Nat×List En)
 hh:Int→Option Value
 hn:Nat
def FT (t:Tr):Nat→Prop:=fun b=>t.F b∨FM t.mb t.ha t.ns b∨b=t.db∨b=t.sb∨b=t.lb∨b=t.tm∨b=t.hm
structure cz (Z B Nn:Nat) (w:World) (t:Tr) (f:Lk) (T K:Nat):Prop where
 cell:dT w t.db t.sb t.o t.drv (.pointer (some ⟨t.lb,0,none⟩)) t.mb t.tm t.seq t.hm
 set:dy w t.sb t.p t.tv t.V ((0:Nat):Int)
 own:Mn.Own 0 w t.tv t.V.tabs
 log:di w t.lb t.p bU (t.m:Int)
 mem:∃ aM,cX t.N w t.mb t.ha t.ns aM t.dv t.ds
 tabs:fA w t.tm encI t.g t.gm
 load:∀ k b l,t.ld k=some (b,l)→t.g k=some (.pointer (some ⟨b,0,none⟩))∧pX t.N w b l
 held:fA w t.hm KT t.hh t.hn
 draws:Iw t.N w t.drv t.ds
 aW:Dl Z B w t.p t.r f T K t.F
 gV:cI Nn B w
 apart:∀ b,t.N b→b<w.heap.size∧¬ FT t b
 base:∀ b,FT t b→B≤b
 sO:¬ t.F t.tm
 ur:¬ t.F t.hm
 yf:t.tm≠t.hm
def Qg (ty:TypeId):Prop:=ty=125∨ty=165∨ty=5∨ty=181∨ty=176∨ty=287∨ty=93∨ty=154∨ty=167
instance (ty:TypeId):Decidable (Qg ty):=by unfold Qg;infer_instance
theorem fA.map {w:World} {r:Nat} {enc:Int→Value} {g:Int→Option Value} {m:Nat} (h:fA w r enc g m) {arr:Array Value} {ty:TypeId} {fz:Nat×Nat}:w.heap[r]?≠some (.cells arr ty fz):=h.WL arr ty fz
theorem cX.kind {N:Nat→Prop} {w:World} {tb ha:Nat} {ns:List Nd} {aM:Nat} {dv:Value} {ds:List Int} (h:cX N w tb ha ns aM dv ds) {b:Nat} (hb:FM tb ha ns b):∃ arr ty,w.heap[b]?=some (.cells arr ty (0,0))∧(ty=181∨ty=176∨ty=287):=by
 rcases hb with rfl|rfl|⟨n,hn,rfl|rfl⟩
 ·exact ⟨_,_,h.self,.inl rfl⟩
 ·exact ⟨_,_,h.skip.gZ.1,.inr (.inr rfl)⟩
 ·exact ⟨_,_,h.skip.node n hn,.inr (.inl rfl)⟩
 ·obtain ⟨pre,r,e⟩:=List.append_of_mem hn
  exact ⟨_,_,h.skip.gZ.2.at e,.inr (.inr rfl)⟩
variable {Z B Nn:Nat} {w w':World} {t:Tr} {f f':Lk} {T K T' K':Nat}
theorem cz.kind (h:cz Z B Nn w t f T K) {b:Nat} (hb:FT t b) {arr:Array Value} {ty:TypeId} {fz:Nat×Nat} (hc:w.heap[b]?=some (.cells arr ty fz)):Qg ty:=by
 have hC:w.heap[t.db]?=some (.cells (oO t.sb t.o t.drv (.pointer (some ⟨t.lb,0,none⟩)) t.mb t.tm t.seq t.hm) 93 (0,0)):=h.cell;have hS:w.heap[t.sb]?=some (.cells (setCells t.p t.tv t.V ((0:Nat):Int)) 154 (0,0)):=h.set;have inj:∀ {a1 a2:Array Value} {t1 t2:TypeId} {f1 f2:Nat×Nat},w.heap[b]?=some (.cells a1 t1 f1)→w.heap[b]?=some (.cells a2 t2 f2)→t1=t2:=fun h1 h2=>(cA (bB (h1.symm.trans h2))).2.1
 rcases hb with hb|hb|rfl|rfl|rfl|rfl|rfl
 ·by_cases h1:ty=125
  ·exact .inl h1
  ·by_cases h2:ty=165
   ·exact .inr (.inl h2)
   ·by_cases h3:ty=5
    ·exact .inr (.inr (.inl h3))
    ·exact absurd hb (h.aW.apart hc h1 h2 h3)
 ·obtain ⟨aM,hm⟩:=h.mem
  obtain ⟨acm,ty',h1,h2⟩:=hm.kind hb;rw [inj hc h1];rcases h2 with rfl|rfl|rfl<;>decide
 ·rw [inj hc hC];decide
 ·rw [inj hc hS];decide
 ·rw [inj hc h.log.self];decide
 ·exact absurd hc h.tabs.map
 ·exact absurd hc h.held.map
theorem cz.off (h:cz Z B Nn w t f T K) {b:Nat} {arr:Array Value} {ty:TypeId} {fz:Nat×Nat} (hc:w.heap[b]?=some (.cells arr ty fz)) (ht:¬ Qg ty):¬ FT t b:=fun hb=>ht (h.kind hb hc)
structure NeT (t:Tr):Prop where
 vQ:¬ t.F t.db
 Xa:¬ t.F t.sb
 flb:¬ t.F t.lb
 fm:∀ b,FM t.mb t.ha t.ns b→¬ t.F b∧b≠t.db∧b≠t.sb∧b≠t.lb∧b≠t.tm∧b≠t.hm
 Xb:t.db≠t.sb
 Xc:t.db≠t.lb
 aiK:t.sb≠t.lb
 Xd:t.db≠t.tm
 aiL:t.db≠t.hm
 Xe:t.sb≠t.tm
 aiM:t.sb≠t.hm
 Xf:t.lb≠t.tm
 aiN:t.lb≠t.hm
theorem cz.ne (h:cz Z B Nn w t f T K):NeT t:=by
 have hC:w.heap[t.db]?=some (.cells (oO t.sb t.o t.drv (.pointer (some ⟨t.lb,0,none⟩)) t.mb t.tm t.seq t.hm) 93 (0,0)):=h.cell;have hS:w.heap[t.sb]?=some (.cells (setCells t.p t.tv t.V ((0:Nat):Int)) 154 (0,0)):=h.set;have hL:=h.log.self;have ne:∀ {a b:Nat} {a1 a2:Array Value} {t1 t2:TypeId} {f1 f2:Nat×Nat},w.heap[a]?=some (.cells a1 t1 f1)→w.heap[b]?=some (.cells a2 t2 f2)→t1≠t2→a≠b:=fun h1 h2 hn e=>by
  subst e;exact hn (cA (bB (h1.symm.trans h2))).2.1
 have nt:∀ {a:Nat} {a1:Array Value} {t1:TypeId} {f1:Nat×Nat},w.heap[a]?=some (.cells a1 t1 f1)→a≠t.tm:=fun h1 e=>by subst e;exact h.tabs.map h1
 have nh:∀ {a:Nat} {a1:Array Value} {t1:TypeId} {f1:Nat×Nat},w.heap[a]?=some (.cells a1 t1 f1)→a≠t.hm:=fun h1 e=>by subst e;exact h.held.map h1
 refine ⟨h.aW.apart hC (by decide) (by decide) (by decide),h.aW.apart hS (by decide) (by decide) (by decide),h.aW.apart hL (by decide) (by decide) (by decide),fun b hb=> ?_,ne hC hS (by decide),ne hC hL (by decide),ne hS hL (by decide),nt hC,nh hC,nt hS,nh hS,nt hL,nh hL⟩;obtain ⟨aM,hm⟩:=h.mem;obtain ⟨arr,ty,h1,h2⟩:=hm.kind hb;rcases h2 with rfl|rfl|rfl
 ·exact ⟨h.aW.apart h1 (by decide) (by decide) (by decide),ne h1 hC (by decide),ne h1 hS (by decide),ne h1 hL (by decide),nt h1,nh h1⟩
 ·exact ⟨h.aW.apart h1 (by decide) (by decide) (by decide),ne h1 hC (by decide),ne h1 hS (by decide),ne h1 hL (by decide),nt h1,nh h1⟩
 ·exact ⟨h.aW.apart h1 (by decide) (by decide) (by decide),ne h1 hC (by decide),ne h1 hS (by decide),ne h1 hL (by decide),nt h1,nh h1⟩
theorem cz.lt (h:cz Z B Nn w t f T K) {b:Nat} (hb:FT t b):b<w.heap.size:=by
 rcases hb with hb|hb|rfl|rfl|rfl|rfl|rfl
 ·exact (h.aW.foot hb).2
 ·obtain ⟨aM,hm⟩:=h.mem;exact hm.lt hb
 ·exact h.cell.cells.2.2.2.2.2.2.2
 ·exact h.set.cells.2.2.2.2.2.2
 ·exact h.log.cells.2.2.2
 ·exact h.tabs.lt
 ·exact h.held.lt
structure eC (w:World) (t:Tr) (w':World) (t':Tr):Prop where
 sep:Sep (FT t) w w' (FT t')
 new:∀ b,t'.N b→t.N b∨w.heap.size≤b
 db:t'.db=t.db
 sb:t'.sb=t.sb
 p:t'.p=t.p
 r:t'.r=t.r
 hm:t'.hm=t.hm
 tm:t'.tm=t.tm
 lb:t'.lb=t.lb
 o:t'.o=t.o
 drv:t'.drv=t.drv
 ds:t'.ds=t.ds
theorem eC.refl (w:World) (t:Tr):eC w t w t:=⟨Sep.refl _ _,fun _ h=> .inl h,rfl,rfl,rfl,rfl,rfl,rfl,rfl,rfl,rfl,rfl⟩
theorem eC.trans {w1 w2 w3:World} {t1 t2 t3:Tr} (h:eC w1 t1 w2 t2) (k:eC w2 t2 w3 t3):eC w1 t1 w3 t3:=
 ⟨h.sep.trans k.sep,fun b hb=>(k.new b hb).elim (h.new b) (fun h2=> .inr (aN h.sep.size h2)),k.db.trans h.db,k.sb.trans h.sb,k.p.trans h.p,k.r.trans h.r,k.hm.trans h.hm,k.tm.trans h.tm,k.lb.trans h.lb,k.o.trans h.o,k.drv.trans h.drv,k.ds.trans h.ds⟩
theorem eC.grow {w1 w2 w3:World} {t1 t2:Tr} (h:eC w1 t1 w2 t2) (hg:Grow w2 w3):eC w1 t1 w3 t2:=
 ⟨h.sep.trans (Sep.bF hg),h.new,h.db,h.sb,h.p,h.r,h.hm,h.tm,h.lb,h.o,h.drv,h.ds⟩
theorem eC.bF (t:Tr) (hg:Grow w w'):eC w t w' t:=(eC.refl w t).grow hg
theorem dy.same {sb p:Nat} {tv:Value} {V:bu} {n:Int} (h:dy w sb p tv V n) (hk:w'.heap[sb]?=w.heap[sb]?):dy w' sb p tv V n:=hk.trans h
theorem di.same {lb p:Nat} {nm:List UInt8} {last:Int} (h:di w lb p nm last) (hk:w'.heap[lb]?=w.heap[lb]?):di w' lb p nm last:=⟨hk.trans h.self⟩
theorem AB {A:Nat} {v:Value} {l:List Tb} (h:Mn.Own A w v l) (hk:∀ (b:Nat) (cur:Array Value),w.heap[b]?=some (.cells cur 101 (0,0))→w'.heap[b]?=w.heap[b]?):Mn.Own A w' v l:=by
 refine uW h fun g hg=> ?_
 obtain ⟨cur,hc,_⟩:=qC h hg;exact hk g cur hc
theorem cz.grow (h:cz Z B Nn w t f T K) (hg:Grow w w'):cz Z B Nn w' t f T K:=by
 obtain ⟨aM,hm⟩:=h.mem;exact ⟨h.cell.grow hg,h.set.grow hg,ek h.own hg,h.log.grow hg,⟨aM,hm.grow hg⟩,h.tabs.grow hg,fun k b l hk=>⟨(h.load k b l hk).1,(h.load k b l hk).2.kp (.bF hg)⟩,h.held.grow hg,h.draws.kp (.bF hg),h.aW.grow hg,h.gV.grow hg h.aW.base,fun b hb=>⟨cj (h.apart b hb).1 hg.size,(h.apart b hb).2⟩,h.base,h.sO,h.ur,h.yf⟩
theorem cz.vW (h:cz Z B Nn w t f T K) {G:Nat→Prop} (hG:∀ b,G b→FT t b) {G':Nat→Prop} (hs:Sep G w w' G'):Kp t.N w w':=
 ⟨hs.size,fun b hb hl=>hs.out b hl (fun hg=>(h.apart b hb).2 (hG b hg))⟩
theorem cz.Le (h:cz Z B Nn w t f T K) {G:Nat→Prop} (hG:∀ b,G b→FT t b) {G':Nat→Prop} (hs:Sep G w w' G'):Mn.Own 0 w' t.tv t.V.tabs:=
 AB h.own (fun b cur hc=>hs.out b (af hc) (fun hg=>h.off hc (by decide) (hG b hg)))
theorem cz.Gb (h:cz Z B Nn w t f T K) {G:Nat→Prop} (hG:∀ b,G b→FT t b) {G':Nat→Prop} (hs:Sep G w w' G'):cI Nn B w':=
 h.gV.keep (fun b hb=>hs.out b (cj hb h.aW.base) (fun hg=>by have:=h.base b (hG b hg);omega))
theorem cz.Dr (h:cz Z B Nn w t f T K) {G:Nat→Prop} (hG:∀ b,G b→FT t b) {G':Nat→Prop} (hs:Sep G w w' G'):∀ k b l,t.ld k=some (b,l)→t.g k=some (.pointer (some ⟨b,0,none⟩))∧pX t.N w' b l:=
 fun k b l hk=>⟨(h.load k b l hk).1,(h.load k b l hk).2.kp (h.vW hG hs)⟩
theorem cz.Ds (h:cz Z B Nn w t f T K) {F':Nat→Prop} (hd:Dl Z B w' t.p t.r f' T' K' F') (hs:Sep t.F w w' F'):cz Z B Nn w' {t with F:=F'} f' T' K'∧eC w t w' {t with F:=F'}:=by
 have hG:∀ b,t.F b→FT t b:=fun b hb=> .inl hb
 have n:=h.ne;obtain ⟨aM,hm⟩:=h.mem;have hF:∀ b,FT {t with F:=F'} b→FT t b∨w.heap.size≤b:=fun b hb=>by
  rcases hb with hb|hb
  ·exact (hs.foot b hb).imp .inl id
  ·exact .inl (.inr hb)
 have ho:∀ b,FT t b→¬ t.F b→¬ F' b:=fun b hb hn hf=>by
  rcases hs.foot b hf with h1|h1
  ·exact hn h1
  ·have:=h.lt hb;omega
 refine ⟨⟨h.cell.keep (hs.out _ (h.lt (.inr (.inr (.inl rfl)))) n.vQ),h.set.same (hs.out _ (h.lt (.inr (.inr (.inr (.inl rfl))))) n.Xa),h.Le hG hs,h.log.same (hs.out _ (h.lt (.inr (.inr (.inr (.inr (.inl rfl)))))) n.flb),⟨aM,hm.keep (fun b hb=>hs.out b (hm.lt hb) (n.fm b hb).1) (h.vW hG hs)⟩,
  h.tabs.keep (hs.out _ h.tabs.lt h.sO),h.Dr hG hs,h.held.keep (hs.out _ h.held.lt h.ur),h.draws.kp (h.vW hG hs),hd,h.Gb hG hs,fun b hb=>⟨cj (h.apart b hb).1 hs.size,fun hf=> ?_⟩,fun b hb=> ?_,ho _ (.inr (.inr (.inr (.inr (.inr (.inl rfl)))))) h.sO,ho _ (.inr (.inr (.inr (.inr (.inr (.inr rfl)))))) h.ur,h.yf⟩,
  ⟨(hs.mono hG).tgt hF,fun b hb=> .inl hb,rfl,rfl,rfl,rfl,rfl,rfl,rfl,rfl,rfl,rfl⟩⟩
 ·have h1:=h.apart b hb
  rcases hF b hf with h2|h2
  ·exact h1.2 h2
  ·omega
 ·rcases hF b hb with h2|h2
  ·exact h.base b h2
  ·exact aN h.aW.base h2
end Go.Proofs.YtoolkdapflaeeaaGreatDoor
namespace Go.Proofs.YtoolkdapflaeeaaGreatDoor
open Go.RowKit Go.Gl Go.aH Mn
variable {Z B Nn:Nat} {w w' w'':World} {t:Tr} {f f':Lk} {T K T' K':Nat}
theorem Sep.Lf {g:Nat} (h:GX g w w'):Sep (fun b=>b=g) w w' (fun b=>b=g):=by
 obtain ⟨a,b,c,d,e⟩:=h;exact ⟨a,b,c,d,fun k hk hn=>e k hk (fun x=>hn (by cases x;rfl)),fun k hk=> .inl hk⟩
theorem cz.com (h:cz Z B Nn w t f T K) {cg:Value} {V':bu} {F':Nat→Prop} (hS:dy w' t.sb t.p cg V' ((0:Nat):Int)) (ho:Mn.Own 0 w' cg V'.tabs) (hd:Dl Z B w' t.p t.r f' T' K' F') (hs:Sep (FL t.F t.sb) w w' (FL F' t.sb)) (_hsb:¬ F' t.sb):
  cz Z B Nn w' {t with tv:=cg,V:=V',F:=F'} f' T' K'∧eC w t w' {t with tv:=cg,V:=V',F:=F'}:=by
 have hG:∀ b,FL t.F t.sb b→FT t b:=fun b hb=>by
  rcases hb with hb|rfl
  ·exact .inl hb
  ·exact .inr (.inr (.inr (.inl rfl)))
 have n:=h.ne;obtain ⟨aM,hm⟩:=h.mem;have hF:∀ b,FT {t with tv:=cg,V:=V',F:=F'} b→FT t b∨w.heap.size≤b:=fun b hb=>by
  rcases hb with hb|hb
  ·exact (hs.foot b (.inl hb)).imp (hG b) id
  ·exact .inl (.inr hb)
 have fJ:∀ b,FT t b→¬ t.F b→b≠t.sb→¬ F' b:=fun b hb hn he hf=>by
  rcases hs.foot b (.inl hf) with h1|h1
  ·exact h1.elim hn he
  ·have:=h.lt hb;omega
 have out:∀ b,FT t b→¬ t.F b→b≠t.sb→w'.heap[b]?=w.heap[b]?:=fun b hb hn he=>hs.out b (h.lt hb) (fun h1=>h1.elim hn he)
 refine ⟨⟨h.cell.keep (out _ (.inr (.inr (.inl rfl))) n.vQ n.Xb),hS,ho,h.log.same (out _ (.inr (.inr (.inr (.inr (.inl rfl))))) n.flb (fun e=>n.aiK e.symm)),⟨aM,hm.keep (fun b hb=>out b (.inr (.inl hb)) (n.fm b hb).1 (n.fm b hb).2.2.1) (h.vW hG hs)⟩,
  h.tabs.keep (out _ (.inr (.inr (.inr (.inr (.inr (.inl rfl)))))) h.sO (fun e=>n.Xe e.symm)),h.Dr hG hs,h.held.keep (out _ (.inr (.inr (.inr (.inr (.inr (.inr rfl)))))) h.ur (fun e=>n.aiM e.symm)),h.draws.kp (h.vW hG hs),hd,h.Gb hG hs,fun b hb=>⟨cj (h.apart b hb).1 hs.size,fun hf=> ?_⟩,fun b hb=> ?_,fJ _ (.inr (.inr (.inr (.inr (.inr (.inl rfl)))))) h.sO (fun e=>n.Xe e.symm),fJ _ (.inr (.inr (.inr (.inr (.inr (.inr rfl)))))) h.ur (fun e=>n.aiM e.symm),h.yf⟩,
  ⟨(hs.mono hG).tgt hF,fun b hb=> .inl hb,rfl,rfl,rfl,rfl,rfl,rfl,rfl,rfl,rfl,rfl⟩⟩
 ·have h1:=h.apart b hb
  rcases hF b hf with h2|h2
  ·exact h1.2 h2
  ·omega
 ·rcases hF b hb with h2|h2
  ·exact h.base b h2
  ·exact aN h.aW.base h2
theorem cz.KX (h:cz Z B Nn w t f T K) {m':Nat} {F':Nat→Prop} (hL:di w' t.lb t.p bU (m':Int)) (hd:Dl Z B w' t.p t.r f' T' K' F') (hs:Sep (FL t.F t.lb) w w' (FL F' t.lb)):
  cz Z B Nn w' {t with m:=m',F:=F'} f' T' K'∧eC w t w' {t with m:=m',F:=F'}:=by
 have hG:∀ b,FL t.F t.lb b→FT t b:=fun b hb=>by
  rcases hb with hb|rfl
  ·exact .inl hb
  ·exact .inr (.inr (.inr (.inr (.inl rfl))))
 have n:=h.ne;obtain ⟨aM,hm⟩:=h.mem;have hF:∀ b,FT {t with m:=m',F:=F'} b→FT t b∨w.heap.size≤b:=fun b hb=>by
  rcases hb with hb|hb
  ·exact (hs.foot b (.inl hb)).imp (hG b) id
  ·exact .inl (.inr hb)
 have fJ:∀ b,FT t b→¬ t.F b→b≠t.lb→¬ F' b:=fun b hb hn he hf=>by
  rcases hs.foot b (.inl hf) with h1|h1
  ·exact h1.elim hn he
  ·have:=h.lt hb;omega
 have out:∀ b,FT t b→¬ t.F b→b≠t.lb→w'.heap[b]?=w.heap[b]?:=fun b hb hn he=>hs.out b (h.lt hb) (fun h1=>h1.elim hn he)
 refine ⟨⟨h.cell.keep (out _ (.inr (.inr (.inl rfl))) n.vQ n.Xc),h.set.same (out _ (.inr (.inr (.inr (.inl rfl)))) n.Xa n.aiK),h.Le hG hs,hL,⟨aM,hm.keep (fun b hb=>out b (.inr (.inl hb)) (n.fm b hb).1 (n.fm b hb).2.2.2.1) (h.vW hG hs)⟩,
  h.tabs.keep (out _ (.inr (.inr (.inr (.inr (.inr (.inl rfl)))))) h.sO (fun e=>n.Xf e.symm)),h.Dr hG hs,h.held.keep (out _ (.inr (.inr (.inr (.inr (.inr (.inr rfl)))))) h.ur (fun e=>n.aiN e.symm)),h.draws.kp (h.vW hG hs),hd,h.Gb hG hs,fun b hb=>⟨cj (h.apart b hb).1 hs.size,fun hf=> ?_⟩,fun b hb=> ?_,fJ _ (.inr (.inr (.inr (.inr (.inr (.inl rfl)))))) h.sO (fun e=>n.Xf e.symm),fJ _ (.inr (.inr (.inr (.inr (.inr (.inr rfl)))))) h.ur (fun e=>n.aiN e.symm),h.yf⟩,
  ⟨(hs.mono hG).tgt hF,fun b hb=> .inl hb,rfl,rfl,rfl,rfl,rfl,rfl,rfl,rfl,rfl,rfl⟩⟩
 ·have h1:=h.apart b hb
  rcases hF b hf with h2|h2
  ·exact h1.2 h2
  ·omega
 ·rcases hF b hb with h2|h2
  ·exact h.base b h2
  ·exact aN h.aW.base h2
theorem Bw.lt {M:Nat→Prop} {v:Value} {l:List UInt8} (h:Bw M w v l):Bw (fun b=>M b∧b<w.heap.size) w v l:=by
 refine ⟨h.1,?_⟩;rcases h.2 with h2|h2
 ·exact .inl h2
 ·by_cases hl:l= []
  ·exact .inl hl
  ·refine .inr fun b hb=>⟨h2 b hb,?_⟩
   obtain ⟨a,c,rfl,_,_,_,h3⟩:=h.1;rcases h3 with h3|⟨b',o,rfl,hlt,_⟩
   ·exact absurd h3 hl
   ·cases hb;exact hlt
theorem Es.lt {M:Nat→Prop} {v:Value} {xs:List Ev} (h:Es M w v xs):Es (fun b=>M b∧b<w.heap.size) w v xs:=by
 obtain ⟨⟨a,c,h1,h2,h3,h4,h5⟩,h6⟩:=h;refine ⟨⟨a,c,h1,h2,h3,h4,?_⟩,fun x hx=>(h6 x hx).lt⟩;rcases h5 with h5|⟨b,o,q1,q2,q3,q4⟩
 ·exact .inl h5
 ·exact .inr ⟨b,o,q1,⟨q2,q3⟩,q3,q4⟩
theorem sI.inN {A tb:Nat} {l:List En} (h:sI A w tb l) {N:Nat→Prop} (hN:∀ b,A≤b→b<w.heap.size→N b) (ho:cQ l) (hl:l.length≤1000000) (hv:∀ x∈l,x.val.length≤33554432):pX N w tb l:=by
 obtain ⟨v,fv,nb,ys,h1,h2,h3,h4⟩:=h;exact ⟨⟨v,fv,nb,ys,h1,h3,(h4.es (M:=fun b=>A≤b) (fun b hb=>hb.elim (fun x=>x.elim) id)).lt.mono (fun b hb=>hN b hb.1 hb.2)⟩,hN tb h2 (af h1),ho,hl,hv⟩
theorem cz.ldd (h:cz Z B Nn w t f T K) {n:Nat} {l:List En} {tb:Nat} (hl:PV w t.tm t.g t.gm n l w' tb) (ho:cQ l) (hlen:l.length≤1000000) (hv:∀ x∈l,x.val.length≤33554432):
  cz Z B Nn w' {t with g:=vT t.g (n:Int) (.pointer (some ⟨tb,0,none⟩)),gm:=t.gm+1,ld:=fun k=>if k=(n:Int) then some (tb,l) else t.ld k,N:=fun b=>t.N b∨(w.heap.size≤b∧b<w'.heap.size)} f T K∧
  eC w t w' {t with g:=vT t.g (n:Int) (.pointer (some ⟨tb,0,none⟩)),gm:=t.gm+1,ld:=fun k=>if k=(n:Int) then some (tb,l) else t.ld k,N:=fun b=>t.N b∨(w.heap.size≤b∧b<w'.heap.size)}:=by
 have hs:=Sep.Lf hl.gx;have hG:∀ b,b=t.tm→FT t b:=fun b hb=> .inr (.inr (.inr (.inr (.inr (.inl hb)))))
 have n:=h.ne;obtain ⟨aM,hm⟩:=h.mem;have hN:∀ b,t.N b→t.N b∨(w.heap.size≤b∧b<w'.heap.size):=fun b hb=> .inl hb
 have out:∀ b,FT t b→b≠t.tm→w'.heap[b]?=w.heap[b]?:=fun b hb hn=>hs.out b (h.lt hb) hn
 have hk:=h.vW hG hs;refine ⟨⟨h.cell.keep (out _ (.inr (.inr (.inl rfl))) n.Xd),h.set.same (out _ (.inr (.inr (.inr (.inl rfl)))) n.Xe),h.Le hG hs,h.log.same (out _ (.inr (.inr (.inr (.inr (.inl rfl))))) n.Xf),⟨aM,(hm.keep (fun b hb=>out b (.inr (.inl hb)) (n.fm b hb).2.2.2.2.1) hk).mono hN⟩,
  hl.map,fun k b l' eP=> ?_,h.held.keep (out _ (.inr (.inr (.inr (.inr (.inr (.inr rfl)))))) (fun e=>h.yf e.symm)),(h.draws.kp hk).mono hN,?_,h.Gb hG hs,fun b hb=> ?_,h.base,h.sO,h.ur,h.yf⟩,
  ⟨(hs.mono hG).tgt (fun b hb=> .inl hb),fun b hb=>hb.imp id (fun h1=>h1.1),rfl,rfl,rfl,rfl,rfl,rfl,rfl,rfl,rfl,rfl⟩⟩
 ·dsimp only at eP ⊢
  split at eP
  ·rename_i he
   cases eP;exact ⟨by unfold vT;rw [if_pos he],hl.sst.inN (fun b h1 h2=> .inr ⟨h1,h2⟩) ho hlen hv⟩
  ·rename_i he
   obtain ⟨h1,h2⟩:=h.load k b l' eP;exact ⟨by unfold vT;rw [if_neg he];exact h1,(h2.kp hk).mono hN⟩
 ·obtain ⟨V,d1,d2,d3,d4⟩:=h.aW
  exact ⟨V,d1.keep hs.size (fun b hb=>out b (.inl hb) (fun e=>h.sO (by rw [←e];exact hb))),d2,d3,d4⟩
 ·rcases hb with hb|hb
  ·exact ⟨cj (h.apart b hb).1 hs.size,(h.apart b hb).2⟩
  ·exact ⟨hb.2,fun hf=>by have:=h.lt hf;omega⟩
theorem cz.laid (h:cz Z B Nn w t f T K) {s:Nat} {ws:List Wr} {N':Nat→Prop} {bE:List Nd} (hl:KL t.N w t.db t.sb t.o t.drv (.pointer (some ⟨t.lb,0,none⟩)) t.mb t.tm (max t.seq s) t.hm t.ha t.ns t.dv t.ds s ws N' bE w'):
  cz Z B Nn w' {t with seq:=max t.seq s,ns:=bE,N:=N'} f T K∧eC w t w' {t with seq:=max t.seq s,ns:=bE,N:=N'}:=by
 have hs:=hl.sep;have hG:∀ b,FL (FM t.mb t.ha t.ns) t.db b→FT t b:=fun b hb=>by
  rcases hb with hb|rfl
  ·exact .inr (.inl hb)
  ·exact .inr (.inr (.inl rfl))
 have n:=h.ne;have hk:=h.vW hG hs;have hF:∀ b,FT {t with seq:=max t.seq s,ns:=bE,N:=N'} b→FT t b∨w.heap.size≤b:=fun b hb=>by
  rcases hb with hb|hb|hb
  ·exact .inl (.inl hb)
  ·exact (hs.foot b (.inl hb)).imp (hG b) id
  ·exact .inl (.inr (.inr hb))
 have nf:∀ b,t.F b→¬ FL (FM t.mb t.ha t.ns) t.db b:=fun b hb hf=>by
  rcases hf with hf|rfl
  ·exact (n.fm b hf).1 hb
  ·exact n.vQ hb
 have out:∀ b,FT t b→¬ FL (FM t.mb t.ha t.ns) t.db b→w'.heap[b]?=w.heap[b]?:=fun b hb hn=>hs.out b (h.lt hb) hn
 have nn:∀ b,b≠t.db→(∀ c,FM t.mb t.ha t.ns c→c≠b)→¬ FL (FM t.mb t.ha t.ns) t.db b:=fun b h1 h2 hf=>by
  rcases hf with hf|hf
  ·exact h2 b hf rfl
  ·exact h1 hf
 refine ⟨⟨hl.cell,h.set.same (out _ (.inr (.inr (.inr (.inl rfl)))) (nn _ (fun e=>n.Xb e.symm) (fun c hc=>(n.fm c hc).2.2.1))),h.Le hG hs,h.log.same (out _ (.inr (.inr (.inr (.inr (.inl rfl))))) (nn _ (fun e=>n.Xc e.symm) (fun c hc=>(n.fm c hc).2.2.2.1))),hl.mem,
  h.tabs.keep (out _ (.inr (.inr (.inr (.inr (.inr (.inl rfl)))))) (nn _ (fun e=>n.Xd e.symm) (fun c hc=>(n.fm c hc).2.2.2.2.1))),fun k b l eP=>⟨(h.Dr hG hs k b l eP).1,(h.Dr hG hs k b l eP).2.mono hl.sub⟩,h.held.keep (out _ (.inr (.inr (.inr (.inr (.inr (.inr rfl)))))) (nn _ (fun e=>n.aiL e.symm) (fun c hc=>(n.fm c hc).2.2.2.2.2))),(h.draws.kp hk).mono hl.sub,?_,h.Gb hG hs,fun b hb=>⟨(hl.apart b hb).1,fun hf=> ?_⟩,fun b hb=> ?_,h.sO,h.ur,h.yf⟩,
  ⟨(hs.mono hG).tgt hF,hl.new,rfl,rfl,rfl,rfl,rfl,rfl,rfl,rfl,rfl,rfl⟩⟩
 ·obtain ⟨V,d1,d2,d3,d4⟩:=h.aW
  exact ⟨V,d1.keep hs.size (fun b hb=>out b (.inl hb) (nf b hb)),d2,d3,d4⟩
 ·rcases hl.new b hb with h1|h1
  ·rcases hf with hf|hf|hf
   ·exact (h.apart b h1).2 (.inl hf)
   ·exact (hl.apart b hb).2 hf
   ·exact (h.apart b h1).2 (.inr (.inr hf))
  ·rcases hf with hf|hf|hf
   ·have:=h.lt (.inl hf);omega
   ·exact (hl.apart b hb).2 hf
   ·have:=h.lt (.inr (.inr hf));omega
 ·rcases hF b hb with h2|h2
  ·exact h.base b h2
  ·exact aN h.aW.base h2
theorem cz.aAe (h:cz Z B Nn w t f T K) {mb ha:Nat} {dv:Value} (hM:cX (fun b=>w.heap.size≤b∧b<w'.heap.size∧¬ FM mb ha [] b) w' mb ha [] 0 dv t.ds) (hg:Grow w w') (ue:w.heap.size≤mb) (Gd:w.heap.size≤ha):
  cz Z B Nn (w'.setCell ⟨t.db,8,none⟩ (.pointer (some ⟨mb,0,none⟩))) {t with mb:=mb,ha:=ha,ns:= [],dv:=dv,N:=fun b=>t.N b∨(w.heap.size≤b∧b<w'.heap.size∧¬ FM mb ha [] b)} f T K∧
  eC w t (w'.setCell ⟨t.db,8,none⟩ (.pointer (some ⟨mb,0,none⟩))) {t with mb:=mb,ha:=ha,ns:= [],dv:=dv,N:=fun b=>t.N b∨(w.heap.size≤b∧b<w'.heap.size∧¬ FM mb ha [] b)}:=by
 have bA:=h.lt (b:=t.db) (.inr (.inr (.inl rfl)));have hs:Sep (fun b=>b=t.db) w (w'.setCell ⟨t.db,8,none⟩ (.pointer (some ⟨mb,0,none⟩))) (fun b=>b=t.db):=
  ⟨hg.os,hg.tape,hg.output,by simpa using hg.size,fun b hb hn=>(aK _ _ _ _ hn).trans (hg.block b hb),fun b hb=> .inl hb⟩
 have hG:∀ b,b=t.db→FT t b:=fun b hb=> .inr (.inr (.inl hb))
 have n:=h.ne;have hk:=h.vW hG hs;have hN:∀ b,t.N b→t.N b∨(w.heap.size≤b∧b<w'.heap.size∧¬ FM mb ha [] b):=fun b hb=> .inl hb
 have jD:∀ b,FM mb ha [] b→w.heap.size≤b:=fun b hb=>by
  rcases hb with rfl|rfl|⟨_,h1,_⟩
  ·exact ue
  ·exact Gd
  ·cases h1
 have hF:∀ b,FT {t with mb:=mb,ha:=ha,ns:= [],dv:=dv,N:=fun b=>t.N b∨(w.heap.size≤b∧b<w'.heap.size∧¬ FM mb ha [] b)} b→FT t b∨w.heap.size≤b:=fun b hb=>by
  rcases hb with hb|hb|hb
  ·exact .inl (.inl hb)
  ·exact .inr (jD b hb)
  ·exact .inl (.inr (.inr hb))
 have out:∀ b,FT t b→b≠t.db→(w'.setCell ⟨t.db,8,none⟩ (.pointer (some ⟨mb,0,none⟩))).heap[b]?=w.heap[b]?:=fun b hb hn=>hs.out b (h.lt hb) hn
 have hc:=h.cell.grow hg;have hkN:Kp (fun b=>w.heap.size≤b∧b<w'.heap.size∧¬ FM mb ha [] b) w' (w'.setCell ⟨t.db,8,none⟩ (.pointer (some ⟨mb,0,none⟩))):=⟨by simp,fun b hb _=>aK _ _ _ _ (fun e=>by have e':b=t.db:=e;omega)⟩
 refine ⟨⟨Go.Gl.aI hc 8 _,h.set.same (out _ (.inr (.inr (.inr (.inl rfl)))) (fun e=>n.Xb e.symm)),h.Le hG hs,h.log.same (out _ (.inr (.inr (.inr (.inr (.inl rfl))))) (fun e=>n.Xc e.symm)),⟨0,(hM.keep (fun b hb=>aK _ _ _ _ (fun e=>by have e':b=t.db:=e;have:=jD b hb;omega)) hkN).mono (fun b hb=> .inr hb)⟩,
  h.tabs.keep (out _ (.inr (.inr (.inr (.inr (.inr (.inl rfl)))))) (fun e=>n.Xd e.symm)),fun k b l eP=>⟨(h.Dr hG hs k b l eP).1,(h.Dr hG hs k b l eP).2.mono hN⟩,h.held.keep (out _ (.inr (.inr (.inr (.inr (.inr (.inr rfl)))))) (fun e=>n.aiL e.symm)),(h.draws.kp hk).mono hN,?_,h.Gb hG hs,fun b hb=> ?_,fun b hb=> ?_,h.sO,h.ur,h.yf⟩,
  ⟨(hs.mono hG).tgt hF,fun b hb=>hb.imp id (fun h1=>h1.1),rfl,rfl,rfl,rfl,rfl,rfl,rfl,rfl,rfl,rfl⟩⟩
 ·obtain ⟨V,d1,d2,d3,d4⟩:=h.aW
  exact ⟨V,d1.keep hs.size (fun b hb=>out b (.inl hb) (fun e=>n.vQ (by rw [←e];exact hb))),d2,d3,d4⟩
 ·rcases hb with hb|hb
  ·refine ⟨cj (h.apart b hb).1 hs.size,fun hf=> ?_⟩
   rcases hF b hf with h2|h2
   ·exact (h.apart b hb).2 h2
   ·have:=(h.apart b hb).1;omega
  ·refine ⟨by simpa using hb.2.1,fun hf=> ?_⟩
   rcases hf with hf|hf|hf
   ·have:=h.lt (.inl hf);omega
   ·exact hb.2.2 hf
   ·have:=h.lt (.inr (.inr hf));omega
 ·rcases hF b hb with h2|h2
  ·exact h.base b h2
  ·exact aN h.aW.base h2
end Go.Proofs.YtoolkdapflaeeaaGreatDoor
namespace Go.Proofs.YtoolkdapflaeeaaGreatDoor
open Go.RowKit Go.Gl Go.aH Mn Go.Extern.Stop Go.Stop Go.Extern
theorem Tryz.aAg (v:Value) (w:World):(Extern.ReflectliteType.typeOf #[.iface 38 v]).run Tryz.prog w= .ok (.iface 202 (.agg #[.pointer (some ⟨5,38,none⟩)])) w:=by kernel_rfl
theorem Tryz.aAh (w:World):(callFunc 279 #[.agg #[.pointer (some ⟨5,38,none⟩)]]).run Tryz.prog w= .ok (.value (.bool true)) w:=by kernel_rfl
theorem Tryz.aAi (v:Value) (w:World):(Go.method 492 202 v "Comparable").run Tryz.prog w= .ok (279,v) w:=by kernel_rfl
theorem Tryz.aAj (v:Value) (xT:TypeId) (w:World):(Instr.typeAssert (.iface 38 v) xT 204 true).run Tryz.prog w= .ok (.tuple #[.nilIface,.bool false]) w:=run_typeAssert_lacksB Tryz.underlying204 (by kernel_rfl) (by kernel_rfl) v xT w
theorem Tryz.aAk (v:Value) (xT:TypeId) (w:World):(Instr.typeAssert (.iface 38 v) xT 207 true).run Tryz.prog w= .ok (.tuple #[.nilIface,.bool false]) w:=run_typeAssert_lacksB Tryz.underlying207 (by kernel_rfl) (by kernel_rfl) v xT w
theorem Tryz.aAl (v:Value) (xT:TypeId) (w:World):(Instr.typeAssert (.iface 38 v) xT 208 true).run Tryz.prog w= .ok (.tuple #[.nilIface,.bool false]) w:=run_typeAssert_lacksB Tryz.underlying208 (by kernel_rfl) (by kernel_rfl) v xT w
theorem aiP (a:Int) (w:World):
  Calls Tryz.prog 24 #[.iface 38 (.int .i64 a),.iface 38 (.int .i64 4)] w fun e w'=>e= .returned (.bool (a==4))∧w'=w:=by
 have h8:= @run_callFunc_extern Tryz.prog 55 _ Extern.ReflectliteType.typeOf Tryz.func55 (by kernel_rfl) (by kernel_rfl) (by kernel_rfl) (by kernel_rfl);have tT:=Tryz.aAg;have cT:=Tryz.aAh;have mR:=Tryz.aAi;have nE:=Tryz.aAj;have uE:=Tryz.aAk;have vE:=Tryz.aAl;cases hc:(a==4) with
 |true=>
  have heq:=Lib.run_eql_iface_int (P:=Tryz.prog) w (t:=66) (tx:=38) (k:= .i64) (q:= .i64) a 4 Tryz.underlying66 (by kernel_rfl) Tryz.underlying38;rw [hc] at heq;go_enter Tryz.func24,Tryz.ntmps24;go_wp2;refine wp_loop_rounds 1 ?_;rw [rounds_succ];go_wp2;go_ret;exact ⟨rfl,rfl⟩
 |false=>
  have heq:=Lib.run_eql_iface_int (P:=Tryz.prog) w (t:=66) (tx:=38) (k:= .i64) (q:= .i64) a 4 Tryz.underlying66 (by kernel_rfl) Tryz.underlying38;rw [hc] at heq;go_enter Tryz.func24,Tryz.ntmps24;go_wp2;refine wp_loop_rounds 1 ?_;rw [rounds_succ];go_wp2;go_ret;exact ⟨rfl,rfl⟩
end Go.Proofs.YtoolkdapflaeeaaGreatDoor
namespace Go.Proofs.YtoolkdapflaeeaaGreatDoor
open Go.RowKit Go.Gl Go.aH Mn
theorem aAm {N B:Nat} {w:World} (hN:cI N B w) (hB:B≤w.heap.size) {n:Nat} (hn:n<N) (h6:n<1000000) {bv:Value} (h:Bv w bv (jJ n)):
  Calls Tryz.prog 136 #[bv] w fun e w'=>e= .returned (.tuple #[.int .i64 n,.bool true])∧Grow w w':=by
 have hc0:=wN h;have Ha:=ae (apU h6 w);have hd:=Ej h6;obtain ⟨ba,bc,rfl⟩:=h.slice;have hcv:∀ W,Bv W (.slice ba (jJ n).length bc) (jJ n)→(convert 49 9 (.slice ba (jJ n).length bc)).run Tryz.prog W= .ok (.string ⟨(jJ n).toArray⟩) W:=fun W hW=>wN hW
 have H:=ae h;have HN:=ae hN;clear h hN;have g1:decide ((n:Int)≤999999999)=true:=by simp;omega
 have g0:decide ((0:Int)≤(n:Int))=true:=by simp
 go_enter Tryz.func136,Tryz.ntmps136
 go_wp2_with fail
 (with_reducible refine Ha.out.mono ?_);rintro e w1 ⟨rfl,hg1⟩;have dK:=ae hg1;clear hg1 Ha
 go_upto_region 2 with fail
 have hgd:=Grow.drew w1;refine bX (fun W=>Bv W (.slice ba (jJ n).length bc) (jJ n)) [(0,false),(1,false),(2,false),(3,false),(4,false),(5,false),(6,false),(7,false),(8,false),(9,false),(10,false),(11,false),(12,false),(14,false),(15,false),(13,true),(16,false),(17,false),(18,false),(19,false)] (by kernel_rfl) (by kernel_rfl) (fun c a d v w h=>by cases d<;>exact h) (H.out.grow (dK.out.trans hgd)) ?_;simp only [aP,nth]
 repeat (first|(refine aB (v:= ?_) (by rfl) ?_ ?_;rotate_left;(rintro W hW;go_simp;with_reducible rfl);simp only [ag,List.set])|(refine aC (by rfl) ?_;simp only [ag,List.set]))
 have zF:B≤w1.heap.size:=aN hB dK.out.size;refine bj (by rfl) (by go_simp) (((HN.out.grow dK.out hB).grow hgd zF) n hn _ (fun _ _=>rfl)) ?_;rintro e w2 ⟨rfl,hg2⟩;have hg:=(dK.out.trans hgd).trans hg2;refine ⟨_,rfl,H.out.grow hg,?_⟩
 try first|simp only [ag,List.set]|simp only [aD]
 repeat (first|(refine aB (v:= ?_) (by rfl) ?_ ?_;rotate_left;(rintro W hW;go_simp;with_reducible rfl);simp only [ag,List.set])|(refine aC (by rfl) ?_;simp only [ag,List.set]))
 refine bm ?_;have Hg:=ae hg;clear hg hgd hg2;go_wp2;exact bodyPost_ret (v:= .tuple #[.int .i64 (n:Int),.bool true]) (by simp [results,Tryz.results136,go_sem]) rfl ⟨rfl,Hg.out⟩
theorem aiQ (w:World):Bv w (.slice none 0 0) []:=⟨none,0,rfl,ay _,bk _,fun _=>rfl,.inl rfl⟩
theorem aAn {Z B N:Nat} {w:World} {p r:Nat} {f:Lk} {T K:Nat} {F:Nat→Prop} {sb:Nat} {tv:Value} {V:bu} {m:Int} (hS:dy w sb p tv V m) (h:Dl Z B w p r f T K F) (hB:B≤sb) (hN:cI N B w) (hn:0<N)
  (rX:f rR=none) (NG:f pg=none) (hroom:T+6≤Z):
  Calls Tryz.prog 89 #[.pointer (some ⟨sb,0,none⟩)] w fun e w'=>e= .returned .nilIface∧dy w' sb p tv V 0∧(∃ T' F',T'≤T+6∧Dl Z B w' p r (ND 0 [] f) T' (K+3) F')∧Rl B r w w':=by
 obtain ⟨c0,_,_,_,_,_,ls⟩:=hS.cells;have aY:=II h rR;rw [rX] at aY;have nk:=ae aY;have H:=ae h;have HS:=ae hS;have HN:=ae hN;clear h hS hN aY;go_enter Tryz.func89,Tryz.ntmps89
 go_wp2_with fail
 (with_reducible refine nk.out.mono ?_);rintro e w1 ⟨rfl,hg1⟩
 go_wp2_with fail
 (with_reducible refine (aiP 4 w1).mono ?_);rintro e w2 ⟨rfl,hw⟩;have hw':=hw.symm;subst hw';clear hw;have Ht0:=(atP (n:=0) (HS.out.grow hg1) (H.out.grow hg1) hB (HN.out.grow hg1 H.out.base) hn (by decide) (aiQ w1) (by simp) (fun b hb=>by cases hb) NG (by simpa using hroom))
 have Lg:Calls Tryz.prog 135 #[.pointer (some ⟨sb,0,none⟩),.int .i64 0,.slice none 0 0] w1 _:=Ht0;have Ht:=ae Lg;have dK:=ae hg1;clear Ht0 Lg;have HB:=ae H.out.base;have Xg:((4:Int)==4)=true:=rfl;rw [Xg];clear hg1 nk H HS HN c0 ls
 go_wp2_with fail
 (with_reducible refine Ht.out.mono ?_);rintro e w3 ⟨rfl,Lh,⟨T3,F3,AD,eV⟩,hr3⟩;have bG:=ae (ah Lh (ah eV ((Rl.grow (r:=r) dK.out HB.out).trans hr3)));clear Lh eV hr3 Ht;go_wp2;go_ret;exact ⟨rfl,bG.out.1,⟨T3,F3,by simpa using AD,bG.out.2.1⟩,bG.out.2.2⟩
theorem Dl.gx {Z B:Nat} {w w':World} {p r:Nat} {f:Lk} {T K:Nat} {F:Nat→Prop} (h:Dl Z B w p r f T K F) {sb:Nat} {cs:Array Value} {fz:Nat×Nat} (hb:w.heap[sb]?=some (.cells cs 154 fz)) (hG:GX sb w w'):Dl Z B w' p r f T K F:=by
 have Br:=h.apart hb (by decide) (by decide) (by decide);obtain ⟨V,⟨hZ,h0,born,fs,hd,h1,h2⟩,h3,h4,h5⟩:=h;subst h2;obtain ⟨c,hm,hc⟩:=hd.map;obtain ⟨_,_,_,gs,ge⟩:=hG;have ho:∀ b,cN p r fs b→w'.heap[b]?=w.heap[b]?:=fun b jU=>ge b (hd.RY jU).2 (fun e=>Br (by cases e;exact jU))
 refine ⟨V,⟨hZ,h0,born,fs,⟨(ho p (.inl rfl)).trans hd.self,⟨c,(ho r (.inr (.inl rfl))).trans hm,hc⟩,hd.names,hd.rD,hd.rE,hd.rows,fun f hf=> ?_,hd.base.1,hd.base.2.1,aN hd.base.2.2 gs⟩,h1,rfl⟩,h3,h4,h5⟩;have bh:=hd.files f hf;exact ⟨(ho _ (.inr (.inr ⟨f,hf,.inl rfl⟩))).trans bh.cell,bh.row.keep (fun b hb=>ho b (.inr (.inr ⟨f,hf,.inr hb⟩))),bh.base,bh.sync⟩
theorem Row1.gx {e:TypeId} {B:Nat} {w w':World} {v:Value} {xs:List Value} (h:Go.Gl.Row1 e B w v xs) {sb:Nat} {cs:Array Value} {fz:Nat×Nat} (hb:w.heap[sb]?=some (.cells cs 154 fz)) (he:e≠154) (hG:GX sb w w'):Go.Gl.Row1 e B w' v xs:=
 h.keep fun g hg=>by
  obtain ⟨cur,hc⟩:=h.block hg;rw [hG.heap hc (ny hc hb he),hc]
theorem ko.gx {B:Nat} {w w':World} {v:Value} {ps:List (List UInt8)} (h:ko B w v ps) {sb:Nat} {cs:Array Value} {fz:Nat×Nat} (hb:w.heap[sb]?=some (.cells cs 154 fz)) (hG:GX sb w w'):ko B w' v ps:=by
 obtain ⟨vals,h1,h2,h3⟩:=h;exact ⟨vals,Row1.gx h1 hb (by decide) hG,h2,fun i u p hu hp=>Row1.gx (h3 i u p hu hp) hb (by decide) hG⟩
theorem aAo {B:Nat} {w w':World} {v:Value} {l:List Tb} (h:Mn.Own B w v l) {sb:Nat} {cs:Array Value} {fz:Nat×Nat} (hb:w.heap[sb]?=some (.cells cs 154 fz)) (hG:GX sb w w'):Mn.Own B w' v l:=uW h fun g hg=>by
 obtain ⟨cur,hc,_⟩:=qC h hg;rw [hG.heap hc (ny hc hb (by decide)),hc]
theorem Rl.gx {B r:Nat} {w w':World} {sb:Nat} {cs:Array Value} {fz:Nat×Nat} (hb:w.heap[sb]?=some (.cells cs 154 fz)) (hB:B≤sb) (hG:GX sb w w'):Rl B r w w':=by
 have hs:=af hb;obtain ⟨ga,gb,gc,gd,ge⟩:=hG;refine ⟨⟨ga,gb,gc,gd,fun b arr t f h ht=> ?_,fun b o h hc _=> ?_⟩,⟨ga,gb,gc,gd,fun b h=>ge b (by omega) (fun e=>by cases e;omega)⟩⟩
 ·rw [ge b (af h) (fun e=> ?_)]
  ·exact h
  ·cases e;rw [hb] at h;cases h;exact ht (.inr (.inr (.inr rfl)))
 ·rw [ge b (af h) (fun e=> ?_)]
  ·exact h
  ·cases e;rw [hb] at h;cases h;exact hc _ _ _ rfl
theorem aiS:∀ (a:List cr) {v V:bu},eZ v a=(0,V)→V.tabs.length≤v.tabs.length+(a.map (fun e=>e.add.length)).sum
 | [],v,V,h=>by
  simp only [eZ,Prod.mk.injEq,true_and] at h;subst h;simp
 |e::a,v,V,h=>by
  unfold eZ at h;by_cases h0:(aV v e).1=0
  ·rw [if_pos h0] at h
   have h1:=aiS a h;have h2:=abJ v e;simp only [List.map_cons,List.sum_cons];omega
  ·rw [if_neg h0] at h
   exact absurd (congrArg Prod.fst h) h0
structure OpI (Z B:Nat) (w3:World) (p r:Nat) (f:Lk) (T K:Nat) (F:Nat→Prop) (sb n:Nat) (rv:Value) (es:List cr) (V:bu) (i:Nat) (wr:World):Prop where
 gx:GX sb w3 wr
 set:∃ tv U,dy wr sb p tv U n∧Mn.Own 0 wr tv U.tabs∧eZ cd (es.take i)=(0,U)∧eZ U (es.drop i)=(0,V)
def Xh (Z B:Nat) (w3:World) (p r:Nat) (f:Lk) (T K:Nat) (F:Nat→Prop) (sb n:Nat) (rv:Value) (es:List cr) (V:bu) (iv ev:Value) (wr:World):Prop:=
 ∃ i:Nat,iv= .int .i64 i∧i≤es.length∧ev= .int .i64 0∧OpI Z B w3 p r f T K F sb n rv es V i wr
theorem aAq {B:Nat} {w:World} {v:Value} {l:List Int} (h:zu B w v l):Ints w v l:=by
 rcases h with ⟨h1,h2⟩|⟨g,cap,cur,h1,h2,h3,h4,h5,h6,h7⟩
 ·have hl:l= []:=by simpa using h2
  subst hl;rw [h1];exact asa w
 ·rw [List.length_map] at h1 h4 h7
  refine ⟨_,cap,h1,h4,.inr ⟨g,0,rfl,af h3,fun j k hk=> ?_⟩⟩;have hj:j<l.length:=by
   rcases Nat.lt_or_ge j l.length with h|h
   ·exact h
   ·rw [List.getElem?_eq_none h] at hk;cases hk
  have h8:cur.toList[j]?=some (.int .i64 k):=by
   have:=congrArg (fun x=>x[j]?) h7;simp only [List.getElem?_take,hj,if_true,List.getElem?_map,hk,Option.map_some] at this;exact this
  rw [Nat.zero_add];simp only [World.cell?,h3];rw [←h8];simp
theorem Qh {x:Nat}:∀ {l:List Nat},x∈l→x≤l.sum
 |a::l,h=>by
  rcases List.mem_cons.1 h with rfl|h
  ·simp
  ·have:=Qh h;simp;omega
theorem IU {e:cr} {U:bu}:∀ {a:List cr} {v W:bu},eZ v a=(0,U)→(aV U e).1=0→W=(aV U e).2→eZ v (a++(some e).toList)=(0,W)
 | [],v,W,h,h0,hp=>by
  simp only [eZ,Prod.mk.injEq,true_and] at h;subst h;show eZ v [e]=_;rw [Tt,if_pos h0,hp]
 |x::a,v,W,h,h0,hp=>by
  rw [List.cons_append];unfold eZ at h ⊢;by_cases hx:(aV v x).1=0
  ·rw [if_pos hx] at h ⊢
   exact IU h h0 hp
  ·rw [if_neg hx] at h
   exact absurd (congrArg Prod.fst h) hx
abbrev OpS (sb eb:Nat) (tv:Value) (U:bu) (x0 x1 x2 x3 x4:Value) (W:World):Prop:=
 (W.cell? ⟨sb,1,none⟩=some tv∧W.cell? ⟨sb,2,none⟩=some (.int .u64 U.seq)∧W.cell? ⟨sb,3,none⟩=some (.int .i64 U.next)∧W.cell? ⟨sb,4,none⟩=some (.int .i64 U.aj)∧sb<W.heap.size)∧
 (W.cell? ⟨eb,0,none⟩=some x0∧W.cell? ⟨eb,1,none⟩=some x1∧W.cell? ⟨eb,2,none⟩=some x2∧W.cell? ⟨eb,3,none⟩=some x3∧W.cell? ⟨eb,4,none⟩=some x4∧eb<W.heap.size)
theorem Qi {sb p eb:Nat} {tv:Value} {V:bu} {n:Int} {x0 x1 x2 x3 x4:Value} {W:World} (hS:dy W sb p tv V n) (hb:W.heap[eb]?=some (.cells #[x0,x1,x2,x3,x4] 148 (0,0))):OpS sb eb tv V x0 x1 x2 x3 x4 W:=by
 obtain ⟨_,c1,c2,c3,c4,_,ls⟩:=hS.cells;obtain ⟨e0,e1,e2,e3,e4⟩:=cw hb;exact ⟨⟨c1,c2,c3,c4,ls⟩,e0,e1,e2,e3,e4,af hb⟩
theorem aAr {U V:bu} {e:cr} {l:List cr} (h:eZ U (e::l)=(0,V)):(aV U e).1=0∧eZ (aV U e).2 l=(0,V)∧eZ U [e]=(0,(aV U e).2):=by
 unfold eZ at h;by_cases h0:(aV U e).1=0
 ·rw [if_pos h0] at h
  exact ⟨h0,h,by rw [Tt,if_pos h0]⟩
 ·rw [if_neg h0] at h
  exact absurd (congrArg Prod.fst h) h0
theorem aAs {Z B N:Nat} {w:World} {p r:Nat} {f:Lk} {T K:Nat} {F:Nat→Prop} {sb:Nat} {m:Int} (hS:dy w sb p (.slice none 0 0) cd m) (h:Dl Z B w p r f T K F) (hB:B≤sb) (hN:cI N B w) {n:Nat} (hn:n<N) (h6:n<1000000)
  {q0 s1:Nat} (rX:f rR=some (jJ n,q0)) {es:List cr} (Xi:f (cD n)=some (bP aq (es.map cP),s1))
  (hes:∀ e∈es,zm e∧e.drop.length≤10000∧(cP e).length≤67108864) (Bg:(es.map (fun e=>e.add.length)).sum≤5000) (uV:es.length≤1000000) {V:bu} (hV:eZ cd es=(0,V)):
  Calls Tryz.prog 89 #[.pointer (some ⟨sb,0,none⟩)] w fun e w'=>e= .returned .nilIface∧(∃ tv,dy w' sb p tv V n∧Mn.Own 0 w' tv V.tabs)∧(∃ F',Dl Z B w' p r f T K F')∧Rl B r w w':=by
 obtain ⟨c0,_,_,_,_,_,ls⟩:=hS.cells;have aY:=II h rR;rw [rX] at aY;have hlen:=h.len Xi;have hTZ:=h.total;have hZ:=h.size;have nk:=ae aY;have H:=ae h;have HS:=ae hS;have HN:=ae hN;have aAt:=ae Xi;have HV:=ae hV;have Hes:=ae hes;clear h hS hN aY Xi hV hes rX;go_enter Tryz.func89,Tryz.ntmps89
 go_wp2_with fail
 (with_reducible refine nk.out.mono ?_);rintro e w1 ⟨⟨v,rfl,hv⟩,hg1⟩;obtain ⟨va,vc,rfl⟩:=hv.slice;have Hv:=ae hv;have dK:=ae hg1;clear hv hg1 nk
 go_wp2_with fail
 (with_reducible refine (aiP 0 w1).mono ?_);rintro e w2 ⟨rfl,hw⟩;have hw':=hw.symm;subst hw';clear hw;have Qj:=ae (aAm (HN.out.grow dK.out H.out.base) (aN H.out.base dK.out.size) hn h6 (cy Hv.out));have Xg:((0:Int)==4)=false:=rfl;rw [Xg];clear c0 ls
 go_wp2_with fail
 (with_reducible refine Qj.out.mono ?_);rintro e w2 ⟨rfl,hg2⟩;have nV:=dK.out.trans hg2;have jK:=ae (HS.out.grow nV);have H2:=ae (H.out.grow nV);have xr:=ae (HN.out.grow nV H.out.base);have pE:=ae (Rl.grow (r:=r) nV H.out.base);clear hg2 nV Qj HS H HN dK Hv
 go_upto_region 7 with fail
 obtain ⟨c0,_,_,_,_,_,ls⟩:=jK.out.cells;refine bX (fun W=>W.cell? ⟨sb,0,none⟩=some (.pointer (some ⟨p,0,none⟩))∧sb<W.heap.size) [(0,false),(1,false),(2,false),(3,false),(4,false),(5,true),(6,true),(7,false),(8,false),(9,false),(10,false),(11,false)] (by kernel_rfl) (by kernel_rfl) (fun c a d v w h=>by cases d<;>exact h) ⟨by simpa using c0,by simpa using ls⟩ ?_;simp only [aP,nth];clear c0 ls
 repeat (first|(refine aB (v:= ?_) (by rfl) ?_ ?_;rotate_left;(rintro W ⟨hW0,hW1⟩;go_simp;with_reducible rfl);simp only [ag,List.set])|(refine aC (by rfl) ?_;simp only [ag,List.set]))
 have hgd:=Grow.drew w2;refine bj (by rfl) (by go_simp) (IG (xr.out.grow hgd H2.out.base) hn h6) ?_;rintro e w3 ⟨rfl,hg3⟩;have jV:=hgd.trans hg3;obtain ⟨c0,_,_,_,_,_,ls⟩:=(jK.out.grow jV).cells;refine ⟨_,rfl,⟨c0,ls⟩,?_⟩
 try first|simp only [ag,List.set]|simp only [aD]
 have eV:=H2.out.grow jV;have aY:=II eV (cD n);rw [aAt.out] at aY;refine bj (by rfl) (by go_simp) aY ?_;rintro e w4 ⟨⟨v,rfl,hv⟩,hg4⟩;obtain ⟨xa,xc,rfl⟩:=hv.slice;have gj:=jV.trans hg4;obtain ⟨d0,_,_,_,_,_,ld⟩:=(jK.out.grow gj).cells;refine ⟨_,rfl,⟨d0,ld⟩,?_⟩
 try first|simp only [ag,List.set]|simp only [aD]
 repeat (first|(refine aB (v:= ?_) (by rfl) ?_ ?_;rotate_left;(rintro W ⟨hW0,hW1⟩;go_simp;with_reducible rfl);simp only [ag,List.set])|(refine aC (by rfl) ?_;simp only [ag,List.set]))
 refine bm ?_;have Jq:=ae (jK.out.grow gj);have H4:=ae (H2.out.grow gj);have zw:=ae (pE.out.trans (Rl.grow (r:=r) gj H2.out.base));have Hv:=ae hv;clear hgd hg3 jV hg4 gj eV aY hv c0 ls d0 ld jK H2 xr pE;have AE:w4.heap[sb]?=some (.cells (setCells p (.slice none 0 0) cd m) 154 (0,0)):=Jq.out;have ls4:=af AE;have c5:w4.cell? ⟨sb,5,none⟩=some (.int .i64 m):=by simp [World.cell?,AE]
 have f4:∀ i,w4.frozen? ⟨sb,i,none⟩=false:=fun i=>by simp [World.frozen?,AE]
 have tL:dy (w4.setCell ⟨sb,5,none⟩ (.int .i64 (n:Int))) sb p (.slice none 0 0) cd n:=Go.Gl.aI AE 5 _;have gM:=H4.out.EI AE 5 (.int .i64 (n:Int));have xJ:=zw.out.trans (Rl.set (r:=r) AE hB 5 (.int .i64 (n:Int)));have Fh:aG w3.heap.size (w4.setCell ⟨sb,5,none⟩ (.int .i64 (n:Int))) (.slice xa (bP aq (es.map cP)).length xc) (bP aq (es.map cP)):=Row1.gx Hv.out AE (by decide) (Go.Gl.iJ _ _ _ _);have Kg:(bP aq (es.map cP)).length≤T:=hlen;have Xj:=aak (cy Fh) (by omega);have hw0:kj aq (bP aq (es.map cP))=(es.map cP,(bP aq (es.map cP)).length,0):=RH aq (es.map cP) (fun x hx=>by obtain ⟨e,he,rfl⟩:=List.mem_map.1 hx;exact (Hes.out e he).2.2);rw [hw0] at Xj;have lh:=ae Xj;generalize (bP aq (es.map cP)).length=FL at*;have qL:=ae tL;have oA:=ae gM;have tM:=ae xJ;clear tL gM xJ Fh hw0 Xj Kg AE
 go_upto_region 11 with fail
 clear c5 f4 ls4;generalize w4.setCell ⟨sb,5,none⟩ (.int .i64 (n:Int))=w5 at*;clear Jq H4 zw Hv
 go_wp2_with fail
 (with_reducible refine lh.out.mono ?_);rintro e w6 ⟨rv,rfl,xn,cM⟩;obtain ⟨ra,rc,rQ⟩:=xn.slice;rw [List.length_map] at rQ;subst rQ;have Ge:=ae (qL.out.grow cM);have Qk:=ae (oA.out.grow cM);have Ql:=ae (tM.out.trans (Rl.grow (r:=r) cM oA.out.base));have Hrv:=ae xn;have bI:Hid (Xh Z B w6 p r f T K F sb n (.slice ra es.length rc) es V (.int .i64 0) (.int .i64 0) w6):=ae ⟨0,rfl,bk _,rfl,GX.refl _ _,.slice none 0 0,cd,Ge.out,World.ownsRow_nil _ _ _ _,rfl,by simpa using HV.out⟩;clear cM xn lh qL oA tM
 go_wp2_with fail
 go_loopw [61,4] (fun iv ev wr=>Xh Z B w6 p r f T K F sb n (.slice ra es.length rc) es V iv ev wr) (fun iv _ _=>es.length-(intOf iv).toNat)
 case atStart=>exact bI.out
 case round=>
  obtain ⟨i,rfl,hi,rfl,hI⟩:=hrel;obtain ⟨tv,U,Qm,hown,Xk,Li⟩:=hI.set;obtain ⟨ua,uc,rfl⟩:=iV hown;have vp:w6.heap[sb]?=some _:=Ge.out;by_cases hlt:i<es.length
  ·obtain ⟨e,he⟩:∃ e,es[i]?=some e:=⟨es[i],by simp [hlt]⟩
   obtain ⟨_,_,e0,hh⟩:=(ko.gx Hrv.out vp hI.gx).rv;rw [List.length_map] at e0;cases e0;obtain ⟨b,o,rfl,hb,hcell⟩:∃ b o,ra=some ⟨b,o,none⟩∧b<wr.heap.size∧∀ (j:Nat) (x:List UInt8),(es.map cP)[j]?=some x→∃ pv,wr.cell? ⟨b,o+j,none⟩=some pv∧Bv wr pv x:=by
    rcases hh with h1|h1
    ·have:=congrArg List.length h1
     rw [List.length_map] at this;simp at this;subst this;simp at hlt
    ·exact h1
   obtain ⟨pv,ot,bg⟩:=hcell i (cP e) (by rw [List.getElem?_map,he];rfl);obtain ⟨td,fS,hle⟩:=Hes.out e (dY he);have aAv:=ae (asr td bg (by omega));obtain ⟨pa,pc,rfl⟩:=bg.slice;generalize (cP e).length=EL at*;have dJ:(i:Int)<(es.length:Int):=by omega
   have bK:(0:Int)≤(i:Int):=by omega
   have eE:IntKind.i64.wrap ((i:Int)+1)=(i:Int)+1:=aR _ (by omega);have HI:=ae hI;have Xl:=ae Qm;have eT:=ae hown;have HU:=ae (ah Xk Li);have He:=ae he;clear hI Qm hown Xk Li he hh hcell bg vp td
   go_wp2_with fail
   (with_reducible refine aAv.out.mono ?_);rintro e' w7 ⟨tx,dx,rfl,Xm,Xn,cF⟩;obtain ⟨ta,tc,rfl⟩:=iV Xm;obtain ⟨da,dc,sr⟩:=Xn.slice;rw [List.length_map] at sr;subst sr;have Htx:=ae Xm;have Hdx:=ae Xn;have Gf:=ae cF;clear Xm Xn cF hle
   go_upto_region 18 with fail
   have ai:=Grow.alloc w7 (.cells (cV (.slice ta e.add.length tc) (.slice da e.drop.length dc) e.seq e.next e.aj) 148);have EC:=aw w7 (.cells (cV (.slice ta e.add.length tc) (.slice da e.drop.length dc) e.seq e.next e.aj) 148);have hsz:(w7.alloc (.cells (cV (.slice ta e.add.length tc) (.slice da e.drop.length dc) e.seq e.next e.aj) 148)).heap.size=w7.heap.size+1:=by simp
   generalize w7.alloc (.cells (cV (.slice ta e.add.length tc) (.slice da e.drop.length dc) e.seq e.next e.aj) 148)=wa at*;have hgb:=Grow.alloc wa (.cells (bz (.slice none 0 0) 0 0 0) 85);have Xo:=aw wa (.cells (bz (.slice none 0 0) 0 0 0) 85);rw [hsz] at Xo;generalize wa.alloc (.cells (bz (.slice none 0 0) 0 0 0) 85)=w8 at*;have zR:=ai.trans hgb;have aiY:=hgb.heap EC;have vU:=Gf.out.trans zR;have Lj:=ae (Xl.out.grow vU);have aiZ:=ae (ek eT.out vU);have aja:=ae (atM (ek Htx.out zR));have ajb:=ae (aAq (Hdx.out.grow zR));have Ll:=ae aiY;have Hv8:=ae Xo;have ajd:=ae vU;have aHE:wr.heap.size≤w7.heap.size:=Gf.out.size;generalize w7.heap.size=eb at*;clear ai EC hsz hgb Xo zR aiY vU Htx Hdx Gf;refine bX (OpS sb eb (.slice ua U.tabs.length uc) U (.slice ta e.add.length tc) (.slice da e.drop.length dc) (.int .u64 e.seq) (.int .i64 e.next) (.int .i64 e.aj)) [(0,false),(1,false),(2,false),(3,false),(4,false),(5,true),(6,true),(7,false),(8,false),(9,false),(10,true),(11,false)] (by kernel_rfl) (by kernel_rfl) (fun c a d v w h=>by cases d<;>exact h) (Qi (Lj.out.grow (Grow.drew _)) ((Grow.drew _).heap Ll.out)) ?_;simp only [aP,nth]
   repeat (first|(refine aB (v:= ?_) (by rfl) ?_ ?_;rotate_left;(rintro W ⟨⟨hW0,hW1,hW2,hW3,mF⟩,sj,mG,pK,xt,Dt,aje⟩;go_simp;with_reducible rfl);simp only [ag,List.set])|(refine aC (by rfl) ?_;simp only [ag,List.set]))
   have hgd:=Grow.drew w8;have ai:=Grow.alloc w8.drew (.cells (cV (.slice ta e.add.length tc) (.slice da e.drop.length dc) e.seq e.next e.aj) 148);have nU:=hgd.trans ai;have hq:=aw w8.drew (.cells (cV (.slice ta e.add.length tc) (.slice da e.drop.length dc) e.seq e.next e.aj) 148);have hrun:=acj w8.drew ta e.add.length tc da e.drop.length dc e.seq e.next e.aj;have ul:U.tabs.length≤5000:=by
    have h1:=aiS _ HU.out.1;have h2:((es.take i).map (fun e=>e.add.length)).sum≤(es.map (fun e=>e.add.length)).sum:=by
     conv=>rhs;rw [←List.take_append_drop i es,List.map_append,List.sum_append]
     omega
    have h3:cd.tabs.length=0:=rfl;omega
   have np:e.add.length≤5000:=by
    have h2:e.add.length≤(es.map (fun e=>e.add.length)).sum:=Qh (List.mem_map.2 ⟨e,dY He.out,rfl⟩);omega
   have hdr:es.drop i=e::es.drop (i+1):=by
    rw [List.drop_eq_getElem_cons hlt];have:=He.out;rw [List.getElem?_eq_getElem hlt] at this;rw [bB this]
   obtain ⟨hu0,Xp,Ih⟩:=aAr (hdr ▸ HU.out.2);obtain ⟨AP,zQ⟩:∃ x,x=(aV U e).2:=⟨_,rfl⟩
   rw [←zQ] at Xp Ih;have Hu0:=ae hu0;have Hu1:=ae Xp;have eG:=ae zQ;clear hu0 Xp zQ;refine fQ (by rfl) (fun K hK=> ?_);go_simp;refine hK _ _ ⟨Qi (Lj.out.grow nU) (nU.heap Ll.out),?_⟩;clear hK K
   try first|simp only [ag,List.set]|simp only [aD]
   have hap:=abK adh (ek aiZ.out nU) ul (ack hq (aja.out.grow nU) (ajb.out.grow nU)) (by simp) (by intro x hx;rw [cY.1 hx];exact ⟨np,fS⟩);rw [Ih] at hap;refine bj (by rfl) (by go_simp) hap ?_;rintro e' w9 ⟨cg,rfl,ho,fW⟩;have cx:=nU.trans fW;refine ⟨_,rfl,Qi (Lj.out.grow cx) (cx.heap Ll.out),?_⟩
   try first|simp only [ag,List.set]|simp only [aD]
   repeat (first|(refine aB (v:= ?_) (by rfl) ?_ ?_;rotate_left;(rintro W ⟨⟨hW0,hW1,hW2,hW3,mF⟩,sj,mG,pK,xt,Dt,aje⟩;go_simp;with_reducible rfl);simp only [ag,List.set])|(refine aC (by rfl) ?_;simp only [ag,List.set]))
   obtain ⟨ya,yc,rfl⟩:=iV ho;have Du:=cx.heap Hv8.out;have Gg:=Lj.out.grow cx;have hb9:=cx.heap Ll.out;obtain ⟨t0,t1,t2,t3⟩:=bZ Du;have TA:=af Du;have TB:∀ i,w9.frozen? ⟨eb+1,i,none⟩=false:=fun i=>by simp [World.frozen?,Du]
   have cE:=zh Du (.slice ya AP.tabs.length yc) (.int .u64 AP.seq) (.int .i64 AP.next) (.int .i64 AP.aj);have iw:=fun (c:Nat) (hc:c≠eb+1)=>Et (w:=w9) hc (.slice ya AP.tabs.length yc) (.int .u64 AP.seq) (.int .i64 AP.next) (.int .i64 AP.aj)
   have ajj:=BN (qx ho (bk _)) Du (.slice ya AP.tabs.length yc) (.int .u64 AP.seq) (.int .i64 AP.next) (.int .i64 AP.aj);have Xq:=uU (ajd.out.trans cx) (show wr.heap.size≤eb+1 by omega) (.slice ya AP.tabs.length yc) (.int .u64 AP.seq) (.int .i64 AP.next) (.int .i64 AP.aj);have Gc:sb≠eb+1:=fun h=>by
    have ajk:w9.heap[sb]?=some _:=Gg;rw [h,Du] at ajk;cases ajk
   have Xr:=Xl.out.grow Xq;have hbA:=(iw eb (by omega)).trans hb9;have opA:=ae (Qi Xr hbA);have Xs:=ae Xr;have ajn:=ae Xq;have ajo:=ae ajj;have sw:=ae cE;clear iw cE ajj Xq Xr hbA Du Gg hb9 cx fW nU ai hgd hq hrun hdr Gc ul np;refine fQ (by rfl) (fun K hK=> ?_);go_simp;refine hK _ _ ⟨opA.out,?_⟩;clear hK K
   try first|simp only [ag,List.set]|simp only [aD]
   repeat (first|(refine aB (v:= ?_) (by rfl) ?_ ?_;rotate_left;(rintro W ⟨⟨hW0,hW1,hW2,hW3,mF⟩,sj,mG,pK,xt,Dt,aje⟩;go_simp;with_reducible rfl);simp only [ag,List.set])|(refine aC (by rfl) ?_;simp only [ag,List.set]))
   refine bm ?_;clear opA t0 t1 t2 t3 TA TB;generalize (((w9.setCell ⟨eb+1,0,none⟩ (.slice ya AP.tabs.length yc)).setCell ⟨eb+1,1,none⟩ (.int .u64 AP.seq)).setCell ⟨eb+1,2,none⟩ (.int .i64 AP.next)).setCell ⟨eb+1,3,none⟩ (.int .i64 AP.aj)=wb at*;clear ho hap Ih Ll Hv8 Lj aiZ aja ajb ajd;have Qn:wb.heap[sb]?=some (.cells (setCells p (.slice ua U.tabs.length uc) U n) 154 (0,0)):=Xs.out;obtain ⟨_,c1,c2,c3,c4,_,lM⟩:=Xs.out.cells;have Xa:∀ i,wb.frozen? ⟨sb,i,none⟩=false:=fun i=>by simp [World.frozen?,Qn]
   obtain ⟨y0,y1,y2,y3⟩:=bZ sw.out;have Lm:=af sw.out;have bq:Hid (Xh Z B w6 p r f T K F sb n (.slice (some ⟨b,o,none⟩) es.length rc) es V (.int .i64 ((i:Int)+1)) (.int .i64 0) ((((wb.setCell ⟨sb,1,none⟩ (.slice ya AP.tabs.length yc)).setCell ⟨sb,2,none⟩ (.int .u64 AP.seq)).setCell ⟨sb,3,none⟩ (.int .i64 AP.next)).setCell ⟨sb,4,none⟩ (.int .i64 AP.aj))):=by
    have h2:=Go.Gl.aI Qn 1 (.slice ya AP.tabs.length yc);have h3:=Go.Gl.aI h2 2 (.int .u64 AP.seq);have h4:=Go.Gl.aI h3 3 (.int .i64 AP.next);have h5:=Go.Gl.aI h4 4 (.int .i64 AP.aj);have hgx:GX sb wb ((((wb.setCell ⟨sb,1,none⟩ (.slice ya AP.tabs.length yc)).setCell ⟨sb,2,none⟩ (.int .u64 AP.seq)).setCell ⟨sb,3,none⟩ (.int .i64 AP.next)).setCell ⟨sb,4,none⟩ (.int .i64 AP.aj)):=
     (((Go.Gl.iJ _ _ _ _:GX sb _ _).trans (Go.Gl.iJ _ _ _ _)).trans (Go.Gl.iJ _ _ _ _)).trans (Go.Gl.iJ _ _ _ _)
    refine ae ⟨i+1,rfl,hlt,rfl,(HI.out.gx.trans (GX.of ajn.out)).trans hgx,.slice ya AP.tabs.length yc,AP,h5,aAo ajo.out Qn hgx,?_,Hu1.out⟩;rw [List.take_add_one,He.out];have:=HU.out.1;have hz:=Hu0.out;have hp:=eG.out;exact IU this hz hp
   clear Qn Xs ajn ajo sw HI Xl eT HU He Hu0 Hu1 eG;go_wp2;go_roundw
   case rel=>exact bq.out
   case measure=>simp [intOf];omega
  ·obtain rfl:i=es.length:=by omega
   have hUV:U=V:=by
    rw [List.drop_length] at Li;simpa [eZ] using Li
   subst hUV;have hx:w6.heap[sb]?=some (.cells (setCells p (.slice none 0 0) cd n) 154 (0,0)):=Ge.out;have bG:=ae (ah (Dl.gx Qk.out hx hI.gx) (ah (Ql.out.trans (Rl.gx (r:=r) hx hB hI.gx)) (ah Qm hown)));clear hI Qm hown Xk Li hx Hrv Ge Qk Ql HV;have bK:¬ ((es.length:Int)<(es.length:Int)):=by omega
   go_wp2;go_ret;exact ⟨rfl,⟨_,bG.out.2.2.1,bG.out.2.2.2⟩,⟨_,bG.out.1⟩,bG.out.2.1⟩
end Go.Proofs.YtoolkdapflaeeaaGreatDoor
namespace Go.Proofs.YtoolkdapflaeeaaGreatDoor
open Go.RowKit Go.Gl Go.aH Go.Sort Mn
theorem Qo {n:ByteArray}:∀ {V:Vw},cH n V≠none↔n∈V.map (·.1)
 | []=>by simp [cH]
 |e::V=>by
  rw [eF,List.map_cons,List.mem_cons,←Qo (V:=V)];by_cases h:n=e.1<;>simp [h]
theorem aAx {α:Type} {m:α}:∀ {l:List α},l.Nodup→m∈l→(∀ x∈l,x=m)→l= [m]
 | [],_,h,_=>by cases h
 |a::t,hn,_,h=>by
  have ha:a=m:=h a (by simp);subst ha;cases t with
  |nil=>rfl
  |cons b t=>
   have hb:b=a:=h b (by simp);subst hb;exact absurd (by simp) (List.nodup_cons.1 hn).1
theorem filter_one {V:Vw} (hN:lK V) {P:ByteArray→Bool} {m:ByteArray} (h1:cH m V≠none) (h2:P m=true) (h3:∀ k,P k=true→cH k V≠none→k=m):(V.map (·.1)).filter P= [m]:=
 aAx (List.Pairwise.filter _ hN) (List.mem_filter.2 ⟨Qo.1 h1,h2⟩) (fun x hx=>by
  obtain ⟨h4,h5⟩:=List.mem_filter.1 hx;exact h3 x h5 (Qo.2 h4))
abbrev AG:ByteArray:=⟨#[109,97,110,105,102,101,115,116,45]⟩
def Qp (f:Lk) (n:Nat):Prop:=f (cD n)≠none∧∀ k:ByteArray,Lib.hasPrefix k.data.toList qp=true→f k≠none→k=cD n
theorem Qq (n:Nat):Lib.hasPrefix (cD n).data.toList qp=true:=by
 show Lib.hasPrefix (qp++eB n) qp=true;unfold Lib.hasPrefix;simp
theorem aAy {Z B:Nat} {w:World} {p r:Nat} {f:Lk} {T K:Nat} {F:Nat→Prop} (h:Dl Z B w p r f T K F) (hK:K<1000000000) {n:Nat} (ho:Qp f n) {qb:Nat} (hq:w.heap[qb]?=some (.cells #[.string AG] 9 (0,0))):
  Calls Tryz.prog 33 #[.pointer (some ⟨p,0,none⟩),.slice (some ⟨qb,0,none⟩) 1 1] w fun e w'=>∃ g cap,e= .returned (.slice (some ⟨g,0,none⟩) 1 cap)∧w'.cell? ⟨g,0,none⟩=some (.string (cD n))∧g<w'.heap.size∧Grow w w':=by
 obtain ⟨V,hd,rfl,_,hV⟩:=h;have hN:=hd.names;obtain ⟨hZ,h0,born,fs,h1,rfl,rfl⟩:=hd;have hl:=aaE h1 (by simp [vw] at hV;omega) AG hq;have he:pick (fun s=>Lib.hasPrefix s.data.toList AG.data.toList) (fs.map Fe.az)=(((vw fs).map (·.1)).filter fun s=>Lib.hasPrefix s.data.toList AG.data.toList).map fun s=>s.data.toList:=by
  unfold pick;rw [SJ,List.filter_map,List.filter_map,List.map_map,List.map_map];rfl
 rw [he,filter_one hN (m:=cD n) ho.1 (Qq n) (fun k hk hs=>ho.2 k hk hs)] at hl;refine hl.mono ?_;rintro e w' ⟨v,rfl,hrow,hg⟩;rcases hrow.2 with ⟨rfl,gD⟩|⟨g,cap,cur,rfl,iK,yV,BD,hcm,hcs,cC⟩
 ·cases gD
 ·refine ⟨g,cap,rfl,?_,af yV,hg⟩
  have h2:(cur.toList.take 1)[0]?=some (.string (cD n)):=by
   have:cur.toList.take (1*1)= [Value.string (cD n)]:=by
    have e1:([cD n].map (fun s:ByteArray=>s.data.toList)).mergeSort (fun x y=>decide (x≤y))= [(cD n).data.toList]:=List.mergeSort_singleton _;rw [e1] at cC;exact cC
   rw [this];rfl
  rw [List.getElem?_take] at h2;have h3:cur[0]?=some (.string (cD n)):=by simpa using h2
  simp [World.cell?,yV,h3]
theorem aAz (n:Nat) (w:World):Calls Tryz.prog 91 #[.string (cD n),.string AG] w fun e w'=>e= .returned (.string ⟨(eB n).toArray⟩)∧w'=w:=by
 refine (aaS (cD n) AG w).mono ?_;rintro e w' ⟨he,hw⟩;refine ⟨?_,hw⟩;have h5:Lib.trimPrefix (cD n).data.toList AG.data.toList=eB n:=by
  show Lib.trimPrefix (qp++eB n) qp=eB n;unfold Lib.trimPrefix Lib.hasPrefix;simp
 rw [h5] at he;exact he
def aAA (Z B:Nat) (w1:World) (p r:Nat) (sb:Nat) (Q:bu→Nat→Lk→Nat→Nat→Prop) (e:Ending) (w':World):Prop:=
 e= .returned .nilIface∧∃ tv V n f' T' K' F',dy w' sb p tv V (n:Nat)∧Mn.Own 0 w' tv V.tabs∧Dl Z B w' p r f' T' K' F'∧Rl B r w1 w'∧Qp f' n∧Q V n f' T' K'
theorem ajp {Z B N:Nat} {w:World} {p r:Nat} {f:Lk} {T K:Nat} {F:Nat→Prop} (h:Dl Z B w p r f T K F) (hN:cI N B w) {Q:bu→Nat→Lk→Nat→Nat→Prop} (hQ:∀ V n f' T' K',Q V n f' T' K'→n<N∧n<1000000∧K'<1000000000)
  (ajq:∀ w1 sb,Grow w w1→w.heap.size≤sb→dy w1 sb p (.slice none 0 0) cd 0→Calls Tryz.prog 89 #[.pointer (some ⟨sb,0,none⟩)] w1 (aAA Z B w1 p r sb Q)):
  Calls Tryz.prog 48 #[.pointer (some ⟨p,0,none⟩)] w fun e w'=>∃ sb,e= .returned (.tuple #[.pointer (some ⟨sb,0,none⟩),.nilIface])∧B≤sb∧∃ tv V n f' T' K' F',dy w' sb p tv V (n:Nat)∧Mn.Own 0 w' tv V.tabs∧Dl Z B w' p r f' T' K' F'∧Rl B r w w'∧Q V n f' T' K':=by
 have ai:=Grow.alloc w (.cells (setCells p (.slice none 0 0) cd 0) 154);have hS1:dy (w.alloc (.cells (setCells p (.slice none 0 0) cd 0) 154)) w.heap.size p (.slice none 0 0) cd 0:=aw w _;have Hop:=ae (ajq _ w.heap.size ai (ay _) hS1);have Xt:=h.base;have bT:=ae ai;have HN:=ae hN;have HQ:=ae hQ;clear ai hS1 ajq h hN hQ;go_enter Tryz.func48,Tryz.ntmps48
 go_upto_region 2 with fail
 have ajr:w.alloc (.cells (setCells p (.slice none 0 0) cd 0) 154)=w.alloc (.cells #[.pointer (some ⟨p,0,none⟩),.slice none 0 0,.int .u64 0,.int .i64 0,.int .i64 0,.int .i64 0] 154):=rfl;rw [ajr] at Hop bT;clear ajr;generalize w.alloc (.cells #[.pointer (some ⟨p,0,none⟩),.slice none 0 0,.int .u64 0,.int .i64 0,.int .i64 0,.int .i64 0] 154)=w1 at*;have ajs:B≤w.heap.size:=Xt;obtain ⟨sb,Xu⟩:∃ x,x=w.heap.size:=⟨_,rfl⟩
 rw [←Xu] at ajs;have Xv:=ae (Rl.grow (r:=r) bT.out Xt);rw [←Xu] at Hop ⊢;clear Xu Xt
 go_wp2_with fail
 (with_reducible refine Hop.out.mono ?_);rintro e w2 ⟨rfl,tv,V,n,f',T',K',F',nu,hown2,cn,hr2,nj,hq⟩;have jK:=ae nu;have Hj:=ae hown2;have rN:=ae cn;have pE:=ae (Xv.out.trans hr2);have aAB:=ae nj;have Hq:=ae hq;obtain ⟨hn,h6,hK⟩:=HQ.out _ _ _ _ _ hq;have xr:=ae (HN.out.keep (w':=w2) (fun b hb=>(Xv.out.trans hr2).below.block b hb));clear nu hown2 cn hr2 nj hq Hop bT Xv HN HQ;obtain ⟨c0,_,_,_,_,_,ls⟩:=jK.out.cells;have hg3:=Grow.alloc w2 (.cells #[.string AG] 9);have Hl:=ae (aAy (rN.out.grow hg3) hK aAB.out (aw _ _));have kq:=ae hg3;clear hg3
 go_wp2_with fail
 (with_reducible refine Hl.out.mono ?_);rintro e w3 ⟨g,cap,rfl,hc,ej,hg4⟩;have gj:=kq.out.trans hg4;have Ln:=ae (jK.out.grow gj);have Jn:=ae (ek Hj.out gj);have AH:=ae (rN.out.grow gj);have BU:=ae (pE.out.trans (Rl.grow (r:=r) gj rN.out.base));have HN3:=ae (xr.out.grow gj rN.out.base);clear kq c0 ls hg4 gj jK Hj rN pE xr Hl;have Ht:=ae (aAz n w3);have Ha:=ae (aaR h6 w3)
 go_wp2_with fail
 refine wp_loop_rounds 2 ?_;rw [rounds_succ]
 go_wp2_with fail
 (with_reducible refine Ht.out.mono ?_);rintro e w4 ⟨rfl,hw4⟩;have aAC:=hw4.symm;subst aAC;clear hw4
 go_wp2_with fail
 (with_reducible refine Ha.out.mono ?_);rintro e w5 ⟨rfl,aO⟩;have qL:=ae (Ln.out.grow aO);have Ny:=ae (ek Jn.out aO);have oA:=ae (AH.out.grow aO);have tM:=ae (BU.out.trans (Rl.grow (r:=r) aO AH.out.base));have Hm:=ae (IG (HN3.out.grow aO AH.out.base) hn h6);have hn9:(n:Int)≤999999999:=by omega
 clear aO Ln Jn AH BU HN3 Ht Ha hc ej
 go_wp2_with fail
 (with_reducible refine Hm.out.mono ?_);rintro e w6 ⟨rfl,cM⟩;obtain ⟨_,_,_,_,_,c5,ls⟩:=(qL.out.grow cM).cells;have Ge:=ae (qL.out.grow cM);have NA:=ae (ek Ny.out cM);have Qk:=ae (oA.out.grow cM);have Ql:=ae (tM.out.trans (Rl.grow (r:=r) cM oA.out.base));clear cM qL Ny oA tM Hm
 go_wp2_with fail
 rw [rounds_succ];go_wp2;go_ret2;exact ⟨sb,rfl,ajs,tv,V,n,f',T',K',F',Ge.out,NA.out,Qk.out,Ql.out,Hq.out⟩
end Go.Proofs.YtoolkdapflaeeaaGreatDoor
