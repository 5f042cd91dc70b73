/- Helpers. -/
import Derived.Test.YtoolkdapflaeeaaGreatDoorW0O
import Derived.Deep.CutRange
import Derived.Deep.DeepCutAuto
set_option maxRecDepth 100000
set_option maxHeartbeats 16000000
namespace Go.Proofs.YtoolkdapflaeeaaGreatDoor
open Go.RowKit Go.Gl Go.aH Go.Sort Mn
theorem Qr:∀ {V:Vw},lK V→∀ e∈V,cH e.1 V=some e.2
 |e0::V,hN,e,he=>by
  rw [eF];rcases List.mem_cons.1 he with rfl|h
  ·rw [if_pos rfl]
  ·rw [if_neg (hN.head e h)]
   exact Qr hN.tail e h
theorem aAD {V:Vw} (hN:lK V) {n:ByteArray} {b:List UInt8} {s:Nat} (hl:cH n V=some (b,s)) (hs:s=b.length):mX n b.length V=V:=by
 unfold mX;refine (List.map_congr_left (g:=id) fun e he=> ?_).trans (List.map_id V);by_cases h1:e.1=n
 ·rw [if_pos h1]
  have h2:=Qr hN e he;rw [h1,hl] at h2;obtain ⟨e1,e2,e3⟩:=e;cases h2;subst hs;simp only [id,List.take_length]
 ·rw [if_neg h1];rfl
theorem Xw {picks:List Int} {V:Vw} (hN:lK V) (hs:∀ e∈V,e.2.2=e.2.1.length):∀ (ns:List (List UInt8)) (i:Nat),yU picks i ns V=V
 | [],_=>rfl
 |n::ns,i=>by
  unfold yU;cases hl:cH ⟨n.toArray⟩ V with
  |none=>exact Xw hN hs ns (i+1)
  |some q=>
   obtain ⟨b,s⟩:=q;have uj:s=b.length:=by
    obtain ⟨e,he,h2⟩:=List.mem_map.1 (Qo.1 (show cH ⟨n.toArray⟩ V≠none by rw [hl];simp));have h3:=Qr hN e he;rw [h2,hl] at h3;have h4:=hs e he;rw [←bB h3] at h4;exact h4
   have hk:uO picks i b.length s=b.length:=by
    have:=aaF picks i (Nat.le_of_eq uj);omega
   show yU picks (i+1) ns (mX _ (uO picks i b.length s) V)=V;rw [hk,aAD hN hl uj];exact Xw hN hs ns (i+1)
theorem aAE {Z B:Nat} {w:World} {p r:Nat} {f:Lk} {T K:Nat} {F:Nat→Prop} (h:Dl Z B w p r f T K F) (hK:K<1000000000) (hs:∀ n q,f n=some q→q.2=q.1.length) {pv:Value} {picks:List Int} (hp:Iv w pv picks) (nZ:picks≠ []→Sx F pv):
  Calls Tryz.prog 38 #[.pointer (some ⟨p,0,none⟩),pv] w fun e w'=>e= .returned (.tuple #[])∧mZ Z B w p r F w' f T K:=by
 obtain ⟨V,hd,rfl,rfl,hV⟩:=h;have hN:=hd.names;have hsV:∀ e∈V,e.2.2=e.2.1.length:=fun e he=>hs e.1 e.2 (Qr hN e he)
 obtain ⟨hZ,h0,born,fs,h1,rfl,rfl⟩:=hd;refine (apL h1 (by omega) (by simp [vw] at hV;omega) hp nZ).mono ?_;rintro e w' ⟨he,br,mN,ku,hv⟩;rw [Xw hN hsV] at hv;exact ⟨he,_,⟨_,⟨hZ,by rw [hv];exact h0,born,br,mN,rfl,rfl⟩,by rw [hv],by rw [hv],by rw [hv];exact hV⟩,ku⟩
theorem aju (Z:Nat) (w:World) (h1:1≤Z) (h2:Z≤1073741824):
  Calls Tryz.prog 20 #[.int .i64 (Z:Int)] w fun e w'=>e= .returned (.tuple #[.pointer (some ⟨w.heap.size+1,0,none⟩),.int .i64 0])∧(∃ F,Dl Z w.heap.size w' (w.heap.size+1) w.heap.size (fun _=>none) 0 0 F)∧Grow w w':=by
 refine (aoG (Z:Int) w (by omega) (by omega)).mono ?_;rintro e w' ⟨rfl,hd,hg⟩;exact ⟨rfl,⟨_,[],⟨by omega,bk _,0,[],hd,rfl,rfl⟩,rfl,rfl,ay _⟩,hg⟩
end Go.Proofs.YtoolkdapflaeeaaGreatDoor
namespace Go.Proofs.YtoolkdapflaeeaaGreatDoor
open Go.RowKit Go.Gl Go.aH Mn
abbrev kJ (es:List cr):List UInt8:=bP aq (es.map cP)
theorem aAG (es:List cr) (e:cr):kJ (es++ [e])=kJ es++bw aq (cP e):=by simp [kJ,bP]
abbrev fX (size:Nat) (l:List En):List UInt8:=fN (dM size [] l) l.length (dn l)
abbrev jx (b:Nat×List Wr):List UInt8:=lF b.1 b.2
abbrev ib (LL:List (List (Nat×List Wr))):List (List (List UInt8)):=LL.map (List.map jx)
def aS (LL:List (List (Nat×List Wr))):List En:=LL.flatten.foldl (fun l b=>gw b.1 b.2 l) []
structure pZ (l:List En):Prop where
 ord:cQ l
 gone:CJ l
 ok:∀ x∈l,De x
structure Lp (b:Nat×List Wr):Prop where
 seq:b.1<18446744073709551616
 len:b.2.length≤100000
 bytes:bD b.2≤50000000
 keys:∀ y∈b.2,y.key.size≤65535∧y.val.length≤33554432
theorem pZ.put {l:List En} (h:pZ l) {x:En} (hx:De x) (hg:x.gone=true→x.val= []):pZ (jt x l):=by
 refine ⟨Uz h.ord,fun e he=> ?_,fun e he=> ?_⟩
 ·rcases (Uy h.ord).1 he with rfl|⟨h1,_⟩
  ·exact hg
  ·exact h.gone e h1
 ·rcases (Uy h.ord).1 he with rfl|⟨h1,_⟩
  ·exact hx
  ·exact h.ok e h1
theorem aAH {s:Nat} {y:Wr} (hs:s<18446744073709551616) (hk:y.key.size≤65535∧y.val.length≤33554432):De (ia s y)∧((ia s y).gone=true→(ia s y).val= []):=by
 refine ⟨⟨hk.1,hs,?_⟩,fun h=> ?_⟩
 ·unfold ia;dsimp only;split
  ·exact bk _
  ·exact hk.2
 ·unfold ia at h ⊢;dsimp only at h ⊢;rw [if_pos h]
theorem pZ.lay {s:Nat} (hs:s<18446744073709551616):∀ {ws:List Wr} {l:List En},(∀ y∈ws,y.key.size≤65535∧y.val.length≤33554432)→pZ l→pZ (gw s ws l)
 | [],_,_,h=>h
 |y::ws,l,hk,h=>by
  obtain ⟨h1,h2⟩:=aAH hs (hk y (eQ ..));rw [aeZ];exact pZ.lay hs (fun z hz=>hk z (gz _ hz)) (h.put h1 h2)
theorem aAI:pZ []:=⟨List.Pairwise.nil,fun _ h=>(by cases h),fun _ h=>(by cases h)⟩
theorem ajv:∀ {bs:List (Nat×List Wr)} {l:List En},(∀ b∈bs,Lp b)→pZ l→pZ (bs.foldl (fun l b=>gw b.1 b.2 l) l)
 | [],_,_,h=>h
 |b::bs,l,hb,h=>by
  have h1:=hb b (eQ ..);rw [List.foldl_cons];exact ajv (fun x hx=>hb x (gz _ hx)) (h.lay h1.seq h1.keys)
theorem aAJ {LL:List (List (Nat×List Wr))} (h:∀ b∈LL.flatten,Lp b):pZ (aS LL):=ajv h aAI
theorem Qs (LL:List (List (Nat×List Wr))) (bs:List (Nat×List Wr)) (b:Nat×List Wr):aS (LL++ [bs++ [b]])=gw b.1 b.2 (aS (LL++ [bs])):=by
 simp [aS]
theorem Qt (LL:List (List (Nat×List Wr))):aS (LL++ [[]])=aS LL:=by simp [aS]
structure dP where
 V:bu
 LL:List (List (Nat×List Wr))
 az:Int→List En
 es:List cr
structure vX (size:Nat) (f:Lk) (s:dP):Prop where
 cur:f rR=some (jJ 0,(jJ 0).length)
 Gh:f (cD 0)=some (kJ s.es,(kJ s.es).length)
 tmp:f pg=none
 one:Qp f 0
 all:eZ cd s.es=(0,s.V)
 good:Good s.V
 Gi:∀ e∈s.es,zm e∧e.drop.length≤10000∧(cP e).length≤67108864
 tabs:∀ x∈s.V.tabs,f (dF x.file.toNat)=some (fX size (s.az x.file),(fX size (s.az x.file)).length)
 only:∀ k:ByteArray,Lib.hasPrefix k.data.toList FC=true→f k≠none→∃ x∈s.V.tabs,k=dF x.file.toNat
 az:∀ x∈s.V.tabs,s.az x.file≠ []∧pZ (s.az x.file)
 files:∀ x∈s.V.tabs,x.file<s.V.next
theorem Gj {l p q:List UInt8} {a b:UInt8} (h:Lib.hasPrefix l (a::p)=true) (hab:a≠b):Lib.hasPrefix l (b::q)=false:=by
 cases l with
 |nil=>rfl
 |cons c l=>
  simp only [Lib.hasPrefix,List.isPrefixOf,Bool.and_eq_true,beq_iff_eq,Bool.and_eq_false_iff,beq_eq_false_iff_ne] at h ⊢;exact .inl (fun e=>hab (h.1.trans e.symm))
theorem ajw:sM=119:: [97,108,45]:=by decide
theorem ajx {l:List UInt8} (h:Lib.hasPrefix l FC=true):Lib.hasPrefix l sM=false:=by rw [ajw];exact Gj h (by decide)
theorem ajy {l:List UInt8} (h:Lib.hasPrefix l qp=true):Lib.hasPrefix l sM=false:=by rw [ajw];exact Gj (p:= [97,110,105,102,101,115,116,45]) h (by decide)
theorem Xx:Lib.hasPrefix (rR).data.toList sM=false:=by decide
theorem ajz:Lib.hasPrefix (pg).data.toList sM=false:=by decide
theorem Lq (n:Nat):Lib.hasPrefix (dF n).data.toList FC=true:=by unfold dF FC Lib.hasPrefix;simp [List.isPrefixOf]
theorem Xy (m n:Nat):dF m≠cD n:=fun e=>by
 have h1:=Lq m;rw [e] at h1;have h2:=Gj (b:=109) (q:= [97,110,105,102,101,115,116,45]) (a:=116) (p:= [45]) h1 (by decide);have h3:=Qq n;exact absurd (h2.symm.trans h3) (by decide)
theorem ajA {m n:Nat} (h:dF m=dF n):m=n:=by
 have h2:=congrArg (fun x=>x.data.toList) h;simp only [dF,List.toList_toArray] at h2;have h3:=List.append_cancel_left h2;have:cD m=cD n:=by unfold cD;rw [h3]
 exact apV this
theorem vX.Xz {size:Nat} {f f':Lk} {s:dP} (h:vX size f s) (hf:∀ n:ByteArray,Lib.hasPrefix n.data.toList sM=false→f' n=f n):vX size f' s:=by
 refine ⟨(hf _ Xx).trans h.cur,(hf _ (Az 0)).trans h.Gh,(hf _ ajz).trans h.tmp,⟨by rw [hf _ (Az 0)];exact h.one.1,fun k hk hn=>h.one.2 k hk (by rw [←hf k (ajy hk)];exact hn)⟩,h.all,h.good,h.Gi,fun x hx=>(hf _ (uo _)).trans (h.tabs x hx),fun k hk hn=>h.only k hk (by rw [←hf k (ajx hk)];exact hn),h.az,h.files⟩
def bO (s:dP) (seq:Nat) (D:Nat) (k0 k1:ByteArray) (aj:Nat):cr:=⟨[⟨s.V.next,0,k0,k1,(D:Int)⟩],[],(seq:Int),s.V.next+1,(aj:Int)⟩
def jy (s:dP) (E:cr):dP:=⟨(aV s.V E).2,[[]],fun k=>if k=s.V.next then aS s.LL else s.az k,s.es++ [E]⟩
theorem aAK (l:List Tb):l.filter (gK [])=l:=List.filter_eq_self.2 (fun _ _=>rfl)
theorem Lr {s:dP} {seq D aj:Nat} {k0 k1:ByteArray} (h0:(aV s.V (bO s seq D k0 k1 aj)).1=0):(aV s.V (bO s seq D k0 k1 aj)).2.tabs.Perm (s.V.tabs++ [⟨s.V.next,0,k0,k1,(D:Int)⟩]):=by
 have h:=BO h0;rw [h.tabs];have h2:=zb (s.V.tabs.filter (gK (bO s seq D k0 k1 aj).drop)++(bO s seq D k0 k1 aj).add);refine h2.trans ?_;rw [show (bO s seq D k0 k1 aj).drop= [] from rfl,aAK];exact List.Perm.refl _
theorem ajB {s:dP} {seq D aj:Nat} {k0 k1:ByteArray} (h0:k0.size≤65535) (h1:k1.size≤65535):(cP (bO s seq D k0 k1 aj)).length≤200000:=by
 have h:=abO (bO s seq D k0 k1 aj);have e1:(bO s seq D k0 k1 aj).add.length=1:=rfl;have e2:(bO s seq D k0 k1 aj).drop.length=0:=rfl;have e3:iC (bO s seq D k0 k1 aj).add=k0.size+k1.size:=by simp [iC,bO]
 omega
theorem ajC {s:dP} {seq D aj:Nat} {k0 k1:ByteArray} (hg:Good s.V) (hs:seq<18446744073709551616) (h0:k0.size≤65535) (h1:k1.size≤65535) (ha:(aV s.V (bO s seq D k0 k1 aj)).1=0):zm (bO s seq D k0 k1 aj):=by
 have e3:iC (bO s seq D k0 k1 aj).add=k0.size+k1.size:=by simp [iC,bO]
 refine arR hg (BO ha) ⟨?_,?_⟩ (by simp [bO]) (by simp [bO]) (by omega)
 ·show (0:Int)≤(seq:Int);omega
 ·show (seq:Int)<18446744073709551616;omega
theorem ajD {s:dP} (h:0≤s.V.next):cJ (s.V.next+1) s.V.next=s.V.next+1:=by
 unfold cJ;rw [if_neg (by omega)]
theorem vX.flush {size:Nat} {f f':Lk} {s:dP} (h:vX size f s) {n seq D aj:Nat} {k0 k1:ByteArray} (hn:s.V.next=(n:Int)) (hs:seq<18446744073709551616) (hD:D=(fX size (aS s.LL)).length) (h0:k0.size≤65535) (h1:k1.size≤65535) (ha:(aV s.V (bO s seq D k0 k1 aj)).1=0)
  (hne:aS s.LL≠ []) (hm:pZ (aS s.LL)) (hf:∀ k:ByteArray,Lib.hasPrefix k.data.toList sM=false→f' k=((f.set (dF n) (fX size (aS s.LL),(fX size (aS s.LL)).length)).set (cD 0) (kJ (s.es++ [bO s seq D k0 k1 aj]),(kJ (s.es++ [bO s seq D k0 k1 aj])).length)) k):
  vX size f' (jy s (bO s seq D k0 k1 aj)):=by
 have hp:=Lr ha;have cO:∀ x,x∈(jy s (bO s seq D k0 k1 aj)).V.tabs↔x∈s.V.tabs∨x=⟨s.V.next,0,k0,k1,(D:Int)⟩:=fun x=>by
  show x∈(aV s.V (bO s seq D k0 k1 aj)).2.tabs↔_;rw [hp.mem_iff,List.mem_append,cY]
 have tu:(jy s (bO s seq D k0 k1 aj)).V.next=s.V.next+1:=by
  show (aV s.V (bO s seq D k0 k1 aj)).2.next=_;rw [(BO ha).next];exact ajD (by omega)
 have eo:∀ x∈s.V.tabs,(jy s (bO s seq D k0 k1 aj)).az x.file=s.az x.file:=fun x hx=>if_neg (by have:=h.files x hx;omega)
 have en:(jy s (bO s seq D k0 k1 aj)).az s.V.next=aS s.LL:=if_pos rfl;have rB:∀ x∈s.V.tabs,dF x.file.toNat≠dF n:=fun x hx e=>by
  have h2:=ajA e;have h3:=h.files x hx;have h4:=(h.good.tabs x hx).file.1;omega
 refine ⟨?_,?_,?_,?_,?_,?_,?_,fun x hx=> ?_,fun k hk ju=> ?_,fun x hx=> ?_,fun x hx=> ?_⟩
 ·rw [hf _ Xx,fZ _ (Ne.symm (SE 0)),fZ _ (fun e=>by have:=Lq n;rw [←e] at this;revert this;decide)];exact h.cur
 ·rw [hf _ (Az 0),qw];rfl
 ·rw [hf _ ajz,fZ _ (Ne.symm (MJ 0)),fZ _ (fun e=>by have:=Lq n;rw [←e] at this;revert this;decide)];exact h.tmp
 ·refine ⟨by rw [hf _ (Az 0),qw];simp,fun k hk ju=> ?_⟩
  rw [hf k (ajy hk)] at ju;by_cases e:k=cD 0
  ·exact e
  ·rw [fZ _ e] at ju
   by_cases e2:k=dF n
   ·exfalso
    have h5:=Gj (b:=109) (q:= [97,110,105,102,101,115,116,45]) (a:=116) (p:= [45]) (Lq n) (by decide);rw [←e2] at h5;exact absurd (h5.symm.trans hk) (by decide)
   ·rw [fZ _ e2] at ju
    exact h.one.2 k hk ju
 ·have:=IU h.all ha (W:=(aV s.V (bO s seq D k0 k1 aj)).2) rfl
  simpa [jy] using this
 ·exact abV h.good ha ⟨by show (0:Int)≤(seq:Int);omega,by show (seq:Int)<18446744073709551616;omega⟩
 ·intro e he
  rcases List.mem_append.1 he with he|he
  ·exact h.Gi e he
  ·rw [cY.1 he]
   exact ⟨ajC h.good hs h0 h1 ha,by simp [bO],by have:= @ajB s seq D aj k0 k1 h0 h1;omega⟩
 ·rw [hf _ (uo _),fZ _ (Xy _ _)]
  rcases (cO x).1 hx with h2|rfl
  ·rw [fZ _ (rB x h2),eo x h2];exact h.tabs x h2
  ·dsimp only
   rw [en,hn,Int.toNat_natCast,qw]
 ·rw [hf k (ajx hk)] at ju
  by_cases e:k=cD 0
  ·exfalso
   rw [e] at hk;have h5:=Gj (b:=116) (q:= [45]) (a:=109) (p:= [97,110,105,102,101,115,116,45]) (Qq 0) (by decide);exact absurd (h5.symm.trans hk) (by decide)
  ·rw [fZ _ e] at ju
   by_cases e2:k=dF n
   ·exact ⟨_,(cO _).2 (.inr rfl),by dsimp only;rw [hn,Int.toNat_natCast];exact e2⟩
   ·rw [fZ _ e2] at ju
    obtain ⟨x,h6,h7⟩:=h.only k hk ju;exact ⟨x,(cO x).2 (.inl h6),h7⟩
 ·rcases (cO x).1 hx with h2|rfl
  ·rw [eo x h2];exact h.az x h2
  ·dsimp only;rw [en];exact ⟨hne,hm⟩
 ·rw [tu]
  rcases (cO x).1 hx with h2|rfl
  ·have:=h.files x h2;omega
  ·dsimp only;omega
theorem ajE:∀ (bs:List (Nat×List Wr)) (l:List En),costs (bs.foldl (fun l b=>gw b.1 b.2 l) l)≤costs l+16*(bs.map fun b=>b.2.length).sum+(bs.map fun b=>bD b.2).sum∧(bs.foldl (fun l b=>gw b.1 b.2 l) l).length≤l.length+(bs.map fun b=>b.2.length).sum
 | [],l=>⟨ay _,ay _⟩
 |b::bs,l=>by
  obtain ⟨h1,h2⟩:=ajE bs (gw b.1 b.2 l);obtain ⟨h3,h4⟩:=PA b.1 l b.2;rw [List.foldl_cons];simp only [List.map_cons,List.sum_cons];omega
theorem XA (l:List Nat) (i:Nat):(l.take i).sum≤l.sum:=by
 conv=>rhs;rw [←List.take_append_drop i l,List.sum_append]
 omega
structure uu (A C i:Nat) (s:dP):Prop where
 pV:(aS s.LL).length+(s.V.tabs.map fun x=>(s.az x.file).length).sum≤A
 cost:costs (aS s.LL)+(s.V.tabs.map fun x=>costs (s.az x.file)).sum≤C
 vY:0≤s.V.aj
 aj:s.V.aj+(s.LL.length:Int)≤(i:Int)
 Dv:0≤s.V.next
 next:s.V.next≤(i:Int)
 el:s.es.length≤i
 adds:(s.es.map fun e=>e.add.length).sum≤i
 Dw:∀ b∈s.LL.flatten,Lp b
 Gk:s.LL.flatten.length≤i
 Ls:(s.LL.flatten.map fun b=>b.2.length).sum≤A
 Lt:(s.LL.flatten.map fun b=>bD b.2).sum≤C
theorem uu.more {A C i A' C' i':Nat} {s:dP} (h:uu A C i s) (hA:A≤A') (hC:C≤C') (hi:i≤i'):uu A' C' i' s:=
 ⟨aN h.pV hA,aN h.cost hC,h.vY,by have:=h.aj;omega,h.Dv,by have:=h.next;omega,aN h.el hi,aN h.adds hi,h.Dw,aN h.Gk hi,aN h.Ls hA,aN h.Lt hC⟩
theorem uu.flush {A C i size:Nat} {f:Lk} {s:dP} (h:uu A C i s) (hr:vX size f s) {seq D aj:Nat} {k0 k1:ByteArray} (ha:(aV s.V (bO s seq D k0 k1 aj)).1=0) (XB:(aj:Int)+1≤(i+1:Nat)):uu A C (i+1) (jy s (bO s seq D k0 k1 aj)):=by
 have hp:=Lr ha;have hV:(jy s (bO s seq D k0 k1 aj)).V=(aV s.V (bO s seq D k0 k1 aj)).2:=rfl;have hg:=abV hr.good ha;have m0:aS (jy s (bO s seq D k0 k1 aj)).LL= []:=rfl;have ajF:∀ (g:List En→Nat),((jy s (bO s seq D k0 k1 aj)).V.tabs.map fun x=>g ((jy s (bO s seq D k0 k1 aj)).az x.file)).sum=(s.V.tabs.map fun x=>g (s.az x.file)).sum+g (aS s.LL):=fun g=>by
  rw [hV,(hp.map _).sum_nat,List.map_append,List.sum_append];congr 1
  ·congr 1
   refine List.map_congr_left fun x hx=> ?_
   show g (if x.file=s.V.next then aS s.LL else s.az x.file)=_;rw [if_neg (by have:=hr.files x hx;omega)]
  ·simp [jy]
 have iI:(aV s.V (bO s seq D k0 k1 aj)).2.aj=cJ (aj:Int) s.V.aj:=(BO ha).aj;have fT:(aV s.V (bO s seq D k0 k1 aj)).2.next=s.V.next+1:=by rw [(BO ha).next];exact ajD h.Dv
 have hw0:=h.vY;have hw:=h.aj;have uS:cJ (aj:Int) s.V.aj=aj∨cJ (aj:Int) s.V.aj=s.V.aj:=by unfold cJ;split<;>simp
 refine ⟨?_,?_,?_,?_,?_,?_,?_,?_,fun b hb=> ?_,bk _,bk _,bk _⟩
 ·have:=h.pV;rw [m0,ajF List.length];simp only [List.length_nil];omega
 ·have:=h.cost;rw [m0,ajF costs];simp only [costs,List.map_nil,List.sum_nil] at*;omega
 ·rw [hV,iI];rcases uS with e|e<;>rw [e]<;>omega
 ·rw [hV,iI]
  have e1:(jy s (bO s seq D k0 k1 aj)).LL.length=1:=rfl;rw [e1];unfold cJ;split
  ·rename_i hz;omega
  ·omega
 ·rw [hV,fT];have:=h.Dv;omega
 ·rw [hV,fT];have:=h.next;omega
 ·have:=h.el;simp [jy];omega
 ·have:=h.adds;simp [jy,bO];omega
 ·simp [jy] at hb
end Go.Proofs.YtoolkdapflaeeaaGreatDoor
namespace Go.Proofs.YtoolkdapflaeeaaGreatDoor
open Go.RowKit Go.Gl Go.aH Mn
def dE (s:dP):List En:=aS s.LL++(s.V.tabs.map fun x=>s.az x.file).flatten
def mL (s:dP):Nat:=(s.LL.flatten.map (·.1)).foldl max s.V.seq.toNat
structure dI (Z B Nn A C i:Nat) (w:World) (t:Tr) (f:Lk) (T K:Nat) (s:dP):Prop where
 tree:cz Z B Nn w t f T K
 V:t.V=s.V
 gy:vX t.o.block.toNat f s
 log:fG f s.V.aj.toNat (fB (ib s.LL))
 sync:∀ n q,f n=some q→q.2=q.1.length
 lim:uu A C i s
 mem:t.ns.map (fun n=>n.x.e)=aS s.LL
 m:(t.m:Int)+1=s.V.aj+(s.LL.length:Int)
 ne:s.LL≠ []
 ld:∀ x∈s.V.tabs,∃ b,t.ld x.file=some (b,s.az x.file)
 opt:pY t.o
 seq:t.seq=mL s
 uw:t.seq≤i
 vZ:Cy (dE s)
 top:∀ e∈dE s,e.seq≤t.seq
 K:K≤10*i
variable {Z B Nn A C i:Nat} {w w':World} {t:Tr} {f:Lk} {T K:Nat} {s:dP}
theorem dI.grow (h:dI Z B Nn A C i w t f T K s) (hg:Grow w w'):dI Z B Nn A C i w' t f T K s:={h with tree:=h.tree.grow hg}
theorem dI.Gm (h:dI Z B Nn A C i w t f T K s):pZ (aS s.LL):=aAJ h.lim.Dw
theorem foldl_max:∀ (l:List Nat) (a:Nat),a≤l.foldl max a∧∀ x∈l,x≤l.foldl max a
 | [],a=>⟨ay _,fun _ h=>by cases h⟩
 |y::l,a=>by
  obtain ⟨h1,h2⟩:=foldl_max l (max a y);rw [List.foldl_cons];refine ⟨by omega,fun x hx=> ?_⟩;rcases List.mem_cons.1 hx with rfl|hx
  ·omega
  ·exact h2 x hx
theorem dI.aAL (h:dI Z B Nn A C i w t f T K s):0≤s.V.seq∧s.V.seq≤(t.seq:Int):=by
 have h1:=(foldl_max (s.LL.flatten.map (·.1)) s.V.seq.toNat).1;have h2:=h.seq;unfold mL at h2;have h3:=h.gy.good.seq.1;omega
theorem dI.last (h:dI Z B Nn A C i w t f T K s):∃ eW bs,s.LL=eW++ [bs]∧t.m=s.V.aj.toNat+eW.length∧f (bp bU t.m)=some (bP aq (bs.map jx),(bP aq (bs.map jx)).length)∧f (bp bU (t.m+1))=none:=by
 obtain ⟨eW,bs,mM⟩:∃ eW bs,s.LL=eW++ [bs]:=⟨_,_,(List.dropLast_concat_getLast h.ne).symm⟩
 have hm:=h.m;have hw:=h.lim.vY;rw [mM] at hm;simp only [List.length_append,List.length_cons,List.length_nil] at hm;have Qu:t.m=s.V.aj.toNat+eW.length:=by omega
 have vq:=h.log;rw [mM] at vq;refine ⟨eW,bs,mM,Qu,?_,?_⟩
 ·rw [Qu]
  exact vq.there eW.length _ (by simp)
 ·rw [Qu]
  exact vq.none (.inr (by simp;omega))
theorem ajG {seq D aj:Nat} {k0 k1:ByteArray} (hr:∀ x∈s.V.tabs,x.file<s.V.next) (ha:(aV s.V (bO s seq D k0 k1 aj)).1=0):∀ e,e∈dE (jy s (bO s seq D k0 k1 aj))↔e∈dE s:=by
 have hp:=Lr ha;intro e;unfold dE;rw [show aS (jy s (bO s seq D k0 k1 aj)).LL= [] from rfl,List.nil_append,List.mem_append,List.mem_flatten,List.mem_flatten];have eo:∀ x∈s.V.tabs,(jy s (bO s seq D k0 k1 aj)).az x.file=s.az x.file:=fun x hx=>if_neg (by have:=hr x hx;omega)
 have en:(jy s (bO s seq D k0 k1 aj)).az s.V.next=aS s.LL:=if_pos rfl;constructor
 ·rintro ⟨l,hl,he⟩
  obtain ⟨x,hx,rfl⟩:=List.mem_map.1 hl;rcases List.mem_append.1 (hp.mem_iff.1 hx) with h2|h2
  ·rw [eo x h2] at he
   exact .inr ⟨_,List.mem_map.2 ⟨x,h2,rfl⟩,he⟩
  ·rw [cY.1 h2] at he
   dsimp only at he;rw [en] at he;exact .inl he
 ·rintro (he|⟨l,hl,he⟩)
  ·exact ⟨_,List.mem_map.2 ⟨⟨s.V.next,0,k0,k1,(D:Int)⟩,hp.mem_iff.2 (mg _ (List.mem_singleton_self _)),rfl⟩,by dsimp only;rw [en];exact he⟩
  ·obtain ⟨x,hx,rfl⟩:=List.mem_map.1 hl
   exact ⟨_,List.mem_map.2 ⟨x,hp.mem_iff.2 (List.mem_append_left _ hx),rfl⟩,by rw [eo x hx];exact he⟩
theorem Cy.congr {a b:List En} (h:Cy a) (hab:∀ e,e∈b↔e∈a):Cy b:=fun x hx y hy hs=>h x ((hab x).1 hx) y ((hab y).1 hy) hs
theorem Qv:∀ l:List En,(aZ l).length≤costs l+15*l.length
 | []=>by simp [aZ]
 |e::l=>by
  have h1:=Qv l;have h2:=lO e.key.data.toList;have h3:=lO e.val;have h4:=cf e.seq;have e1:e.key.data.toList.length=e.key.size:=by rw [Array.length_toList];rfl
  have h5:aZ (e::l)=nH e++aZ l:=by simp [aZ]
  rw [h5];simp only [nH,List.length_append,List.length_cons,costs,List.map_cons,List.sum_cons,iE] at*;omega
theorem uu.aAM (h:uu A C i s):uu A C (i+1) s:=h.more (ay _) (ay _) (Nat.le_succ i)
theorem dI.more (h:dI Z B Nn A C i w t f T K s) {i':Nat} (hi:i≤i'):dI Z B Nn A C i' w t f T K s:=
 {h with lim:=h.lim.more (ay _) (ay _) hi,uw:=aN h.uw hi,K:=by have:=h.K;omega}
def qd (f:Lk):Prop:=∀ n q,f n=some q→q.2=q.1.length
theorem qd.set {f:Lk} (h:qd f) (n:ByteArray) (x:List UInt8):qd (f.set n (x,x.length)):=fun m q hq=>by
 unfold Lk.set at hq
 split at hq
 ·cases hq;rfl
 ·exact h m q hq
theorem qd.del {f:Lk} (h:qd f) (n:ByteArray):qd (f.del n):=fun m q hq=>by
 unfold Lk.del at hq
 split at hq
 ·cases hq
 ·exact h m q hq
theorem qd.nC {f:Lk} (h:qd f) (nm:List UInt8) (a:Nat):∀ j,qd (nC nm a f j)
 |0=>h
 |j+1=>(h.nC nm a j).del _
theorem rf {k:ByteArray} (h:Lib.hasPrefix k.data.toList sM=false) (n:Nat):k≠bp bU n:=fun e=>by
 rw [e] at h;exact absurd (h.symm.trans (NK n)) (by decide)
theorem dI.put (h:dI Z B Nn A C i w t f T K s) {w':World} {t':Tr} {f':Lk} {T' K':Nat} (ht:cz Z B Nn w' t' f' T' K') (hV:t'.V=t.V) (ho:t'.o=t.o) (iT:t'.ns=t.ns) (hm:t'.m=t.m) (jz:t'.ld=t.ld) (dh:t'.seq=t.seq) (hf:f'=f) (hK:K'≤K+10):dI Z B Nn A C (i+1) w' t' f' T' K' s:=by
 subst hf;exact ⟨ht,by rw [hV];exact h.V,by rw [ho];exact h.gy,h.log,h.sync,h.lim.aAM,by rw [iT];exact h.mem,by rw [hm];exact h.m,h.ne,by rw [jz];exact h.ld,by rw [ho];exact h.opt,by rw [dh];exact h.seq,by rw [dh];have:=h.uw;omega,h.vZ,by rw [dh];exact h.top,by have:=h.K;omega⟩
theorem aAN (LL:List (List (Nat×List Wr))):fB (ib (LL++ [[]]))=fB (ib LL)++ [[]]:=by simp [bP]
theorem yh (LL:List (List (Nat×List Wr))):(fB (ib LL)).length=LL.length:=by simp
theorem XC (V:bu) (LL:List (List (Nat×List Wr))) (az:Int→List En) (es:List cr):dE ⟨V,LL++ [[]],az,es⟩=dE ⟨V,LL,az,es⟩:=by unfold dE;rw [Qt]
theorem aAO (V:bu) (LL:List (List (Nat×List Wr))) (az:Int→List En) (es:List cr):mL ⟨V,LL++ [[]],az,es⟩=mL ⟨V,LL,az,es⟩:=by unfold mL;simp
theorem dI.aAP (h:dI Z B Nn A C i w t f T K s) {w':World} {t':Tr} {f':Lk} {T' K':Nat} (ht:cz Z B Nn w' t' f' T' K') (hV:t'.V=t.V) (ho:t'.o=t.o) (iT:t'.ns=t.ns) (hm:t'.m=t.m+1) (jz:t'.ld=t.ld) (dh:t'.seq=t.seq) (hf:f'=f.set (bp bU (t.m+1)) ([],0)) (hK:K'≤K+10):dI Z B Nn A C (i+1) w' t' f' T' K' {s with LL:=s.LL++ [[]]}:=by
 subst hf;have jB:=h.m;have hw0:=h.lim.vY;have hl:=h.lim;refine ⟨ht,by rw [hV];exact h.V,?_,?_,qd.set h.sync _ [],?_,?_,?_,by simp,by rw [jz];exact h.ld,by rw [ho];exact h.opt,?_,by rw [dh];have:=h.uw;omega,?_,?_,by have:=h.K;omega⟩
 ·rw [ho]
  have h2:=h.gy.Xz (f':=f.set (bp bU (t.m+1)) ([],0)) (fun n hn=>fZ _ (rf hn _) _);exact ⟨h2.cur,h2.Gh,h2.tmp,h2.one,h2.all,h2.good,h2.Gi,h2.tabs,h2.only,h2.az,h2.files⟩
 ·have h3:=h.log.KX
  rw [yh,show s.V.aj.toNat+s.LL.length=t.m+1 from by omega] at h3;dsimp only;rw [aAN];exact h3
 ·exact ⟨by dsimp only;rw [Qt];exact hl.pV,by dsimp only;rw [Qt];exact hl.cost,hl.vY,by have:=hl.aj;simp only [List.length_append,List.length_cons,List.length_nil];omega,hl.Dv,by have:=hl.next;dsimp only;omega,by have:=hl.el;dsimp only;omega,by have:=hl.adds;dsimp only;omega,fun b hb=>hl.Dw b (by simpa using hb),by have:=hl.Gk;simp;simp at this;omega,by have:=hl.Ls;simpa using this,by have:=hl.Lt;simpa using this⟩
 ·dsimp only;rw [Qt,iT];exact h.mem
 ·rw [hm];simp only [List.length_append,List.length_cons,List.length_nil];omega
 ·rw [aAO,dh];exact h.seq
 ·rw [XC];exact h.vZ
 ·rw [XC,dh];exact h.top
theorem dI.aAQ (h:dI Z B Nn A C i w t f T K s) {w':World} {t':Tr} {f':Lk} {T' K' n:Nat} {k0 k1:ByteArray} {b:Nat} (hn:s.V.next=(n:Int)) (hs:t.seq<18446744073709551616) (h0:k0.size≤65535) (h1:k1.size≤65535)
  (ha:(aV s.V (bO s t.seq (fX t.o.block.toNat (aS s.LL)).length k0 k1 (t.m+1))).1=0) (hne:aS s.LL≠ [])
  (ht:cz Z B Nn w' t' f' T' K') (hV:t'.V=(aV s.V (bO s t.seq (fX t.o.block.toNat (aS s.LL)).length k0 k1 (t.m+1))).2) (ho:t'.o=t.o) (iT:t'.ns= []) (hm:t'.m=t.m+1) (jz:t'.ld=fun k=>if k=(n:Int) then some (b,aS s.LL) else t.ld k) (dh:t'.seq=t.seq)
  (hf:f'=nC bU s.V.aj.toNat (((f.set (dF n) (fX t.o.block.toNat (aS s.LL),(fX t.o.block.toNat (aS s.LL)).length)).set (bp bU (t.m+1)) ([],0)).set (cD 0) (kJ s.es++bw aq (cP (bO s t.seq (fX t.o.block.toNat (aS s.LL)).length k0 k1 (t.m+1))),(kJ s.es++bw aq (cP (bO s t.seq (fX t.o.block.toNat (aS s.LL)).length k0 k1 (t.m+1)))).length)) s.LL.length)
  (hK:K'≤K+10):dI Z B Nn A C (i+1) w' t' f' T' K' (jy s (bO s t.seq (fX t.o.block.toNat (aS s.LL)).length k0 k1 (t.m+1))):=by
 obtain ⟨E,hE⟩:∃ E,E=bO s t.seq (fX t.o.block.toNat (aS s.LL)).length k0 k1 (t.m+1):=⟨_,rfl⟩
 have jB:=h.m;have hw0:=h.lim.vY;have hl:=h.lim;have hvs:=h.aAL;have cC:=BO ha;have hLp:0<s.LL.length:=List.length_pos_iff.2 h.ne;have aAR:vX t.o.block.toNat f' (jy s (bO s t.seq (fX t.o.block.toNat (aS s.LL)).length k0 k1 (t.m+1))):=by
  refine h.gy.flush hn hs rfl h0 h1 ha hne h.Gm (fun k hk=> ?_);rw [hf,EO _ _ _ _ (fun j _=>rf hk _),aAG];unfold Lk.set;split
  ·rfl
  ·rw [if_neg (rf hk _)]
 have XB:(aV s.V (bO s t.seq (fX t.o.block.toNat (aS s.LL)).length k0 k1 (t.m+1))).2.aj=((t.m+1:Nat):Int):=by
  rw [cC.aj];show cJ ((t.m+1:Nat):Int) s.V.aj=_;unfold cJ;rw [if_neg (by omega)]
 have hseq:(aV s.V (bO s t.seq (fX t.o.block.toNat (aS s.LL)).length k0 k1 (t.m+1))).2.seq=(t.seq:Int):=by
  rw [cC.seq];show cJ (t.seq:Int) s.V.seq=_;unfold cJ;split
  ·rename_i hz;omega
  ·rfl
 have hall:=ajG h.gy.files ha;have rB:∀ x∈s.V.tabs,x.file≠(n:Int):=fun x hx=>by have:=h.gy.files x hx;omega
 refine ⟨ht,hV,by rw [ho];exact aAR,?_,?_,hl.flush h.gy ha ?_,by rw [iT];rfl,?_,by simp [jy],fun x hx=> ?_,by rw [ho];exact h.opt,?_,by rw [dh];have:=h.uw;omega,h.vZ.congr hall,fun e he=>by rw [dh];exact h.top e ((hall e).1 he),by have:=h.K;omega⟩
 ·have h3:=(((h.log.Qb (uo n) (fX t.o.block.toNat (aS s.LL),(fX t.o.block.toNat (aS s.LL)).length)).KX).Qb (Az 0) (kJ s.es++bw aq (cP (bO s t.seq (fX t.o.block.toNat (aS s.LL)).length k0 k1 (t.m+1))),(kJ s.es++bw aq (cP (bO s t.seq (fX t.o.block.toNat (aS s.LL)).length k0 k1 (t.m+1)))).length)).drop s.LL.length
  rw [yh,show s.V.aj.toNat+s.LL.length=t.m+1 from by omega] at h3;rw [hf];show fG _ (aV s.V _).2.aj.toNat (fB (ib [[]]));rw [XB,Int.toNat_natCast];have e1:(fB (ib s.LL)++ [[]]).drop s.LL.length=fB (ib [[]]):=by
   rw [List.drop_append_of_le_length (by rw [yh];exact ay _),List.drop_eq_nil_of_le (by rw [yh];exact ay _)];simp [bP]
  rw [e1] at h3;exact h3
 ·rw [hf]
  exact ((((qd.set h.sync _ _).set _ []).set _ _).nC _ _ _)
 ·have:=hl.aj;omega
 ·rw [hm]
  show ((t.m+1:Nat):Int)+1=(aV s.V _).2.aj+_;rw [XB];rfl
 ·rw [jz]
  rcases List.mem_append.1 ((Lr ha).mem_iff.1 hx) with h2|h2
  ·obtain ⟨b',hb'⟩:=h.ld x h2
   refine ⟨b',?_⟩;dsimp only;rw [if_neg (rB x h2),hb'];show _=some (b',if x.file=s.V.next then aS s.LL else s.az x.file);rw [if_neg (by rw [hn];exact rB x h2)]
  ·rw [cY.1 h2]
   refine ⟨b,?_⟩;dsimp only;rw [if_pos hn];show _=some (b,if s.V.next=s.V.next then aS s.LL else _);rw [if_pos rfl]
 ·rw [dh]
  show t.seq=mL _;unfold mL;show t.seq=([]:List Nat).foldl max (aV s.V _).2.seq.toNat;rw [hseq];simp
end Go.Proofs.YtoolkdapflaeeaaGreatDoor
namespace Go.Proofs.YtoolkdapflaeeaaGreatDoor
open Go.RowKit Go.Gl Go.aH Mn
theorem dT.drv {w:World} {db sb:Nat} {o:Od} {drv lv:Value} {mb tm seq hm:Nat} (h:dT w db sb o drv lv mb tm seq hm):w.cell? ⟨db,6,none⟩=some drv:=by unfold dT at h;simp [World.cell?,h]
def aAS (Z B Nn A C i:Nat) (w:World) (t:Tr) (T:Nat) (s:dP) (e:Ending) (w':World):Prop:=
 ∃ (c:Nat) (t':Tr) (f':Lk) (T' K':Nat) (s':dP),e= .returned (.int .i64 (c:Int))∧eC w t w' t'∧dI Z B Nn A C (i+1) w' t' f' T' K' s'∧(∀ x,x∈dE s'↔x∈dE s)∧t'.seq=t.seq∧t'.hh=t.hh∧t'.hn=t.hn∧
  s'.V.tabs.length≤s.V.tabs.length+1∧
  (c=0∨c=5∧(Z<T+(fX t.o.block.toNat (aS s.LL)).length+300000∨∃ k0 k1,(aS s.LL)[0]?.map En.key=some k0∧(aS s.LL)[(aS s.LL).length-1]?.map En.key=some k1∧(aV s.V (bO s t.seq (fX t.o.block.toNat (aS s.LL)).length k0 k1 (t.m+1))).1≠0))∧
  T'≤T+(fX t.o.block.toNat (aS s.LL)).length+300000
theorem aAT {N:Nat→Prop} {B:Nat} {x:En} {v:Array Value} {W:World} (h:Ra B x v W):∃ y,v=#[.agg (bQ y)]∧y.e=x∧nQ N B W y:=by
 obtain ⟨sv,rfl,h⟩:=h;refine ⟨⟨x,sv⟩,rfl,rfl,cy h,.inr (fun b hb=> .inr ⟨(h.lt hb).1,?_⟩)⟩;obtain ⟨cur,hc⟩:=h.block hb;exact ⟨cur,_,hc⟩
theorem aAU {B B':Nat} (x:En) (v:Array Value):OwnFrom B (fun (_:Unit) W=>Ra B' x v W):=by
 rintro _ W W' row ⟨sv,h1,h2⟩ hg hr;refine ⟨sv,h1,h2.keep (fun b hb=> ?_)⟩;obtain ⟨cur,hc⟩:=h2.block hb;rw [sD hg hr hc,hc]
theorem aAV {N:Nat→Prop} {w w1:World} {l:List En} {e:Ending} (h:OX N w l e w1 180) (hN:∀ b,N b→b<w.heap.size) (hlen:l.length≤1000000000) (hval:∀ x∈l,x.val.length≤1000000000000):
  ∃ Bl,e= .returned (.func (.func 180) #[] #[.pointer (some ⟨Bl,0,none⟩)])∧Grow w w1∧Calls Tryz.prog 58 #[.func (.func 180) #[] #[.pointer (some ⟨Bl,0,none⟩)]] w1 fun e w'=>∃ v ys,e= .returned v∧ys.map Ev.e=l∧dt w1.heap.size NF w' v ys∧Grow w1 w':=by
 obtain ⟨Bl,ys,v,he,hBl,hc,bJ,hrow,hg⟩:=h;refine ⟨Bl,he,hg,?_⟩;have hes:Es (fun b=>(N b∨w.heap.size≤b)∧b<w1.heap.size) w1 v ys:=(hrow.es (M:=fun b=>N b∨w.heap.size≤b) (fun b hb=>hb)).lt;have hseq:=awY hes (by rw [←bJ,List.length_map] at hlen;exact hlen) (fun y hy=>hval _ (by rw [←bJ];exact List.mem_map.2 ⟨y,hy,rfl⟩)) hc ⟨.inr hBl,af hc⟩;rw [bJ] at hseq;refine (agb (N:=NF) (fun x:En=>x) (enters_of Tryz.func180 (by kernel_rfl) rfl) hseq (fun b hb=>hb.2) (fun b hb=>hb.elim) (fun x v W h=>aAT h) (fun x v=>aAU x v) hlen).mono ?_;rintro e w' ⟨v',ys',h1,h2,h3,h4⟩;exact ⟨v',ys',h1,by rw [h2,List.map_id'],h3,h4⟩
theorem getLast_map {l:List En} {ys:List Ev} (h:ys.map Ev.e=l) (i:Nat):l[i]?=(ys[i]?).map Ev.e:=by rw [←h,List.getElem?_map]
variable {Z B Nn A C i:Nat} {w:World} {t:Tr} {f:Lk} {T K:Nat} {s:dP}
def Qw (Z B Nn:Nat) (w:World) (t:Tr) (f:Lk) (T K:Nat) (q:List UInt8×Nat) (E:cr) (cv:Value) (wx:World):Prop:=
 ∃ (c:Int) (f':Lk) (T':Nat) (V':bu) (cg:Value) (F':Nat→Prop),cv= .int .i64 c∧adN Z f T t.V 0 q E c f' T' V'∧cz Z B Nn wx {t with tv:=cg,V:=V',F:=F'} f' T' (K+1)∧eC w t wx {t with tv:=cg,V:=V',F:=F'}
theorem aAW (h:cz Z B Nn w t f T K) (hl:t.V.tabs.length≤5000) {av dv:Value} {E:cr} (hA:rV w av E.add) (hD:Ints w dv E.drop) (np:E.add.length≤5000) (fS:E.drop.length≤10000) (hk:iC E.add≤60000000) (td:(aV t.V E).1=0→zm E) (hn:0<Nn) {q:List UInt8×Nat} (hq:f (cD 0)=some q):
  Calls Tryz.prog 63 #[.pointer (some ⟨t.sb,0,none⟩),.agg (cV av dv E.seq E.next E.aj)] w fun e w'=>∃ cv,e= .returned cv∧Qw Z B Nn w t f T K q E cv w':=by
 refine (auy h.set h.own hl hA hD np fS hk td h.aW (h.base t.sb (.inr (.inr (.inr (.inl rfl))))) h.gV hn (by omega) hq).mono ?_;rintro e w' ⟨c,f',T',V',cg,F',rfl,hcm,hS,ho,hd,hs⟩;have Lu:w'.heap[t.sb]?=some (.cells (setCells t.p cg V' ((0:Nat):Int)) 154 (0,0)):=hS;obtain ⟨h1,h2⟩:=h.com hS ho hd hs (hd.apart Lu (by decide) (by decide) (by decide));exact ⟨_,rfl,c,f',T',V',cg,F',rfl,hcm,h1,h2⟩
theorem ajI (h:dI Z B Nn A C i w t f T K s) (hA:A≤100000) (hC:C≤1000000) (hi:i+3≤Nn) (AJ:i≤900000) (iz:s.V.tabs.length≤4999):
  Calls Tryz.prog 37 #[.pointer (some ⟨t.db,0,none⟩)] w (aAS Z B Nn A C i w t T s):=by
 obtain ⟨aM,cO⟩:=h.tree.mem;have iT:t.ns.length=(aS s.LL).length:=by rw [←h.mem,List.length_map]
 obtain ⟨n,hn⟩:∃ n:Nat,s.V.next=(n:Int):=⟨s.V.next.toNat,by have:=h.lim.Dv;omega⟩
 have Qx:n≤i:=by have:=h.lim.next;omega
 have lH:=h.Gm;have Fj:(aS s.LL).length≤A:=by have:=h.lim.pV;omega
 have hLc:costs (aS s.LL)≤C:=by have:=h.lim.cost;omega
 have Lv:=Qv (aS s.LL);have hval:∀ x∈aS s.LL,x.val.length≤33554432:=fun x hx=>(lH.ok x hx).val
 obtain ⟨eW,bs,mM,hm,mh,ajK⟩:=h.last;have Lx:t.m+1≤i:=by have h1:=h.m;have h2:=h.lim.aj;omega
 have ajL:t.seq<18446744073709551616:=by have:=h.uw;omega
 have nZ:f (dF n)=none:=by
  cases hfn:f (dF n) with
  |none=>rfl
  |some q=>
   obtain ⟨x,hx,iH⟩:=h.gy.only _ (Lq n) (by rw [hfn];simp);have h2:=ajA iH;have h3:=h.gy.files x hx;have h4:=(h.gy.good.tabs x hx).file.1;omega
 have rh:=h.opt;obtain ⟨size,hsize⟩:∃ size:Nat,t.o.block=(size:Int):=⟨t.o.block.toNat,by have:=rh.1.2.2.1;omega⟩
 have FR:1≤size:=by have:=rh.1.2.2.1;omega
 have OW:size≤67108864:=by have:=rh.1.2.2.2;omega
 have df:t.o.block.toNat=size:=by omega
 have Qy:=h.V;have ux:=h.tree.own;rw [Qy] at ux;have hst:=h.tree.set;rw [Qy] at hst;have XD:∀ b,t.N b→b<w.heap.size:=fun b hb=>(h.tree.apart b hb).1
 have sK:=Ua hst ux (by omega);have hall:=fun (W:World) (hg:Grow w W)=>ayc (cO.grow hg) (fun b hb=>cj (XD b hb) hg.size) (by rw [iT];omega)
 rw [h.mem] at hall;obtain ⟨c0,_,c7,c8,_,_,_,bA⟩:=h.tree.cell.cells;have AK:=ae (eC.refl w t);have H0:=ae h;have oJ:=ae (azt cO);have aAX:=ae XD;have Eh:=ae iT;have Hn:=ae hn;have Lz:=ae Qx;have Dx:=ae lH;have Qz:=ae Fj;have HLc:=ae hLc;have ajN:=ae Lv;have ajO:=ae hval;have Hm:=ae hm;have aAY:=ae mh;have aAZ:=ae ajK;have LA:=ae Lx;have ajP:=ae ajL;have MH:=ae nZ;have pR:=ae (ah hsize (ah FR (ah OW df)));have HV:=ae Qy;have Au:=ae sK;have eX:=ae hall;have uy:=ae (ah hA (ah hC (ah hi (ah AJ iz))));have Dy:=ae mM;clear cO h hn Qx lH Fj hLc Lv hval hm mh ajK Lx ajL nZ rh hsize FR OW df Qy ux hst XD sK hall hA hC hi AJ iz mM;go_enter Tryz.func37,Tryz.ntmps37
 go_wp2_with fail
 (with_reducible refine oJ.out.mono ?_);rintro e w1 ⟨rfl,rfl⟩;by_cases hz:t.ns.length=0
 ·have e0:((t.ns.length:Int)==0)=true:=by simp [hz]
  have Hz:=ae hz;clear hz iT;go_wp2;go_ret;exact ⟨0,t,f,T,K,s,rfl,AK.out,H0.out.more (Nat.le_succ i),fun x=>Iff.rfl,rfl,rfl,rfl,Nat.le_succ _,.inl rfl,by omega⟩
 have e0:((t.ns.length:Int)==0)=false:=beq_eq_false_iff_ne.2 (by omega);have Hz:=ae hz;clear hz iT;have hvn:=fun (tv:Value) (W:World)=>azj tv s.V.seq s.V.next s.V.aj W
 rw [Hn.out] at hvn;have sK:=Au.out;rw [Hn.out] at sK;have ajQ:=ae sK;obtain ⟨s0,_⟩:=H0.out.tree.set.cells;have lM:t.sb<w1.heap.size:=H0.out.tree.set.cells.2.2.2.2.2.2;clear sK Au
 go_wp2_with fail
 (with_reducible refine ajQ.out.mono ?_);rintro e w2 ⟨v2,rfl,_,hg2⟩;clear c0 c7 c8 bA s0 lM;obtain ⟨c0,_,c7,c8,_,_,_,bA⟩:=(H0.out.tree.grow hg2).cell.cells;have eD:=ae hg2;clear hg2
 go_wp2_with fail
 (with_reducible refine (eX.out w2 eD.out).mono ?_);rintro e w3 oY;obtain ⟨Bl,rfl,hg3,Kq⟩:=aAV oY (fun b hb=>cj (aAX.out b hb) eD.out.size) (by have:=Qz.out;have:=uy.out.1;omega) (fun x hx=>by have:=ajO.out x hx;omega);have jS:=eD.out.trans hg3;have OY:=ae Kq;clear c0 c7 c8 bA oY Kq;obtain ⟨c0,_,c7,c8,_,_,_,bA⟩:=(H0.out.tree.grow jS).cell.cells;have Ak:=ae jS;clear jS hg3
 go_wp2_with fail
 (with_reducible refine OY.out.mono ?_);rintro e w4 ⟨v4,ys,rfl,bJ,hrow,hg4⟩;clear OY;have oG:=Ak.out.trans hg4;have wh:=H0.out.tree.grow oG;have hE:Es (fun b=>w3.heap.size≤b) w4 v4 ys:=hrow.es (fun b hb=>hb.elim (fun x=>x.elim) id);have Dz:ys.length=(aS s.LL).length:=by rw [←bJ,List.length_map]
 have AL:aS s.LL≠ []:=fun e=>by have h1:=Eh.out;rw [e] at h1;exact Hz.out h1
 have ajR:0<ys.length:=by rw [Dz];exact List.length_pos_iff.2 AL
 obtain ⟨y0,mK⟩:∃ y,ys[0]?=some y:=⟨ys[0],by simp [ajR]⟩
 obtain ⟨y1,Aw⟩:∃ y,ys[ys.length-1]?=some y:=⟨ys[ys.length-1],by rw [List.getElem?_eq_getElem (by omega)]⟩
 have Gn:∀ y∈ys,De y.e:=fun y hy=>Dx.out.ok _ (by rw [←bJ];exact List.mem_map.2 ⟨y,hy,rfl⟩)
 have jA:y0.e.key.size≤65535:=(Gn y0 (dY mK)).key;have kR:y1.e.key.size≤65535:=(Gn y1 (dY Aw)).key;have tC:(aS s.LL)[0]?.map En.key=some y0.e.key:=by rw [getLast_map bJ,mK];rfl
 have fY:(aS s.LL)[(aS s.LL).length-1]?.map En.key=some y1.e.key:=by rw [←Dz,getLast_map bJ,Aw];rfl
 have hb1:=uy.out;have hb2:=Qz.out;have hb3:=HLc.out;have hb4:=ajN.out;have su:=Lz.out;have hwr:=azw (N:=Nn) (lvl:=0) (n:=n) wh.cell wh.set wh.aW wh.gV (by omega) (by omega) MH.out hE (fun b hb hF=>by have h1:=(H0.out.tree.aW.foot hF).2;have h2:=Ak.out.size;omega) (by rw [Dz];omega) (by rw [bJ];exact Dx.out.ord) (by rw [bJ];exact Dx.out.gone) pR.out.1 pR.out.2.1 pR.out.2.2.1
  (fun y hy=>⟨(Gn y hy).key,(Gn y hy).seq,(Gn y hy).val⟩) (by rw [bJ,Dz];omega) (by rw [bJ,Dz];have:=aiw (size:=size) AL (by omega) (by omega);omega) mK Aw
 rw [bJ,Dz] at hwr;have Hwr:=ae hwr;have Hk:=ae (ah jA (ah kR (ah tC fY)));have pD:=ae AL;have hDl:(fX size (aS s.LL)).length≤300000000:=aiw (size:=size) AL (by omega) (by omega);have HDl:=ae hDl;obtain ⟨va,vc,rfl⟩:=hE.slice;have uz:=ae wh;have KV:=ae oG;obtain ⟨D,hD⟩:∃ D,D=fX size (aS s.LL):=⟨_,rfl⟩
 have HD:=ae hD;generalize y0.e.key=k0 at*;generalize y1.e.key=k1 at*;clear wh hE Dz AL ajR mK Aw Gn jA kR tC fY hb1 hb2 hb3 hb4 su hwr hDl oG hrow bJ hg4 c0 c7 c8 bA hD Ak eX ajQ oJ;obtain ⟨c0,_,c7,c8,_,_,_,bA⟩:=uz.out.cell.cells
 go_wp2_with fail
 (with_reducible refine Hwr.out.mono ?_);rintro e w5 hp;clear Hwr c0 c7 c8 bA;rw [show fN (dM size [] (aS s.LL)) (aS s.LL).length (dn (aS s.LL))=D from HD.out.symm] at hp;rcases hp with ⟨hroom,rfl,F5,gM,hs5⟩|⟨pj,rfl,F5,gM,hs5⟩
 rotate_left
 ·obtain ⟨ri,yi⟩:=uz.out.Ds gM hs5
  have QA:=ae ri;have XE:=ae ((eC.bF t KV.out).trans yi);have KW:=ae pj;clear ri yi gM hs5 pj;go_wp2;go_ret;refine ⟨5,{t with F:=F5},f,T,K+1,s,rfl,XE.out.grow (Grow.alloc _ _),H0.out.put (QA.out.grow (Grow.alloc _ _)) rfl rfl rfl rfl rfl rfl rfl (by omega),fun x=>Iff.rfl,rfl,rfl,rfl,Nat.le_succ _,.inr ⟨rfl,.inl ?_⟩,by omega⟩;rw [pR.out.2.2.2,←HD.out];have:=KW.out;omega
 obtain ⟨ri,yi⟩:=uz.out.Ds gM hs5;have hgr:=Grow.alloc w5 (.cells #[.int .i64 (n:Int),.int .i64 0,.string k0,.string k1,.int .i64 (D.length:Int)] 101);have ep:=aw w5 (.cells #[.int .i64 (n:Int),.int .i64 0,.string k0,.string k1,.int .i64 (D.length:Int)] 101);have rj:=ri.grow hgr;have LB:=ae (((eC.bF t KV.out).trans yi).grow hgr);have JD:=ae hroom;clear gM hs5 yi ri hroom;have hL6:di (w5.alloc (.cells #[.int .i64 (n:Int),.int .i64 0,.string k0,.string k1,.int .i64 (D.length:Int)] 101)) t.lb t.p bU (t.m:Int):=rj.log;have xx:(f.set (dF n) (D,D.length)) (bp bU t.m)=some (bP aq (bs.map jx),(bP aq (bs.map jx)).length):=by rw [fZ _ (Ne.symm (rf (uo n) _))];exact aAY.out
 have ajU:(f.set (dF n) (D,D.length)) (bp bU (t.m+1))=none:=by rw [fZ _ (Ne.symm (rf (uo n) _))];exact aAZ.out
 have ajV:=auu EM rj.aW hL6 rj.gV (rj.base t.lb (.inr (.inr (.inr (.inr (.inl rfl)))))) xx ajU (by have:=LA.out;have:=uy.out;omega) (by have:=LA.out;have:=uy.out;omega);have vR:dT (w5.alloc (.cells #[.int .i64 (n:Int),.int .i64 0,.string k0,.string k1,.int .i64 (D.length:Int)] 101)) t.db t.sb t.o t.drv (.pointer (some ⟨t.lb,0,none⟩)) t.mb t.tm t.seq t.hm:=rj.cell;obtain ⟨c0,_,c7,c8,_,_,_,bA⟩:=vR.cells;have ajW:=ae ajV;have XF:=ae rj;have kA:=ae ep;clear hL6 xx ajU ajV vR rj ep hgr
 go_upto_region 5 with fail
 generalize w5.alloc (.cells #[.int .i64 (n:Int),.int .i64 0,.string k0,.string k1,.int .i64 (D.length:Int)] 101)=w6 at*;generalize w5.heap.size=rb at*
 go_wp2_with fail
 (with_reducible refine ajW.out.mono ?_);rintro e w7 ⟨rfl,F7,tN,Pf,nA⟩;obtain ⟨ht7,XG⟩:=XF.out.KX Pf tN nA;have Cs:=ae (LB.out.trans XG);have ajY:w7.heap[rb]?=some (.cells #[.int .i64 (n:Int),.int .i64 0,.string k0,.string k1,.int .i64 (D.length:Int)] 101 (0,0)):=(XG.sep.out rb (af kA.out) (XF.out.off kA.out (by decide))).trans kA.out;have Ct:=ae ht7;have Gp:=ae ajY;clear ajW LB tN Pf nA XG ht7 ajY c0 c7 c8 bA
 go_upto_region 9 with fail
 have hgd:=Grow.drew w7;have S9:∀ W,Grow w7 W→(W.cell? ⟨t.db,0,none⟩=some (.pointer (some ⟨t.sb,0,none⟩))∧W.cell? ⟨t.db,7,none⟩=some (.pointer (some ⟨t.lb,0,none⟩))∧W.cell? ⟨t.db,10,none⟩=some (.int .u64 (t.seq:Int))∧t.db<W.heap.size)∧(W.cell? ⟨rb,0,none⟩=some (.int .i64 (n:Int))∧W.cell? ⟨rb,1,none⟩=some (.int .i64 0)∧W.cell? ⟨rb,2,none⟩=some (.string k0)∧W.cell? ⟨rb,3,none⟩=some (.string k1)∧W.cell? ⟨rb,4,none⟩=some (.int .i64 (D.length:Int))∧rb<W.heap.size):=fun W hg=>by
  have hC:dT W t.db t.sb t.o t.drv (.pointer (some ⟨t.lb,0,none⟩)) t.mb t.tm t.seq t.hm:=(Ct.out.grow hg).cell;obtain ⟨c0,_,c7,_,_,c10,_,bA⟩:=hC.cells;obtain ⟨r0,r1,r2,r3,r4⟩:=cw (hg.heap Gp.out);exact ⟨⟨c0,c7,c10,bA⟩,r0,r1,r2,r3,r4,af (hg.heap Gp.out)⟩
 have Gq:=ae S9;clear S9;have vA:IntKind.i64.wrap ((n:Int)+1)=(n:Int)+1:=aR _ (by have:=Lz.out;have:=uy.out;omega);have hCm:∀ W qb,Grow w7 W→W.heap[qb]?=some (.cells #[.int .i64 (n:Int),.int .i64 0,.string k0,.string k1,.int .i64 (D.length:Int)] 101 (0,0))→
   Calls Tryz.prog 63 #[.pointer (some ⟨t.sb,0,none⟩),.agg (cV (.slice (some ⟨qb,0,none⟩) 1 1) (.slice none 0 0) (t.seq:Int) ((n:Int)+1) ((t.m+1:Nat):Int))] W fun e w'=>∃ cv,e= .returned cv∧Qw Z B Nn w7 {{t with F:=F5} with m:=t.m+1,F:=F7} ((f.set (dF n) (D,D.length)).set (bp bU (t.m+1)) ([],0)) (T+D.length) (K+1+1) (kJ s.es,(kJ s.es).length) (bO s t.seq D.length k0 k1 (t.m+1)) cv w':=fun W qb hg hq=>by
  obtain ⟨E,hE⟩:∃ E,E=bO s t.seq D.length k0 k1 (t.m+1):=⟨_,rfl⟩
  have e1:E.seq=(t.seq:Int):=by rw [hE];rfl
  have e2:E.next=(n:Int)+1:=by rw [hE];show s.V.next+1=_;rw [Hn.out]
  have e3:E.aj=((t.m+1:Nat):Int):=by rw [hE];rfl
  have e4:E.add= [⟨s.V.next,0,k0,k1,(D.length:Int)⟩]:=by rw [hE];rfl
  have e5:E.drop= []:=by rw [hE];rfl
  have hA:rV W (.slice (some ⟨qb,0,none⟩) 1 1) E.add:=by
   rw [e4];refine ⟨_,_,rfl,.inr ⟨qb,0,rfl,af hq,fun i x hx c u hu=> ?_⟩⟩;cases i with
   |zero=>
    simp only [List.getElem?_cons_zero,Option.some.injEq] at hx;subst hx;rw [Hn.out] at hu;obtain ⟨r0,r1,r2,r3,r4⟩:=cw hq
    match c,hu with
    |0,hu=>cases hu;exact r0
    |1,hu=>cases hu;exact r1
    |2,hu=>cases hu;exact r2
    |3,hu=>cases hu;exact r3
    |4,hu=>cases hu;exact r4
   |succ i=>simp at hx
  have hD:Ints W (.slice none 0 0) E.drop:=by rw [e5];exact ⟨none,0,rfl,ay _,.inl rfl⟩
  have hk:iC E.add=k0.size+k1.size:=by rw [e4];simp [iC]
  have hb:=uy.out;have oU:=Hk.out;have ux:t.V=s.V:=HV.out;have hc:=aAW (Ct.out.grow hg) (by dsimp only;rw [ux];omega) hA hD (by rw [e4];simp) (by rw [e5];simp) (by rw [hk];omega) (fun ha=>by
   dsimp only at ha;rw [ux,hE] at ha;rw [hE];exact ajC H0.out.gy.good ajP.out oU.1 oU.2.1 ha) (by omega) (q:=(kJ s.es,(kJ s.es).length)) (by
   rw [fZ _ (rf (Az 0) _),fZ _ (Ne.symm (Xy _ _))];exact H0.out.gy.Gh)
  rw [e1,e2,e3] at hc;refine hc.mono ?_;rintro e w' ⟨cv,rfl,c,f',T',V',cg,F',h1,h2,h3,h4⟩;rw [←hE];exact ⟨cv,rfl,c,f',T',V',cg,F',h1,h2,h3,(eC.bF _ hg).trans h4⟩
 have XH:=ae hCm;clear hCm;have vz:∀ wx cv,Qw Z B Nn w7 {{t with F:=F5} with m:=t.m+1,F:=F7} ((f.set (dF n) (D,D.length)).set (bp bU (t.m+1)) ([],0)) (T+D.length) (K+1+1) (kJ s.es,(kJ s.es).length) (bO s t.seq D.length k0 k1 (t.m+1)) cv wx→(wx.cell? ⟨t.db,0,none⟩=some (.pointer (some ⟨t.sb,0,none⟩))∧wx.cell? ⟨t.db,7,none⟩=some (.pointer (some ⟨t.lb,0,none⟩))∧wx.cell? ⟨t.db,10,none⟩=some (.int .u64 (t.seq:Int))∧t.db<wx.heap.size)∧(wx.cell? ⟨rb,0,none⟩=some (.int .i64 (n:Int))∧wx.cell? ⟨rb,1,none⟩=some (.int .i64 0)∧wx.cell? ⟨rb,2,none⟩=some (.string k0)∧wx.cell? ⟨rb,3,none⟩=some (.string k1)∧wx.cell? ⟨rb,4,none⟩=some (.int .i64 (D.length:Int))∧rb<wx.heap.size):=by
  rintro wx cv ⟨c,f',T',V',cg,F',h1,h2,h3,h4⟩;have hC:dT wx t.db t.sb t.o t.drv (.pointer (some ⟨t.lb,0,none⟩)) t.mb t.tm t.seq t.hm:=h3.cell;obtain ⟨c0,_,c7,_,_,c10,_,bA⟩:=hC.cells;have hr:=(h4.sep.out rb (af Gp.out) (Ct.out.off Gp.out (by decide))).trans Gp.out;obtain ⟨r0,r1,r2,r3,r4⟩:=cw hr;exact ⟨⟨c0,c7,c10,bA⟩,r0,r1,r2,r3,r4,af hr⟩
 have XI:=ae vz;clear vz
 go_cut [6] from 40 to 58 (fun cv wx=>Qw Z B Nn w7 {{t with F:=F5} with m:=t.m+1,F:=F7} ((f.set (dF n) (D,D.length)).set (bp bU (t.m+1)) ([],0)) (T+D.length) (K+1+1) (kJ s.es,(kJ s.es).length) (bO s t.seq D.length k0 k1 (t.m+1)) cv wx)
 case first=>
  refine afx (fun W=>(W.cell? ⟨t.db,0,none⟩=some (.pointer (some ⟨t.sb,0,none⟩))∧W.cell? ⟨t.db,7,none⟩=some (.pointer (some ⟨t.lb,0,none⟩))∧W.cell? ⟨t.db,10,none⟩=some (.int .u64 (t.seq:Int))∧t.db<W.heap.size)∧(W.cell? ⟨rb,0,none⟩=some (.int .i64 (n:Int))∧W.cell? ⟨rb,1,none⟩=some (.int .i64 0)∧W.cell? ⟨rb,2,none⟩=some (.string k0)∧W.cell? ⟨rb,3,none⟩=some (.string k1)∧W.cell? ⟨rb,4,none⟩=some (.int .i64 (D.length:Int))∧rb<W.heap.size)) [(0,false),(1,false),(2,false),(3,false),(4,false),(6,false),(7,false),(8,false),(9,false),(10,false),(11,false),(12,false),(13,false),(14,false),(15,false)] 5 16 [(16,true),(17,false),(18,true),(19,false)] [(5,true),(17,false),(18,true),(19,false)] (by kernel_rfl) (by kernel_rfl) (fun c a d v w h=>by cases d<;>exact h) (Gq.out _ hgd) ?_;simp only [aP,nth]
  repeat (first|(refine aB (v:= ?_) (by rfl) ?_ ?_;rotate_left;(rintro W ⟨⟨hW0,hW1,hW2,hW3⟩,mF,sj,mG,pK,xt,Dt⟩;go_simp;with_reducible rfl);simp only [ag,List.set])|(refine aC (by rfl) ?_;simp only [ag,List.set]))
  have ai:=Grow.alloc w7.drew (.cells #[.int .i64 (n:Int),.int .i64 0,.string k0,.string k1,.int .i64 (D.length:Int)] 101);have cx:=hgd.trans ai;have hrun:=arY w7.drew n 0 k0 k1 D.length;have hq:=aw w7.drew (.cells #[.int .i64 (n:Int),.int .i64 0,.string k0,.string k1,.int .i64 (D.length:Int)] 101);have kK:∀ W,Grow w7 W→di W t.lb t.p bU ((t.m+1:Nat):Int):=fun W hg=>(Ct.out.grow hg).log
  refine bm (afy ?_ ?_)
  ·simp only [aP,nth]
   refine fQ (by rfl) (fun K hK=> ?_);go_simp;refine hK _ _ ⟨Gq.out _ cx,?_⟩;clear hK K
   try first|simp only [ag,List.set]|simp only [aD]
   refine bj (by rfl) (by go_simp) (Ul (kK _ cx)) ?_;rintro e w9 ⟨rfl,rfl⟩;refine ⟨_,rfl,Gq.out _ cx,?_⟩
   try first|simp only [ag,List.set]|simp only [aD]
   repeat (first|(refine aB (v:= ?_) (by rfl) ?_ ?_;rotate_left;(rintro W ⟨⟨hW0,hW1,hW2,hW3⟩,mF,sj,mG,pK,xt,Dt⟩;go_simp;with_reducible rfl);simp only [ag,List.set])|(refine aC (by rfl) ?_;simp only [ag,List.set]))
   refine bj (by rfl) (by go_simp) (XH.out _ _ cx hq) ?_;rintro e wa ⟨cv,rfl,hcm⟩;refine ⟨_,rfl,XI.out _ _ hcm,?_⟩;have XJ:=ae hcm;clear hcm hrun ai hgd hq cx
   try first|simp only [ag,List.set]|simp only [aD]
   repeat (first|(refine aB (v:= ?_) (by rfl) ?_ ?_;rotate_left;(rintro W ⟨⟨hW0,hW1,hW2,hW3⟩,mF,sj,mG,pK,xt,Dt⟩;go_simp;with_reducible rfl);simp only [ag,List.set])|(refine aC (by rfl) ?_;simp only [ag,List.set]))
   refine bm ?_
   go_wp2_with fail
   go_meet;exact XJ.out
  ·simp only [aP,nth]
   refine bj (by rfl) (by go_simp) (Ul (kK _ hgd)) ?_;rintro e w9 ⟨rfl,rfl⟩;refine ⟨_,rfl,Gq.out _ hgd,?_⟩
   try first|simp only [ag,List.set]|simp only [aD]
   refine fQ (by rfl) (fun K hK=> ?_);go_simp;refine hK _ _ ⟨Gq.out _ cx,?_⟩;clear hK K
   try first|simp only [ag,List.set]|simp only [aD]
   repeat (first|(refine aB (v:= ?_) (by rfl) ?_ ?_;rotate_left;(rintro W ⟨⟨hW0,hW1,hW2,hW3⟩,mF,sj,mG,pK,xt,Dt⟩;go_simp;with_reducible rfl);simp only [ag,List.set])|(refine aC (by rfl) ?_;simp only [ag,List.set]))
   refine bj (by rfl) (by go_simp) (XH.out _ _ cx hq) ?_;rintro e wa ⟨cv,rfl,hcm⟩;refine ⟨_,rfl,XI.out _ _ hcm,?_⟩;have XJ:=ae hcm;clear hcm hrun ai hgd hq cx
   try first|simp only [ag,List.set]|simp only [aD]
   repeat (first|(refine aB (v:= ?_) (by rfl) ?_ ?_;rotate_left;(rintro W ⟨⟨hW0,hW1,hW2,hW3⟩,mF,sj,mG,pK,xt,Dt⟩;go_simp;with_reducible rfl);simp only [ag,List.set])|(refine aC (by rfl) ?_;simp only [ag,List.set]))
   refine bm ?_
   go_wp2_with fail
   go_meet;exact XJ.out
 case rest=>
 obtain ⟨c,f8,T8,V8,tv8,F8,rfl,hcm,qH,ve⟩:=hcut;have hE:(bO s t.seq D.length k0 k1 (t.m+1))=(bO s t.seq (fX t.o.block.toNat (aS s.LL)).length k0 k1 (t.m+1)):=by rw [pR.out.2.2.2,←HD.out]
 have ux:t.V=s.V:=HV.out;have Hs8:=ae (Cs.out.trans ve);have wV:=ae qH;have hl8:dT wc t.db t.sb t.o t.drv (.pointer (some ⟨t.lb,0,none⟩)) t.mb t.tm t.seq t.hm:=qH.cell;have HC8:=ae hl8;have HE:=ae hE;clear ve qH XH XI Gq Cs Ct Gp vA hgd hl8 kA XF hE;have eu:(cP (bO s t.seq D.length k0 k1 (t.m+1))).length≤200000:=ajB Hk.out.1 Hk.out.2.1;have dA:(bw aq (cP (bO s t.seq D.length k0 k1 (t.m+1)))).length≤200014:=by
  have h1:=kT aq (cP (bO s t.seq D.length k0 k1 (t.m+1)));have h2:=cf (cP (bO s t.seq D.length k0 k1 (t.m+1))).length;omega
 rcases hcm with ⟨ha,ake,rfl,rfl,rfl,rfl⟩|lS
 rotate_left
 ·have aBb:c≠0∧f8=(f.set (dF n) (D,D.length)).set (bp bU (t.m+1)) ([],0)∧T8=T+D.length∧V8=t.V∧(Z<T+D.length+300000∨(aV s.V (bO s t.seq D.length k0 k1 (t.m+1))).1≠0):=by
   rcases lS with ⟨_,h2,rfl,h4,h5,h6⟩|⟨h1,rfl,h4,h5,h6⟩
   ·exact ⟨by decide,h4,h5,h6,.inl (by omega)⟩
   ·dsimp only at h1
    exact ⟨h1,h4,h5,h6,.inr (by rw [←ux];exact h1)⟩
  obtain ⟨hc0,rfl,rfl,rfl,akf⟩:=aBb;have aBc:=ae akf;have e1:(c != 0)=true:=by simpa using hc0
  clear lS akf hc0 eu dA ux
  go_upto_region 11 with fail
  have hgd:=Grow.drew wc;have S11:∀ W,Grow wc W→W.cell? ⟨t.db,0,none⟩=some (.pointer (some ⟨t.sb,0,none⟩))∧t.db<W.heap.size∧W.cell? ⟨t.sb,0,none⟩=some (.pointer (some ⟨t.p,0,none⟩))∧t.sb<W.heap.size:=fun W hg=>by
   obtain ⟨c0,_,_,_,_,_,_,bA⟩:=(HC8.out.grow hg).cells;have hS:dy W t.sb t.p tv8 t.V ((0:Nat):Int):=(wV.out.grow hg).set;exact ⟨c0,bA,hS.cells.1,hS.cells.2.2.2.2.2.2⟩
  have XK:=ae S11;clear S11;refine bX (fun W=>W.cell? ⟨t.db,0,none⟩=some (.pointer (some ⟨t.sb,0,none⟩))∧t.db<W.heap.size∧W.cell? ⟨t.sb,0,none⟩=some (.pointer (some ⟨t.p,0,none⟩))∧t.sb<W.heap.size) [(0,false),(1,false),(2,false),(3,false),(4,false),(5,false),(6,false),(7,false),(8,true),(9,true),(10,true)] (by kernel_rfl) (by kernel_rfl) (fun c a d v w h=>by cases d<;>exact h) (XK.out _ hgd) ?_;simp only [aP,nth]
  repeat (first|(refine aB (v:= ?_) (by rfl) ?_ ?_;rotate_left;(rintro W ⟨hW0,hW1,hW2,hW3⟩;go_simp;with_reducible rfl);simp only [ag,List.set])|(refine aC (by rfl) ?_;simp only [ag,List.set]))
  refine bj (by rfl) (by go_simp) (VW (wV.out.grow hgd).gV (n:=n) (by have:=Lz.out;have:=uy.out;omega) (by have:=Lz.out;have:=uy.out;omega)) ?_;rintro e w9 ⟨rfl,fW⟩;have nU:=hgd.trans fW;refine ⟨_,rfl,XK.out _ nU,?_⟩
  try first|simp only [ag,List.set]|simp only [aD]
  have hgb:=Grow.alloc w9 (.cells #[.string (dF n)] 9);have LC:=nU.trans hgb;refine ry (by rfl) (ru (v:= .string (dF n)) rfl Tryz.underlying95 Tryz.Mv rfl rfl rfl) (XK.out _ LC) ?_
  try first|simp only [ag,List.set]|simp only [aD]
  have hdd:Dl Z B (w9.alloc (.cells #[.string (dF n)] 9)) t.p t.r ((f.set (dF n) (D,D.length)).set (bp bU (t.m+1)) ([],0)) (T+D.length) (K+1+1+1) F8:=(wV.out.grow LC).aW;refine bj (by rfl) (by go_simp) (SP hdd (q:=(D,D.length)) (by rw [fZ _ (rf (uo n) _),qw]) (aw _ _)) ?_;rintro e wb ⟨rfl,F9,fF,iY⟩;obtain ⟨vV,akh⟩:=(wV.out.grow LC).Ds fF iY;have DA:dT wb t.db t.sb t.o t.drv (.pointer (some ⟨t.lb,0,none⟩)) t.mb t.tm t.seq t.hm:=vV.cell;have Gg:dy wb t.sb t.p tv8 t.V ((0:Nat):Int):=vV.set;refine ⟨_,rfl,⟨DA.cells.1,DA.cells.2.2.2.2.2.2.2,Gg.cells.1,Gg.cells.2.2.2.2.2.2⟩,?_⟩;have Ht9:=ae vV;have Hs9:=ae ((Hs8.out.grow LC).trans akh);clear vV akh fF iY hdd LC hgb nU fW hgd DA Gg
  try first|simp only [ag,List.set]|simp only [aD]
  refine bm ?_;go_wp2;go_ret;refine ⟨5,_,_,_,_,{s with LL:=s.LL++ [[]]},rfl,Hs9.out,H0.out.aAP Ht9.out rfl rfl rfl rfl rfl rfl ?_ (by omega),fun x=>by rw [show dE {s with LL:=s.LL++ [[]]}=dE s from XC s.V s.LL s.az s.es],rfl,rfl,rfl,Nat.le_succ _,.inr ⟨rfl,?_⟩,by omega⟩
  ·rw [aqo _ (rf (uo n) _),abc,SK (by rw [fZ _ (rf (uo n) _)];exact MH.out)]
  ·rcases aBc.out with h1|h1
   ·exact .inl (by rw [pR.out.2.2.2,←HD.out];exact h1)
   ·exact .inr ⟨k0,k1,Hk.out.2.2.1,Hk.out.2.2.2,by rw [←HE.out];exact h1⟩
 have aHI:=ae ake;have pM:=ae dA;dsimp only at ha;rw [ux] at ha;have Ha:=ae ha;clear ake dA eu ha ux
 go_upto_region 13 with fail
 have hgd:=Grow.drew wc;have XM:∀ W,Grow wc W→W.cell? ⟨t.db,7,none⟩=some (.pointer (some ⟨t.lb,0,none⟩))∧t.db<W.heap.size:=fun W hg=>by
  obtain ⟨_,_,c7,_,_,_,_,bA⟩:=(HC8.out.grow hg).cells;exact ⟨c7,bA⟩
 refine bX (fun W=>W.cell? ⟨t.db,7,none⟩=some (.pointer (some ⟨t.lb,0,none⟩))∧t.db<W.heap.size) [(0,false),(1,false),(2,false),(3,false),(4,false),(5,false),(6,false),(7,false),(8,true),(9,true)] (by kernel_rfl) (by kernel_rfl) (fun c a d v w h=>by cases d<;>exact h) (XM _ hgd) ?_;simp only [aP,nth];have aBf:=ae XM;clear XM
 repeat (first|(refine aB (v:= ?_) (by rfl) ?_ ?_;rotate_left;(rintro W ⟨hW0,hW1⟩;go_simp;with_reducible rfl);simp only [ag,List.set])|(refine aC (by rfl) ?_;simp only [ag,List.set]))
 have kK:di wc.drew t.lb t.p bU ((t.m+1:Nat):Int):=(wV.out.grow hgd).log;refine bj (by rfl) (by go_simp) (Ul kK) ?_;rintro e w9 ⟨rfl,rfl⟩;refine ⟨_,rfl,aBf.out _ hgd,?_⟩
 try first|simp only [ag,List.set]|simp only [aD]
 obtain ⟨X,hX⟩:∃ X,X=kJ s.es++bw aq (cP (bO s t.seq D.length k0 k1 (t.m+1))):=⟨_,rfl⟩
 have HX:=ae hX;have QB:t.m+1=s.V.aj.toNat+s.LL.length∧0<s.LL.length:=by
  have h1:=H0.out.m;have h2:=H0.out.lim.vY;have h3:=List.length_pos_iff.2 H0.out.ne;omega
 have aki:fG (((f.set (dF n) (D,D.length)).set (bp bU (t.m+1)) ([],0)).set (cD 0) (X,X.length)) s.V.aj.toNat (fB (ib s.LL)++ [[]]):=by
  have h3:=((H0.out.log.Qb (uo n) (D,D.length)).KX).Qb (Az 0) (X,X.length);rw [yh,←QB.1] at h3;exact h3
 have vV:=wV.out.grow hgd;have fF:Dl Z B wc.drew t.p t.r (((f.set (dF n) (D,D.length)).set (bp bU (t.m+1)) ([],0)).set (cD 0) (X,X.length)) (T+D.length+(bw aq (cP (bO s t.seq D.length k0 k1 (t.m+1)))).length) (K+1+1+1) F8:=by rw [hX];exact vV.aW
 have vI:(fB (ib s.LL)++ [[]]).length=s.LL.length+1:=by rw [List.length_append,yh];rfl
 have hb0:=uy.out;have hb1:=LA.out;have LD:=H0.out.K;have DB:=adL (b:=s.LL.length) rfl aki fF kK vV.gV (by omega) (by rw [vI];omega) (by rw [vI];omega) (by rw [vI];omega) (by rw [vI];omega) (by rw [vI];omega);rw [show s.V.aj.toNat+s.LL.length=t.m+1 from QB.1.symm] at DB;refine bj (by rfl) (by go_simp) DB ?_;rintro e wd ⟨rfl,F9,hdd,ml,hsd⟩;obtain ⟨XN,akk⟩:=vV.Ds hdd hsd;have XO:dT wd t.db t.sb t.o t.drv (.pointer (some ⟨t.lb,0,none⟩)) t.mb t.tm t.seq t.hm:=XN.cell;obtain ⟨d0,_,d7,d8,_,_,_,bA⟩:=XO.cells;refine ⟨_,rfl,⟨d7,bA⟩,?_⟩;have Gr:=ae XN;have Qj:=ae ((Hs8.out.grow hgd).trans akk);have HCd:=ae XO;have Fz:=ae QB;clear XN akk hsd hdd ml DB fF vV aki kK hX QB vI hb0 hb1 LD hgd XO
 try first|simp only [ag,List.set]|simp only [aD]
 refine bm ?_;obtain ⟨f9,QC⟩:∃ f9,f9=nC bU s.V.aj.toNat (((f.set (dF n) (D,D.length)).set (bp bU (t.m+1)) ([],0)).set (cD 0) (X,X.length)) s.LL.length:=⟨_,rfl⟩
 rw [←QC] at Gr;have Gs:f9 (dF n)=some (fN (dM size [] (aS s.LL)) (aS s.LL).length (dn (aS s.LL)),(fN (dM size [] (aS s.LL)) (aS s.LL).length (dn (aS s.LL))).length):=by
  rw [QC,EO _ _ _ _ (fun j _=>rf (uo n) _),fZ _ (Xy n 0),fZ _ (rf (uo n) _),qw,HD.out]
 have hb1:=Qz.out;have hb2:=HLc.out;have hb3:=ajN.out;have hb4:=uy.out;have su:=Lz.out;have jz:=aie HCd.out Gr.out.set Gr.out.aW Gr.out.gV (n:=n) (by omega) (by omega) Gs pD.out Dx.out.ord Dx.out.gone Dx.out.ok (by omega) (by omega) Gr.out.tabs;have Hld:=ae jz;have Hf9:=ae QC;clear Gs hb1 hb2 hb3 hb4 su jz QC
 go_wp2_with fail
 (with_reducible refine Hld.out.mono ?_);rintro e we ⟨rfl,tb,LF⟩;obtain ⟨Eu,vO⟩:=Gr.out.ldd LF Dx.out.ord (by have:=Qz.out;have:=uy.out;omega) ajO.out;clear d0 d7 d8 bA Hld;have QD:dT we t.db t.sb t.o t.drv (.pointer (some ⟨t.lb,0,none⟩)) t.mb t.tm t.seq t.hm:=Eu.cell;obtain ⟨d0,_,d7,d8,_,_,_,bA⟩:=QD.cells;have d6:=QD.drv;have hdr:Iw (fun b=>t.N b∨(wd.heap.size≤b∧b<we.heap.size)) we t.drv t.ds:=Eu.draws;have Hmn:=ae (awE hdr);have Hte:=ae Eu;have CZ:=ae (Qj.out.trans vO);have HCe:=ae QD;clear Eu vO hdr QD LF
 go_wp2_with fail
 (with_reducible refine Hmn.out.mono ?_);rintro e wf ⟨mb',ha',Ng,rfl,hM,iP,ue,Gd⟩;obtain ⟨htf,hsf⟩:=Hte.out.aAe hM iP ue Gd;have ff:∀ j,wf.frozen? ⟨t.db,j,none⟩=false:=fun j=>by
  have h1:wf.heap[t.db]?=some (.cells (oO t.sb t.o t.drv (.pointer (some ⟨t.lb,0,none⟩)) t.mb t.tm t.seq t.hm) 93 (0,0)):=HCe.out.grow iP;simp [World.frozen?,h1]
 clear d0 d7 d8 bA d6 Hmn;obtain ⟨d0,_,d7,d8,_,_,_,bA⟩:=(HCe.out.grow iP).cells;have Htf:=ae htf;have Hsf:=ae (CZ.out.trans hsf);clear htf hsf hM iP ue Gd;go_wp2;go_ret;have hE:=HE.out;have gJ:=H0.out.aAQ (b:=tb) (k0:=k0) (k1:=k1) Hn.out ajP.out Hk.out.1 Hk.out.2.1 (by rw [←hE];exact Ha.out) pD.out Htf.out (by dsimp only;rw [←hE,HV.out]) rfl rfl rfl rfl rfl (by
  rw [Hf9.out,HX.out,←hE,pR.out.2.2.2,←HD.out]) (by omega)
 refine ⟨0,_,_,_,_,_,rfl,Hsf.out,gJ,ajG H0.out.gy.files (by rw [←hE];exact Ha.out),rfl,rfl,rfl,?_,.inl rfl,?_⟩
 ·show (aV s.V _).2.tabs.length≤_
  rw [(Lr (by rw [←hE];exact Ha.out)).length_eq];simp
 ·rw [pR.out.2.2.2,←HD.out]
  have:=pM.out;omega
end Go.Proofs.YtoolkdapflaeeaaGreatDoor
